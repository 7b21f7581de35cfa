/-
  Texts joined: XShU XShW. No condition.
-/
import Derived.Test.YtfakdapglbgokaaI15
import Derived.Test.YtfakdapglbgokaaI17
import Derived.Test.YtfakdapglbgokaaI16
/-
  The plain machine: some objects as one abstract object. No condition.
-/
namespace Go.Proofs.Ytfakdapglbgokaa
set_option linter.all false
open Go.RowKit
/-- Objects as they lie, as one: its address names object 0. -/
def PackI (R : Hp → Prop) (w : World) (A Fp : Nat → Prop) (b : Nat) : Prop :=
  ∃ (h : Hp) (ρ : Plan_) (fp : Nat → Nat → Prop) (c : Nat), R h ∧ ρ 0 = some (some (b, c)) ∧ (∀ id, 8 ≤ id → ρ id = none) ∧ (∀ id o, geth h id = some o → ObjRep w A ρ id (fp id) o) ∧
    (∀ id id' o o', id ≠ id' → geth h id = some o → geth h id' = some o' → ∀ k, fp id k → ¬ fp id' k) ∧ (∀ k, Live h fp k → k < w.heap.size) ∧ ∀ k, Fp k ↔ Live h fp k
def packA (R : Hp → Prop) : AbsI where
  I := PackI R
  lt := by rintro w A Fp b ⟨h, ρ, fp, c, _, _, _, _, _, h6, h7⟩ k hk; exact h6 k ((h7 k).1 hk)
  keep := by
    rintro w w' A A' Fp b ⟨h, ρ, fp, c, h1, h2, h3, h4, h5, h6, h7⟩ hs hA hb
    exact ⟨h, ρ, fp, c, h1, h2, h3, fun id o ho => (h4 id o ho).mono ⟨hs, hA, fun _ _ h => h⟩ fun k hk => hb k ((h7 k).2 ⟨id, o, ho, hk⟩), h5, fun k hk => Nat.lt_of_lt_of_le (h6 k hk) hs.size, h7⟩
theorem okNames_inj {m n U : Nat} {D : List (Nat × Nat)} {hp' : Hp} (hok : okNames m n D hp' = true) {id id' : Nat} (ho : geth hp' id ≠ none) (ho' : geth hp' id' ≠ none) (e : rn D U id = rn D U id') : id = id' := by
  simp only [okNames, Bool.and_eq_true, decide_eq_true_eq] at hok
  obtain ⟨⟨⟨h1, h2⟩, h3⟩, h4⟩ := hok
  have a1 := List.all_eq_true.1 h3 id (geth_ids ho)
  have a2 := List.all_eq_true.1 h3 id' (geth_ids ho')
  obtain ⟨b1, b2⟩ := rn_any (U := U) D id a1
  obtain ⟨c1, c2⟩ := rn_any (U := U) D id' a2
  rw [b1, c1] at e
  rw [e] at b2
  have m1 : (id, rn D 0 id') ∈ D.filter fun p => (idsH hp').contains p.1 := List.mem_filter.2 ⟨b2, by simpa using geth_ids ho⟩
  have m2 : (id', rn D 0 id') ∈ D.filter fun p => (idsH hp').contains p.1 := List.mem_filter.2 ⟨c2, by simpa using geth_ids ho'⟩
  exact nodup_snd h4 m1 m2
theorem okNames_low {m n U : Nat} {D : List (Nat × Nat)} {hp' : Hp} (hok : okNames m n D hp' = true) {id : Nat} (hid : id < m) : rn D U id = id := by
  simp only [okNames, Bool.and_eq_true, decide_eq_true_eq] at hok
  obtain ⟨⟨⟨h1, h2⟩, h3⟩, h4⟩ := hok
  have := List.all_eq_true.1 h2 id (List.mem_range.2 hid)
  simp only [Bool.and_eq_true, beq_iff_eq] at this
  rw [(rn_any D id this.2).1]; exact this.1
theorem okNames_fresh {m n U : Nat} {D : List (Nat × Nat)} {hp' : Hp} (hok : okNames m n D hp' = true) {id : Nat} (hid : n ≤ id) : rn D U id = U + id := by
  simp only [okNames, Bool.and_eq_true, decide_eq_true_eq] at hok
  exact rn_fresh D hok.1.1.1 id hid
/-- What lies behind a call, under other names, as one. -/
theorem pack_of {R : Hp → Prop} {O : Nat → Prop} {ρ' : Plan_} {fp' : Nat → Nat → Prop} {h2 h2' : Hp} {w' : World} {m : Nat} {D : List (Nat × Nat)} (hR : R h2') (q1 : HeapOk O ρ' fp' h2 w') (hfr : ∀ id, ρ' id ≠ none → id < 16) (hok : okNames m 8 D h2' = true) (hM : ObjsM (rn D 16) h2 h2') {b c : Nat} (hb : ρ' (rn D 16 0) = some (some (b, c))) :
    PackI R w' (fun k => O k ∨ Live h2' (fun i => fp' (rn D 16 i)) k) (fun k => Live h2' (fun i => fp' (rn D 16 i)) k) b ∧ ∀ k, Live h2' (fun i => fp' (rn D 16 i)) k → Live h2 fp' k := by
  have hsub : ∀ k, Live h2' (fun i => fp' (rn D 16 i)) k → Live h2 fp' k := by
    rintro k ⟨id, o', ho, hk⟩
    obtain ⟨o, h1, _⟩ := hM.get id o' ho
    exact ⟨_, o, h1, hk⟩
  refine ⟨⟨h2', fun i => ρ' (rn D 16 i), fun i => fp' (rn D 16 i), c, hR, hb, fun i hi => ?_, fun id o' ho => ?_, fun id id' o o' hne ho ho' k hk => ?_, fun k hk => (q1.lt k (hsub k hk)).1, fun k => Iff.rfl⟩, hsub⟩
  · show ρ' (rn D 16 i) = none
    rw [okNames_fresh hok hi]
    cases e : ρ' (16 + i) with
    | none => rfl
    | some p => have := hfr (16 + i) (by rw [e]; simp); omega
  · obtain ⟨o, h1, h3⟩ := hM.get id o' ho
    exact (h3.back (q1.objs _ _ h1)).weaken fun k hk _ => hk.imp (fun h => h) (hsub k)
  · obtain ⟨x, h1, _⟩ := hM.get id o ho
    obtain ⟨y, h3, _⟩ := hM.get id' o' ho'
    exact q1.disj _ _ x y (fun e => hne (okNames_inj hok (by rw [ho]; simp) (by rw [ho']; simp) e)) h1 h3 k hk
theorem rep_noPl {w : World} {A : Nat → Prop} {ρ : Plan_} {r : SV} {v : Value} (h : RepV w A ρ r v) (hr : ∀ σ, ren σ r = r) (hfr : ∀ id, ρ id ≠ none → id < 16) : RepV w A noPl r v := by
  have h1 : RepV w A ρ (ren (fun _ => 16) r) v := by rw [hr]; exact h
  have h2 := ren_back h1
  have e : (fun id => ρ ((fun _ => 16) id)) = noPl := by
    funext id
    cases e : ρ 16 with
    | none => simp [e, noPl]
    | some p => have := hfr 16 (by rw [e]; simp); omega
  rw [e] at h2; exact h2
/-- A method of objects, as of one. -/
theorem scalls_pack {P : Program} {f : FuncId} {args : List SV} {R1 R2 : Hp → Prop} {r : SV} (he : Enters P f)
    (h : ∀ h1, R1 h1 → ∃ h2 h2' D, R2 h2' ∧ SCalls P f (.ptr 0 0 :: args) h1 8 r h2 ∧ okNames 1 8 D h2' = true ∧ ObjsM (rn D 16) h2 h2')
    (ha : ∀ σ, args.map (ren σ) = args) (hr : ∀ σ, ren σ r = r) (id q : Nat) : SCalls P f (.ptr id 0 :: args) [(id, .abs (packA R1))] q r [(id, .abs (packA R2))] := by
  refine scalls_in1 he (fun O Fp w b vs hI hO hd hv => ?_) ha id q
  obtain ⟨h1, ρ, fp, c, hR, h0, hn, hobj, hdis, hlt, hF⟩ := hI
  obtain ⟨h2, h2', D, hR2, hS, hok, hM⟩ := h h1 hR
  have hA : (fun k => O k ∨ Fp k) = fun k => O k ∨ Live h1 fp k := by funext k; rw [hF]
  rw [hA] at hobj hv
  refine (hS.2 O ρ fp w (.pointer (some ⟨b, 0, none⟩) :: vs) ⟨hobj, hdis, fun k hk => ⟨hlt k hk, hd k ((hF k).2 hk)⟩, hO⟩ (Reps.cons (.ptr h0) (hv.mono (.refl _ _) (fun _ h _ => h) fun _ _ h => by cases h)) (fun id h3 _ => hn id h3)).mono ?_
  rintro e w' ⟨v, ρ', fp', rfl, q1, q2, q3, q4, q5, q6⟩
  have hfr : ∀ id, ρ' id ≠ none → id < 16 := fun id hid => by
    rcases q5 id hid with h3 | h3
    · rcases Nat.lt_or_ge id 8 with h4 | h4
      · omega
      · exact absurd (hn id h4) h3
    · omega
  have hb : ρ' (rn D 16 0) = some (some (b, c)) := by rw [okNames_low hok (by omega)]; exact q4 _ _ h0
  obtain ⟨hp, hsub⟩ := pack_of hR2 q1 hfr hok hM hb
  refine ⟨v, _, rfl, hp, fun k hk => ?_, q3.mono fun k hk => (hF k).2 hk, ?_⟩
  · obtain ⟨id, o, ho, hk2⟩ := hsub k hk
    exact (q6 id o ho k hk2).imp (fun h => (hF k).2 h) fun h => h
  · exact (rep_noPl q2 hr hfr).weaken fun k hk _ => hk.imp (fun h => h) (hsub k)
/-- A function that makes objects, as one. -/
theorem scalls_packnew {P : Program} {f : FuncId} {args : List SV} {R : Hp → Prop} (he : Enters P f)
    (h : ∃ i h2 h2' D, R h2' ∧ SCalls P f args [] 8 (.ptr i 0) h2 ∧ okNames 0 8 D h2' = true ∧ ObjsM (rn D 16) h2 h2' ∧ rn D 16 0 = i)
    (ha : ∀ σ, args.map (ren σ) = args) (q : Nat) : SCalls P f args [] q (.ptr q 0) [(q, .abs (packA R))] := by
  refine scalls_new he (fun O w vs hO hv => ?_) ha q
  obtain ⟨i, h2, h2', D, hR, hS, hok, hM, hi⟩ := h
  have hO2 : (fun k => O k ∨ Live [] (fun _ _ => False) k) = O := by funext k; simp [Live, geth]
  refine (hS.2 O noPl (fun _ _ => False) w vs ⟨fun id o ho => by simp [geth] at ho, fun id id' o o' _ ho => by simp [geth] at ho, fun k ⟨id, o, ho, _⟩ => by simp [geth] at ho, hO⟩ (by rw [hO2]; exact hv) (fun _ _ _ => rfl)).mono ?_
  rintro e w' ⟨v, ρ', fp', rfl, q1, q2, q3, q4, q5, q6⟩
  have hfr : ∀ id, ρ' id ≠ none → id < 16 := fun id hid => by
    rcases q5 id hid with h3 | h3
    · exact absurd rfl h3
    · omega
  cases q2 with
  | ptr hb =>
    rename_i b c
    rw [← hi] at hb
    obtain ⟨hp, hsub⟩ := pack_of hR q1 hfr hok hM hb
    refine ⟨b, _, rfl, hp, fun k hk => ?_, q3.below (Nat.le_refl _) fun k ⟨id, o, ho, _⟩ => by simp [geth] at ho⟩
    obtain ⟨id, o, ho, hk2⟩ := hsub k hk
    rcases q6 id o ho k hk2 with ⟨id, o, ho, _⟩ | h
    · simp [geth] at ho
    · exact h
end Go.Proofs.Ytfakdapglbgokaa

/-
  The plain machine: what a walk by steps needs. No condition.
-/
namespace Go.Proofs.Ytfakdapglbgokaa
set_option linter.all false
open Go.RowKit
variable {P : Program} {s : SSt} {os : List SOper} {o : SOper} {tr : List Tch} {R : SSt → List Tch → Prop}
theorem sopsg_cases {b want : Bool} (h1 : b = true → SOpsG P (.bool true) want o os s tr R) (h2 : b = false → SOpsG P (.bool false) want o os s tr R) : SOpsG P (.bool b) want o os s tr R := by
  cases b
  · exact h2 rfl
  · exact h1 rfl
/-- A call with objects. -/
theorem call_h {dst : Option Nat} {g : FuncId} {args : List SV} {h1 h2 : Hp} {r : SV} (h : SCalls P g args h1 s.nx r h2) (hs : SubH s.hp h1) (hu : Uniq h2)
    (hn : SOps P os ⟨putd s.sl dst r, mergeH s.hp h1 h2, s.nx + 8⟩ (⟨[], (idsH h1 ++ idsH h2).filter fun i => ![].contains i⟩ :: tr) R) : SOpsC P (.fn (.func g) [] []) args dst os s tr R :=
  call_do (by simpa using h) hs hu [] (by simp) hn
/-- A call that only looks at objects. -/
theorem call_r {dst : Option Nat} {g : FuncId} {args : List SV} {h1 : Hp} {r : SV} (h : SCalls P g args h1 s.nx r h1) (hs : SubH s.hp h1) (hu : Uniq h1)
    (hn : SOps P os ⟨putd s.sl dst r, mergeH s.hp h1 h1, s.nx + 8⟩ (⟨idsH h1, (idsH h1 ++ idsH h1).filter fun i => !(idsH h1).contains i⟩ :: tr) R) : SOpsC P (.fn (.func g) [] []) args dst os s tr R :=
  call_do (by simpa using h) hs hu (idsH h1) (fun _ _ => rfl) hn
theorem swp_block1 {X : Cx} {Q : SExit → SSt → Prop} {id : Nat} {a b : SCode} (h : SWp X (.seq a b) (QBlock id Q) s) : SWp X (.block id (.seq a b)) Q s := swp_block h
theorem swp_block2 {X : Cx} {Q : SExit → SSt → Prop} {id : Nat} {d : Bool} {l : List SOper} {k : List Nat} (h : SWp X (.reg d l k) (QBlock id Q) s) : SWp X (.block id (.reg d l k)) Q s := swp_block h
/-- Rows and cells that are no longer written to, from here on. -/
theorem swp_frz {X : Cx} {Q : SExit → SSt → Prop} {c : SCode} (D : List Nat) (hf : FrzOk s.hp D) (h : SWp X c Q ⟨frzS (geth s.hp) D s.sl, frzH (geth s.hp) D s.hp, s.nx⟩) : SWp X c Q s := swp_wk (wk_frz D hf.get) h
theorem sopsk_rg {c : Prop} {hd : Decidable c} {r : Option (SV × Upd × Nat)} {dst : Option Nat} {t : List Nat} (h : c) (hn : SOpsK P r dst t os s tr R) : SOpsK P (@rg _ c hd r) dst t os s tr R := by
  rw [rg_pos h]; exact hn
theorem draw_ok {l : List (SOper × Tch)} {p : Prop} (h : okDraw l = true) (hp : p) : okDraw l = true ∧ p := ⟨h, hp⟩
end Go.Proofs.Ytfakdapglbgokaa
