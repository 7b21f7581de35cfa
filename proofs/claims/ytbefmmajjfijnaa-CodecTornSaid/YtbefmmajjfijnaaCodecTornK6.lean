/-
  Texts joined: XIntC XCodO XCpls XPloB XPlnY XPlnZ XPloD XCodN. No condition.
-/
import Derived.Test.YtbefmmajjfijnaaProg
import Derived.ProofKit
import Derived.Test.YtbefmmajjfijnaaRows
import Derived.Deep.QuietTactic
import Derived.BigQuiet
import Derived.WalkSmall
import Derived.Handy
import Derived.WalkSpells
import Derived.RegionTactic
import Derived.BigRegion
import Derived.Deep.RegionLaw
import Derived.KernelRfl
import Derived.Test.YtbefmmajjfijnaaCodecTornK5
namespace Go.Proofs.Ytbefmmajjfijnaa
set_option linter.all false
open Go.RowKit
theorem qas7 {α : Type} : ∀ (h : Hp) (k : Hp → α), fSp h k = k h
 | [], _ => rfl
 | p :: h, k => by
  show fSp h (fun h => k (p :: h)) = k (p :: h)
  rw [qas7 h]
theorem qas6 {α : Type} : ∀ (u : Upd) (h : Hp) (k : Hp → α), fUpd u h k = k (upds h u)
 | [], _, _ => rfl
 | (i, some o) :: u, h, k => by
  show fNat i (fun i => fO o fun o => fSp (puthR h i o) fun h => fUpd u h k) = _
  simp only [qaff, fO_eq, qas7, qas6 u, qasf]; rfl
 | (i, none) :: u, h, k => by
  show fSp (delhR h i) (fun h => fUpd u h k) = _
  simp only [qas7, qas6 u, qatb]; rfl
theorem qa3p {α : Type} (cr : List Nat) (s : SSt) (k : SSt → α) : fKeep cr s k = k (s.keep cr) := by
 unfold fKeep
 have : ∀ (cr : List Nat) (k : Sl → α), (List.rec (fun k => k []) (fun t _ ih k => getK s.sl t fun v => ih fun sl => k ((t, v) :: sl)) cr : (Sl → α) → α) k = k (cr.map fun t => (t, gets s.sl t)) := by
  intro cr
  induction cr with
  | nil => intro k; rfl
  | cons t cr ih =>
   intro k
   show getK s.sl t (fun v => (List.rec (fun k => k []) (fun t _ ih k => getK s.sl t fun v => ih fun sl => k ((t, v) :: sl)) cr : (Sl → α) → α) fun sl => k ((t, v) :: sl)) = _
   rw [qa1u, ih]
   rfl
 rw [this]
 rfl
theorem qaeq (hp : Hp) : ∀ (f : Nat) (l : List Nat) (acc : Hp), SubH hp acc → SubH hp (qa2t hp f l acc)
 | 0, l, acc, h => h
 | f + 1, [], acc, h => h
 | f + 1, i :: l, acc, h => by
  show SubH hp (Option.rec (Option.rec (qa2t hp f l acc) (fun o => qa2t hp f (nmO o ++ l) ((i, o) :: acc)) (qail hp i)) (fun _ => qa2t hp f l acc) (qail acc i))
  cases qail acc i with
  | some o => exact qaeq hp f l acc h
  | none =>
   cases ho : qail hp i with
   | some o => exact qaeq hp f _ _ ⟨by rw [← qae2]; exact ho, h⟩
   | none => exact qaeq hp f l acc h
theorem eqI_ok {a b : Int} (h : eqI a b = true) : a = b := by
 cases a <;> cases b <;> simp_all [eqI]
theorem qaio {f : SV → SV → Bool} (hf : ∀ x y, f x y = true → x = y) : ∀ {l m : List SV}, eqV.eqVs f l m = true → l = m
 | [], [], _ => rfl
 | x :: l, y :: m, h => by
  rw [eqV.eqVs, Bool.and_eq_true] at h
  rw [hf _ _ h.1, qaio hf h.2]
 | [], _ :: _, h => by simp [eqV.eqVs] at h
 | _ :: _, [], h => by simp [eqV.eqVs] at h
theorem qakl {f : SV → SV → Bool} (hf : ∀ x y, f x y = true → x = y) : ∀ {l m : List (List SV)}, eqV.eqVss f l m = true → l = m
 | [], [], _ => rfl
 | x :: l, y :: m, h => by
  rw [eqV.eqVss, Bool.and_eq_true] at h
  rw [qaio hf h.1, qakl hf h.2]
 | [], _ :: _, h => by simp [eqV.eqVss] at h
 | _ :: _, [], h => by simp [eqV.eqVss] at h
theorem qa3q : ∀ (n : Nat) (x y : SV), eqV n x y = true → x = y
 | 0, x, y, h => by simp [eqV] at h
 | n + 1, x, y, h => by
  have ih := qa3q n
  unfold eqV at h
  split at h
  all_goals first | rfl | (cases h; done) | skip
  all_goals try simp only [Bool.and_eq_true, beq_iff_eq, decide_eq_true_eq, Nat.beq_eq] at h
  ·rw [h]
  ·rw [h.1, eqI_ok h.2]
  ·rw [h.1, h.2]
  ·rw [h.1, h.2]
  ·rw [h.1.1.1, h.1.1.2, h.1.2, h.2]
  ·rw [qaio ih h]
  ·rw [qaio ih h]
  ·rw [h.1, qakl ih h.2]
theorem eqO_ok {x y : SObj} (h : eqO x y = true) : x = y := by
 unfold eqO at h
 split at h
 ·simp only [Bool.and_eq_true, Nat.beq_eq] at h
  rw [h.1, qaio (qa3q 9) h.2]
 ·simp only [Bool.and_eq_true, Nat.beq_eq] at h
  rw [h.1.1, h.1.2, qakl (qa3q 9) h.2]
 ·cases h
theorem qar9 {h1 h2 : Hp} : ∀ (l : Hp) (id : Nat), id ∈ qa47 h2 h1 l → geth h2 id = geth h1 id
 | [], id, h => by cases h
 | p :: l, id, h => by
  have ih := qar9 (h1 := h1) (h2 := h2) l id
  have h0 : id ∈ (Option.rec (qa47 h2 h1 l) (fun o => Option.rec (qa47 h2 h1 l) (fun o' => Bool.rec (qa47 h2 h1 l) (p.1 :: qa47 h2 h1 l) (eqO o o')) (qail h2 p.1)) (qail h1 p.1) : List Nat) := h
  cases h3 : qail h1 p.1 with
  | none => rw [h3] at h0; exact ih h0
  | some o =>
   rw [h3] at h0
   cases h4 : qail h2 p.1 with
   | none => rw [h4] at h0; exact ih h0
   | some o' =>
    rw [h4] at h0
    cases h5 : eqO o o' with
    | false => simp only [h5] at h0; exact ih h0
    | true =>
     simp only [h5] at h0
     rcases List.mem_cons.1 h0 with rfl | h0
     ·rw [← qae2, ← qae2, h3, h4, eqO_ok h5]
     ·exact ih h0
theorem same_ok {h1 h2 : Hp} : ∀ id ∈ same h2 h1, geth h2 id = geth h1 id := fun id h => qar9 h1 id h
theorem qaso {β : Type} {bef : β → Nat} {cl : β → β → Bool} {b : β} : ∀ (l : List β) (n k : Nat), qa1o bef cl b l n k = true → ∀ (i : Nat) a, i < n → l[i]? = some a → cl a b = true → (bef b).testBit (k + i) = true
 | [], n, k, _, i, a, _, ha, _ => by simp at ha
 | x :: l, 0, k, _, i, a, hi, _, _ => by omega
 | x :: l, n + 1, k, h, i, a, hi, ha, hc => by
  have h2 : (Bool.rec (Bool.rec (qa1o bef cl b l n (k + 1)) false (cl x b)) (qa1o bef cl b l n (k + 1)) (Nat.testBit (bef b) k) : Bool) = true := h
  have hrest : qa1o bef cl b l n (k + 1) = true := by
   cases ht : Nat.testBit (bef b) k with
   | true => rw [ht] at h2; exact h2
   | false =>
    rw [ht] at h2
    cases hx : cl x b with
    | true => rw [hx] at h2; cases h2
    | false => rw [hx] at h2; exact h2
  cases i with
  | zero =>
   simp only [List.getElem?_cons_zero, Option.some.injEq] at ha
   subst ha
   cases ht : Nat.testBit (bef b) k with
   | true => simpa using ht
   | false => rw [ht] at h2; rw [hc] at h2; cases h2
  | succ i =>
   have := qaso l n (k + 1) hrest i a (by omega) (by simpa using ha) hc
   rw [show k + (i + 1) = k + 1 + i by omega]; exact this
theorem qam0 {β : Type} {bef : β → Nat} {cl : β → β → Bool} {all : List β} : ∀ (l : List β) (k : Nat), qasp bef cl all l k = true → ∀ (j : Nat) b, l[j]? = some b → qa1o bef cl b all (k + j) 0 = true
 | [], k, _, j, b, hb => by simp at hb
 | x :: l, k, h, j, b, hb => by
  have h2 : (Bool.rec false (qasp bef cl all l (k + 1)) (qa1o bef cl x all k 0) : Bool) = true := h
  cases hx : qa1o bef cl x all k 0 with
  | false => rw [hx] at h2; cases h2
  | true =>
   rw [hx] at h2
   cases j with
   | zero =>
    simp only [List.getElem?_cons_zero, Option.some.injEq] at hb
    subst hb; exact hx
   | succ j =>
    have := qam0 l (k + 1) h2 j b (by simpa using hb)
    rw [show k + (j + 1) = k + 1 + j by omega]; exact this
theorem qa1m {β : Type} {bef : β → Nat} {cl : β → β → Bool} {l : List β} (h : qasp bef cl l l 0 = true) {i j : Nat} {a b : β} (hij : i < j) (ha : l[i]? = some a) (hb : l[j]? = some b) (hc : cl a b = true) : (bef b).testBit i = true := by
 have h1 := qam0 l 0 h j b hb
 have h2 := qaso l _ 0 h1 i a (by omega) ha hc
 rwa [Nat.zero_add] at h2
theorem qax8 {ops : List SOper} {tr : List Tch} (h1 : okS ops = true) (h2 : okD (ops.zip tr) = true) : qakb (ops.zip tr) = true := by
 unfold qakb
 refine List.all_eq_true.2 fun j hj => List.all_eq_true.2 fun i hi => ?_
 rw [List.mem_range] at hj hi
 have ha := List.getElem?_eq_getElem (l := ops.zip tr) (show i < (ops.zip tr).length by omega)
 have hb := List.getElem?_eq_getElem (l := ops.zip tr) hj
 rw [ha, hb]
 simp only
 generalize (ops.zip tr)[i] = a at ha
 generalize (ops.zip tr)[j] = b at hb
 cases hc : qa37 a b with
 | false => rfl
 | true =>
  have he : qa37 a b = (qa35 a.1 b.1 || qa36 a b) := by unfold qa37 qa35 qa36; simp only [Bool.or_assoc] <;> rfl
  rw [he, Bool.or_eq_true] at hc
  have : b.1.bef.testBit i = true := by
   rcases hc with hc | hc
   ·exact qa1m h1 hi (List.getElem?_zip_eq_some.1 ha).1 (List.getElem?_zip_eq_some.1 hb).1 hc
   ·exact qa1m h2 hi ha hb hc
  rw [this]; rfl
theorem ltB_ok {m : Nat} {x : SV} (h : ltB m x = true) : renB (fun i => if i < m then i else m) x = x := by
 cases x <;> simp_all [ltB, renB]
theorem ltA_ok {m : Nat} {x : SV} (h : ltA m x = true) : renA (fun i => if i < m then i else m) x = x := by
 cases x <;> simp_all [ltA, renA, ltB, renB]
 rename_i cs
 exact (List.map_congr_left fun x hx => ltB_ok (h x hx)).trans (List.map_id' _)
theorem lt0_ok {m : Nat} {x : SV} (h : lt0 m x = true) : ren0 (fun i => if i < m then i else m) x = x := by
 cases x
 case ifc t x => simp only [lt0] at h; simp only [ren0, ltA_ok h]
 case fn f a b =>
  cases a
  ·cases b
   ·rfl
   ·simp [lt0, ltB] at h
  ·simp [lt0, ltB] at h
 all_goals simp_all [lt0, ltB, ren0]
theorem qass {m : Nat} {cs : List SV} (h : cs.all (lt0 m) = true) : cs.map (ren0 (fun i => if i < m then i else m)) = cs := by
 rw [List.map_congr_left fun x hx => lt0_ok (List.all_eq_true.1 h x hx), List.map_id']
theorem lt1_ok {m : Nat} {x : SV} (h : lt1 m x = true) : ren1 (fun i => if i < m then i else m) x = x := by
 cases x
 case agg cs => simp only [lt1] at h; simp only [ren1, qass h]
 case fn f a b => simp only [lt1, Bool.and_eq_true] at h; simp only [ren1, qass h.1, qass h.2]
 all_goals (simp only [lt1] at h; simp only [ren1]; exact lt0_ok h)
theorem qa1q {m : Nat} {cs : List SV} (h : cs.all (lt1 m) = true) : cs.map (ren1 (fun i => if i < m then i else m)) = cs := by
 rw [List.map_congr_left fun x hx => lt1_ok (List.all_eq_true.1 h x hx), List.map_id']
theorem lt2_ok {m : Nat} {x : SV} (h : lt2 m x = true) : ltV m x := by
 unfold ltV
 cases x
 case agg cs => simp only [lt2] at h; simp only [Go.Proofs.Ytbefmmajjfijnaa.ren, qa1q h]
 case tup cs => simp only [lt2] at h; simp only [Go.Proofs.Ytbefmmajjfijnaa.ren, qa1q h]
 all_goals (simp only [lt2] at h; simp only [Go.Proofs.Ytbefmmajjfijnaa.ren]; exact lt1_ok h)
theorem qam2 {m : Nat} : ∀ {cs : List SV}, cs.all (lt2 m) = true → LtL m cs
 | [], _ => trivial
 | x :: xs, h => by
  rw [List.all_cons, Bool.and_eq_true] at h
  exact ⟨lt2_ok h.1, qam2 h.2⟩
theorem ltO_ok {m : Nat} {o : SObj} (h : ltO m o = true) : LtO m o := by
 cases o with
 | cells t cs => exact (qam2 (m := m) h).map
 | row e z es =>
  have : ∀ x ∈ es, x.map (Go.Proofs.Ytbefmmajjfijnaa.ren (fun i => if i < m then i else m)) = x := fun x hx => (qam2 (m := m) (List.all_eq_true.1 h x hx)).map
  show es.map _ = es
  rw [List.map_congr_left this, List.map_id']
 | abs I => trivial
theorem qa1p {m : Nat} : ∀ {h : Hp}, ltHp m h = true → LtH m h
 | [], _ => trivial
 | (i, o) :: r, h => by
  unfold ltHp at h
  rw [List.all_cons, Bool.and_eq_true, Bool.and_eq_true] at h
  exact ⟨by simpa using h.1.1, ltO_ok h.1.2, qa1p h.2⟩
theorem qarx : ∀ {h : Hp}, uniqB h = true → Uniq h
 | [], _ => trivial
 | (i, o) :: r, h => by
  rw [uniqB, Bool.and_eq_true] at h
  refine ⟨?_, qarx h.2⟩
  have h1 := h.1
  split at h1
  ·rename_i h3; rw [← qae2]; exact h3
  ·cases h1
theorem qadb {P : Program} {N : Nat} : ∀ {b : Code} {c : SCode}, comp P N b = some c → c.erase = c
 | .skip, c, h => by simp only [comp, Option.some.injEq] at h; subst h; rfl
 | .region id ops d, c, h => by obtain ⟨l, rfl, _⟩ := qacb h; rfl
 | .seq a b, c, h => by
  simp only [comp, Option.bind_eq_bind, Option.bind_eq_some_iff, Option.some.injEq] at h
  obtain ⟨x, h1, y, h2, rfl⟩ := h
  rw [SCode.erase, qadb h1, qadb h2]
 | .cond o a b, c, h => by
  simp only [comp, Option.bind_eq_bind, Option.bind_eq_some_iff, Option.some.injEq] at h
  obtain ⟨z, h0, x, h1, y, h2, rfl⟩ := h
  rw [SCode.erase, qadb h1, qadb h2]
 | .block id a, c, h => by
  simp only [comp, Option.bind_eq_bind, Option.bind_eq_some_iff, Option.some.injEq] at h
  obtain ⟨x, h1, rfl⟩ := h
  rw [SCode.erase, qadb h1]
 | .loop a, c, h => by
  simp only [comp, Option.bind_eq_bind, Option.bind_eq_some_iff, Option.some.injEq] at h
  obtain ⟨x, h1, rfl⟩ := h
  rw [SCode.erase, qadb h1]
 | .exit id, c, h => by simp only [comp, Option.some.injEq] at h; subst h; rfl
 | .ret, c, h => by simp only [comp, Option.some.injEq] at h; subst h; rfl
 | .label _, c, h => by simp only [comp, Option.some.injEq] at h; subst h; rfl
 | .rangeFunc .., c, h => by simp [comp] at h
 | .scope _, c, h => by simp [comp] at h
 | .goto _, c, h => by simp [comp] at h
 | .refuse _, c, h => by simp [comp] at h
def Good (P : Program) : Tsk → Ans → Prop
 | .code c s, .st e s' => ∀ (X : Cx) (Q : SExit → SSt → Prop), X.P = P → Q e s' → SWp X c Q s
 | .call g as_ h nx, .val r h2 nx' => nx < nx' ∧ Uniq h2 ∧ SCalls P g as_ h nx r h2 (nx' - nx)
 | _, _ => False
theorem qayr (h : Hp) : qail h = geth h := funext fun t => qae2 t h
theorem qaxz {v : SV} {ih : Tsk → Option Ans} {args : List SV} {dst : Option Nat} {s : SSt} {K : SSt → Tch → Option Ans} {a : Ans} (h : runCl v ih args dst s K = some a) : ∃ g first cap, v = .fn (.func g) first cap := by
 cases v
 case fn f first cap =>
  cases f
  case func g => exact ⟨g, first, cap, rfl⟩
  all_goals cases h
 all_goals cases h
theorem qa2n {v : SV} {ih : Tsk → Option Ans} {want : Bool} {o : SOper} {s : SSt} {K : SSt → Tch → Option Ans} {a : Ans} (h : runG v ih want o s K = some a) : (∃ b, v = .bool b) ∨ v = .tup [] := by
 cases v
 case bool b => exact .inl ⟨b, rfl⟩
 case tup cs =>
  cases cs
  ·exact .inr rfl
  ·cases h
 all_goals cases h
theorem qa1f {P : Program} {ih : Tsk → Option Ans} (hih : ∀ t a, ih t = some a → Good P t a) {o : SOper} {s : SSt} {K : SSt → Tch → Option Ans} {a : Ans} (h : run1 ih o s K = some a) : ∃ s' x, K s' x = some a ∧ ∀ K' : SSt → Tch → Prop, K' s' x → SOp1 P o s K' := by
 unfold run1 at h
 split at h
 ·rename_i f args hcal
  simp only [qan2] at h
  ·obtain ⟨g, first, cap, hf⟩ := qaxz h
   rw [hf] at h
   simp only [runCl, qaed f2_eq, qas7] at h
   split at h
   ·rename_i r h2 nx hr
    obtain ⟨g1, g2, g3⟩ : _ ∧ _ ∧ _ := hih _ _ hr
    refine ⟨_, _, h, fun K' hK => ?_⟩
    unfold SOp1
    rw [hcal]
    simp only [hf]
    refine ⟨_, r, h2, same h2 _, nx - s.nx, g3, qaeq _ _ _ _ trivial, g2, same_ok, ?_⟩
    rw [show s.nx + (nx - s.nx) = nx by omega]
    exact hK
   ·cases h
 ·rename_i hcal
  unfold runOp at h
  simp only [qan2, runF_eq, qayr] at h
  split at h
  ·rename_i v u nx hr
   rw [f2_eq, qas6, qaff] at h
   refine ⟨_, _, h, fun K' hK => ?_⟩
   unfold SOp1
   rw [hcal]
   simp only [hr]
   exact hK
  ·cases h
theorem runO_ok {P : Program} {ih : Tsk → Option Ans} (hih : ∀ t a, ih t = some a → Good P t a) {o : SOper} {os : List SOper} {s : SSt} {tr : List Tch} {K : SSt → Tch → Option Ans} {a : Ans} (h : runO ih o s K = some a) : ∃ s' x, K s' x = some a ∧ ∀ Q : SSt → List Tch → Prop, SOps P os s' (x :: tr) Q → SOps P (o :: os) s tr Q := by
 unfold runO at h
 split at h
 ·rename_i hg
  obtain ⟨s1, x, h1, h2⟩ := qa1f hih h
  refine ⟨s1, x, h1, fun Q hQ => ?_⟩
  rw [SOps, hg]
  exact h2 _ hQ
 ·rename_i t want hg
  rw [qaki] at h
  rcases qa2n h with ⟨b, hb⟩ | hb
  ·rw [hb] at h
   simp only [runG] at h
   split at h
   ·rename_i hbw
    obtain ⟨s1, x, h1, h2⟩ := qa1f hih h
    refine ⟨s1, x, h1, fun Q hQ => ?_⟩
    rw [SOps, hg]
    simp only [hb]
    have e : b = want := by simpa using hbw
    exact ⟨fun _ => h2 _ hQ, fun hne => absurd e hne⟩
   ·rename_i hbw
    refine ⟨_, _, h, fun Q hQ => ?_⟩
    rw [SOps, hg]
    simp only [hb]
    have e : ¬ b = want := by simpa using hbw
    exact ⟨fun he => absurd he e, fun _ => hQ⟩
  ·rw [hb] at h
   refine ⟨_, _, h, fun Q hQ => ?_⟩
   rw [SOps, hg]
   simp only [hb]
   exact hQ
theorem qamu {P : Program} {ih : Tsk → Option Ans} (hih : ∀ t a, ih t = some a → Good P t a) : ∀ {ops : List SOper} {s : SSt} {tr : List Tch} {K : SSt → List Tch → Option Ans} {a : Ans}, qa2m ih ops s tr K = some a → ∃ s' tr', K s' tr' = some a ∧ ∀ Q : SSt → List Tch → Prop, Q s' tr' → SOps P ops s tr Q
 | [], s, tr, K, a, h => ⟨s, tr, h, fun Q hQ => hQ⟩
 | o :: os, s, tr, K, a, h => by
  have h0 : runO ih o s (fun s' x => qa2m ih os s' (x :: tr) K) = some a := h
  obtain ⟨s1, x, h1, h2⟩ := runO_ok (os := os) (tr := tr) hih h0
  obtain ⟨s2, tr2, h3, h4⟩ := qamu hih h1
  exact ⟨s2, tr2, h3, fun Q hQ => h2 Q (h4 Q hQ)⟩
theorem qaet {P : Program} {c : SCode} {s : SSt} {a : Ans} (h : Good P (.code c s) a) : ∃ e s', a = .st e s' := by
 cases a with
 | st e s' => exact ⟨e, s', rfl⟩
 | val r h2 nx => exact h.elim
theorem qa2k {P : Program} {H : List (Nat × List (List Nat))} {kn : FuncId → List SV → Hp → Nat → Option Ans} {a : SCode} {n : Nat} (ih : ∀ m, m ≤ n → ∀ t r, run P H kn m t = some r → Good P t r) {s s' : SSt} {e : SExit} (h : run P H kn (n + 1) (.code (.loop a) s) = some (.st e s')) {X : Cx} {Q : SExit → SSt → Prop} (hP : X.P = P) (hQ : Q e s') : SWp X (.loop a) Q s := by
 refine qar0 (fun t k => k ≤ n + 1 ∧ run P H kn k (.code (.loop a) t) = some (.st e s')) (n := n + 1) (Wk.refl X s) ⟨Nat.le_refl _, h⟩ ?_
 rintro t k ⟨hk, hr⟩
 cases k with
 | zero => cases hr
 | succ k =>
  have hr2 : step P H kn (run P H kn k) (.code (.loop a) t) = some (.st e s') := hr
  simp only [step, qaxh] at hr2
  cases hx : run P H kn k (.code a t) with
  | none => rw [hx] at hr2; cases hr2
  | some y =>
   have hg := ih k (by omega) _ _ hx
   obtain ⟨e1, s1, rfl⟩ := qaet hg
   rw [hx] at hr2
   cases e1 with
   | normal => exact hg X _ hP ⟨s1, k, Wk.refl X s1, ⟨by omega, hr2⟩, by omega⟩
   | exit i => simp only [Option.some.injEq, Ans.st.injEq] at hr2; obtain ⟨rfl, rfl⟩ := hr2; exact hg X _ hP hQ
   | ret => simp only [Option.some.injEq, Ans.st.injEq] at hr2; obtain ⟨rfl, rfl⟩ := hr2; exact hg X _ hP hQ
theorem qael {α : Type} : ∀ (c : SCode) (h : List (List Nat)) (k : SCode → List (List Nat) → α), ∃ c' h', annot c h k = k c' h' ∧ c'.erase = c.erase
 | .skip, h, k => ⟨_, _, rfl, rfl⟩
 | .exit i, h, k => ⟨_, _, rfl, rfl⟩
 | .ret, h, k => ⟨_, _, rfl, rfl⟩
 | .reg d ops l, [], k => ⟨_, _, rfl, rfl⟩
 | .reg d ops l, x :: t, k => ⟨_, _, rfl, rfl⟩
 | .seq a b, h, k => by
  obtain ⟨a', h1, e1, e2⟩ := qael a h fun a h => annot b h fun b h => k (.seq a b) h
  obtain ⟨b', h2, e3, e4⟩ := qael b h1 fun b h => k (.seq a' b) h
  exact ⟨.seq a' b', h2, e1.trans e3, by rw [SCode.erase, SCode.erase, e2, e4]⟩
 | .cond x a b, h, k => by
  obtain ⟨a', h1, e1, e2⟩ := qael a h fun a h => annot b h fun b h => k (.cond x a b) h
  obtain ⟨b', h2, e3, e4⟩ := qael b h1 fun b h => k (.cond x a' b) h
  exact ⟨.cond x a' b', h2, e1.trans e3, by rw [SCode.erase, SCode.erase, e2, e4]⟩
 | .block i a, h, k => by
  obtain ⟨a', h1, e1, e2⟩ := qael a h fun a h => k (.block i a) h
  exact ⟨_, h1, e1, by rw [SCode.erase, SCode.erase, e2]⟩
 | .loop a, h, k => by
  obtain ⟨a', h1, e1, e2⟩ := qael a h fun a h => k (.loop a) h
  exact ⟨_, h1, e1, by rw [SCode.erase, SCode.erase, e2]⟩
theorem qa3o {P : Program} {H : List (Nat × List (List Nat))} {g : FuncId} {fd : FD} (h : fdata P H g = some fd) : ∃ fn b, P.funcs[g]? = some fn ∧ fn.body = some b ∧ (fn.name == "runtime.NumGoroutine") = false ∧ fn.ntmps = fd.N ∧ comp P fd.N b = some fd.c.erase ∧ fn.results.toList = fd.res := by
 unfold fdata at h
 split at h
 ·rename_i fn hf
  split at h
  ·rename_i b hb
   split at h
   ·cases h
   ·rename_i hn
    split at h
    ·rename_i c hc
     obtain ⟨c', h', e1, e2⟩ := qael c (look H g) fun c _ => some (FD.mk fn.ntmps c fn.results.toList)
     rw [e1] at h
     cases h
     exact ⟨fn, b, hf, hb, hn, rfl, by rw [e2, qadb hc]; exact hc, rfl⟩
    ·cases h
  ·cases h
 ·cases h
theorem qaxs {P : Program} {H : List (Nat × List (List Nat))} {kn : FuncId → List SV → Hp → Nat → Option Ans} (hmx : P.follows .mixedOrders = true) {n : Nat} (ih : ∀ m, m ≤ n → ∀ t r, run P H kn m t = some r → Good P t r) {c : SCode} {s : SSt} {r : Ans} (h : run P H kn (n + 1) (.code c s) = some r) : Good P (.code c s) r := by
 have h2 : step P H kn (run P H kn n) (.code c s) = some r := h
 have ih0 := ih n (Nat.le_refl n)
 cases c with
 | skip => simp only [step, qaxh, Option.some.injEq] at h2; subst h2; exact fun X Q hP hQ => qaaf hQ
 | exit i => simp only [step, qaxh, Option.some.injEq] at h2; subst h2; exact fun X Q hP hQ => qaam hQ
 | ret => simp only [step, qaxh, Option.some.injEq] at h2; subst h2; exact fun X Q hP hQ => qaa4 hQ
 | reg d ops live =>
  simp only [step, qaxh] at h2
  obtain ⟨s', tr, h3, h4⟩ := qamu ih0 h2
  split at h3
  ·rename_i hd
   rw [qa3p] at h3
   cases h3
   intro X Q hP hQ
   subst hP
   cases d with
   | false => exact qaad (h4 _ hQ)
   | true =>
    simp only [Bool.not_true, Bool.false_or, Bool.and_eq_true] at hd
    exact qacm hmx (h4 _ ⟨qax8 hd.1 hd.2, hQ⟩)
  ·cases h3
 | seq a b =>
  simp only [step, qaxh, qan2] at h2
  cases hx : run P H kn n (.code a s) with
  | none => rw [hx] at h2; cases h2
  | some y =>
   have hg := ih0 _ _ hx
   obtain ⟨e1, s1, rfl⟩ := qaet hg
   rw [hx] at h2
   cases e1 with
   | normal =>
    have hg2 := ih0 _ _ h2
    obtain ⟨e, s', rfl⟩ := qaet hg2
    exact fun X Q hP hQ => qamp (hg X _ hP (hg2 X Q hP hQ))
   | exit i => cases h2; exact fun X Q hP hQ => qamp (hg X _ hP hQ)
   | ret => cases h2; exact fun X Q hP hQ => qamp (hg X _ hP hQ)
 | cond x a b =>
  simp only [step, qaxh, qan2] at h2
  split at h2
  ·rename_i hb
   have hg := ih0 _ _ h2
   obtain ⟨e, s', rfl⟩ := qaet hg
   exact fun X Q hP hQ => qaab hb (fun _ => hg X Q hP hQ) (fun h => by cases h)
  ·rename_i hb
   have hg := ih0 _ _ h2
   obtain ⟨e, s', rfl⟩ := qaet hg
   exact fun X Q hP hQ => qaab hb (fun h => by cases h) (fun _ => hg X Q hP hQ)
  ·cases h2
 | block id a =>
  simp only [step, qaxh, qan2] at h2
  cases hx : run P H kn n (.code a s) with
  | none => rw [hx] at h2; cases h2
  | some y =>
   have hg := ih0 _ _ hx
   obtain ⟨e1, s1, rfl⟩ := qaet hg
   rw [hx] at h2
   cases e1 with
   | normal => cases h2; exact fun X Q hP hQ => qaaj (hg X _ hP hQ)
   | exit i =>
    simp only at h2
    split at h2
    ·rename_i he
     cases h2
     intro X Q hP hQ
     refine qaaj (hg X _ hP ?_)
     show if i = id then Q .normal s1 else Q (.exit i) s1
     rw [if_pos (Nat.eq_of_beq_eq_true he)]; exact hQ
    ·rename_i he
     cases h2
     intro X Q hP hQ
     refine qaaj (hg X _ hP ?_)
     show if i = id then Q .normal s1 else Q (.exit i) s1
     rw [if_neg (Nat.ne_of_beq_eq_false he)]; exact hQ
   | ret => cases h2; exact fun X Q hP hQ => qaaj (hg X _ hP hQ)
 | loop a =>
  have : ∃ e s', r = .st e s' := by
   simp only [step, qaxh, qan2] at h2
   cases hx : run P H kn n (.code a s) with
   | none => rw [hx] at h2; cases h2
   | some y =>
    obtain ⟨e1, s1, rfl⟩ := qaet (ih0 _ _ hx)
    rw [hx] at h2
    cases e1 with
    | normal => exact qaet (ih0 _ _ h2)
    | exit i => cases h2; exact ⟨_, _, rfl⟩
    | ret => cases h2; exact ⟨_, _, rfl⟩
  obtain ⟨e, s', rfl⟩ := this
  exact fun X Q hP hQ => qa2k ih h hP hQ
theorem qaxt {P : Program} {H : List (Nat × List (List Nat))} {kn : FuncId → List SV → Hp → Nat → Option Ans} (hkn : ∀ g as_ h nx a, kn g as_ h nx = some a → Good P (.call g as_ h nx) a) {n : Nat} (ih : ∀ t r, run P H kn n t = some r → Good P t r) {g : FuncId} {as_ : List SV} {hp : Hp} {nx : Nat} {a : Ans} (h : run P H kn (n + 1) (.call g as_ hp nx) = some a) : Good P (.call g as_ hp nx) a := by
 have h2 : step P H kn (run P H kn n) (.call g as_ hp nx) = some a := h
 change (match kn g as_ hp nx with | some a => some a | none => stepF P H (run P H kn n) g as_ hp nx) = some a at h2
 split at h2
 ·rename_i a' hk
  cases h2
  exact hkn _ _ _ _ _ hk
 unfold stepF at h2
 split at h2
 ·rename_i fd hfd
  obtain ⟨fn, b, hf, hb, hn, hN, hc, hres⟩ := qa3o hfd
  split at h2
  ·rename_i hchk
   simp only [Bool.and_eq_true, Nat.ble_eq] at hchk
   obtain ⟨⟨hl, hla⟩, hlh⟩ := hchk
   have fin : ∀ e s', run P H kn n (.code fd.c ⟨argS 0 as_, hp, nx⟩) = some (.st e s') → (∀ i, e ≠ .exit i) → leave P fd.res hp nx s' = some a → Good P (.call g as_ hp nx) a := by
    intro e s' hx hne h3
    unfold leave at h3
    have hg := ih _ _ hx
    split at h3
    ·rename_i r hr
     rw [f2_eq, qas7] at h3
     split at h3
     ·rename_i hu
      simp only [Bool.and_eq_true, Nat.ble_eq] at hu
      rw [qaff] at h3
      cases h3
      refine ⟨by omega, qarx hu.1, ?_⟩
      refine qaib (s'.nx + 1 - nx) (by omega) hf hb hN hn (c := fd.c) hc hl (qam2 hla) (qa1p hlh) fun X hP hYtbefmmajjfijnaa hm => ?_
      refine hg X _ hP ?_
      have q : ∃ s'', Wk X s' s'' ∧ qamv X.P s'' fn.results.toList = some r ∧ SubH s''.hp (qa2t s'.hp 100000 (nm2 r ++ idsH hp) []) ∧ s''.nx ≤ nx + (s'.nx + 1 - nx) :=
       ⟨s', Wk.refl X s', by rw [hP, hres]; exact hr, qaeq _ _ _ _ trivial, by omega⟩
      cases e with
      | normal => exact q
      | exit i => exact absurd rfl (hne i)
      | ret => exact q
     ·cases h3
    ·cases h3
   cases hx : run P H kn n (.code fd.c ⟨argS 0 as_, hp, nx⟩) with
   | none => rw [hx] at h2; cases h2
   | some y =>
    obtain ⟨e, s', rfl⟩ := qaet (ih _ _ hx)
    rw [hx] at h2
    cases e with
    | exit i => cases h2
    | normal => exact fin _ _ hx (fun i h => by cases h) h2
    | ret => exact fin _ _ hx (fun i h => by cases h) h2
  ·cases h2
 ·cases h2
theorem qa2l {P : Program} {H : List (Nat × List (List Nat))} {kn : FuncId → List SV → Hp → Nat → Option Ans} (hmx : P.follows .mixedOrders = true) (hkn : ∀ g as_ h nx a, kn g as_ h nx = some a → Good P (.call g as_ h nx) a) (n : Nat) : ∀ t a, run P H kn n t = some a → Good P t a := by
 induction n using Nat.strongRecOn with
 | ind n ih =>
  intro t a h
  cases n with
  | zero => cases h
  | succ n =>
   cases t with
   | code c s => exact qaxs hmx (fun m hm => ih m (by omega)) h
   | call g as_ hp nx => exact qaxt hkn (ih n (by omega)) h
noncomputable def runB (P : Program) (H : List (Nat × List (List Nat))) (kn : FuncId → List SV → Hp → Nat → Option Ans) (n : Nat) (g : FuncId) : Bool := match run P H kn n (.call g [] [] 0) with
 | some (.val (.bool true) [] _) => true
 | _ => false
theorem qanr {P : Program} {g : FuncId} {as_ : List SV} {r : SV} {m : Nat} (h3 : SCalls P g as_ [] 0 r [] m) (ha : ∀ σ, as_.map (Go.Proofs.Ytbefmmajjfijnaa.ren σ) = as_) (hr : ∀ σ, Go.Proofs.Ytbefmmajjfijnaa.ren σ r = r) (q : Nat) : SCalls P g as_ [] q r [] := by
 refine ⟨h3.1, fun O ρ fp w vs hok hargs hfr => ?_⟩
 have ha' : Reps w (fun k => O k ∨ Live [] fp k) noPl as_ vs := by
  have h1 : Reps w (fun k => O k ∨ Live [] fp k) ρ (as_.map (Go.Proofs.Ytbefmmajjfijnaa.ren fun _ => q)) vs := by rw [ha]; exact hargs
  have h2 := qac7 h1
  have e : (fun id => ρ ((fun _ => q) id)) = noPl := by funext id; exact hfr q (Nat.le_refl _) (by omega)
  rw [e] at h2; exact h2
 have hE : HeapOk O noPl fp [] w := ⟨fun id o ho => by simp [geth] at ho, fun id id' o o' _ ho => by simp [geth] at ho, fun k ⟨id, o, ho, _⟩ => by simp [geth] at ho, hok.O_lt⟩
 refine (h3.2 O noPl fp w vs hE ha' (fun _ _ _ => rfl)).mono ?_
 rintro e w' ⟨v, ρ', fp', rfl, q1, q2, q3, q4, q5, q6⟩
 have hfr8 : ρ' m = none := by
  cases e : ρ' m with
  | none => rfl
  | some p =>
   rcases q5 m (by rw [e]; simp) with h3 | h3
   ·exact absurd rfl h3
   ·omega
 have hv : RepV w' (fun k => O k ∨ Live [] fp' k) noPl r v := by
  have h1 : RepV w' (fun k => O k ∨ Live [] fp' k) ρ' (Go.Proofs.Ytbefmmajjfijnaa.ren (fun _ => m) r) v := by rw [hr]; exact q2
  have h2 := qaj6 h1
  have e : (fun id => ρ' ((fun _ => m) id)) = noPl := by funext id; exact hfr8
  rw [e] at h2; exact h2
 refine ⟨v, ρ, fp, rfl, ⟨fun id o ho => by simp [geth] at ho, fun id id' o o' _ ho => by simp [geth] at ho, fun k ⟨id, o, ho, _⟩ => by simp [geth] at ho, q1.O_lt⟩, ?_, q3, fun _ _ h => h, fun _ h => .inl h, fun id o ho => by simp [geth] at ho⟩
 refine hv.lift.weaken fun k hk _ => hk.imp (fun h => h) fun ⟨id, o, ho, _⟩ => by simp [geth] at ho
theorem qaxy {P : Program} {H : List (Nat × List (List Nat))} {kn : FuncId → List SV → Hp → Nat → Option Ans} (hmx : P.follows .mixedOrders = true) (hkn : ∀ g as_ h nx a, kn g as_ h nx = some a → Good P (.call g as_ h nx) a) {n : Nat} {g : FuncId} (h : runB P H kn n g = true) (q : Nat) : SCalls P g [] [] q (.bool true) [] := by
 unfold runB at h
 split at h
 ·rename_i nx hr
  obtain ⟨_, _, h3⟩ : _ ∧ _ ∧ _ := qa2l hmx hkn n _ _ hr
  exact qanr h3 (fun _ => rfl) (fun _ => rfl) q
 ·cases h
def kn0 : FuncId → List SV → Hp → Nat → Option Ans := fun _ _ _ _ => none
theorem kn0_ok {P : Program} : ∀ g as_ h nx a, kn0 g as_ h nx = some a → Good P (.call g as_ h nx) a := fun _ _ _ _ _ h => by cases h
end Go.Proofs.Ytbefmmajjfijnaa
namespace Go.Proofs.Ytbefmmajjfijnaa
set_option linter.all false
open Go.RowKit
def chints : List (Nat × List (List Nat)) := [(5,[[],[2,1],[0]]),(7,[[1,3],[4,1,3],[11,4,1,3],[2,3],[5,3],[5,6,3],[2,3]]),(12,[[2,1],[2,3,1],[2,3,1],[2,3,1,4],[31,4,1,3,2],[6,4,2,3,1],[4,2,3,1],[2,3,1,4],[1,3,2],[1,3,2,59,61,60],[62,60,59,61,2,3,1],[8,7,61,1,3,2,59,60],[61,1,3,2,59,60],[1,3,2,59,61,60],[82,2,3,1],[2],[2,3,1],[2,3,1],[2,3,1],[2,3,1],[2,3,1],[2,3,1,9],[113,1,9,3,2],[9,2,3,1],[9,2,3,1],[2,3,1,9],[2]]),(21,[[16,3,2,0],[]]),(23,[[0],[2,0],[41,2,0],[0,2,3],[0,2,3,4],[0,2,3,4],[0,2,3,4],[0,2,3,5,4],[0,2,3,5,4],[0,2,3,97,5,4,99,98],[100,98,4,5,97,99,3,2,0],[7,99,0,2,3,97,5,4,98],[7,99,0,2,3,97,5,4,98],[99,0,2,3,97,5,4,98],[0,2,3,97,5,4,99,98],[2,0],[2,0]]),(49,[[2,3,4],[3,7,4],[9,3,7,4],[6],[18,3,7,4],[7,4],[24,3,7,4],[7,4],[43,7,4],[6],[56,7,4],[6],[6]]),(51,[[11,0,2,1],[0,2,1],[]]),(24,[[0],[0,2],[32,0,2],[3,2,0],[4,3,2,0],[4,3,2,0],[4,3,2,0,59,61,60],[62,60,59,61,0,2,3,4],[6,61,4,3,2,0,59,60],[61,4,3,2,0,59,60],[4,3,2,0,59,61,60],[0,2,3,4,7],[87,4,3,7,2,0],[7,0,2,3,4],[0,2,3,4,7],[0,2]]),(25,[[0],[0,2],[30,0,2],[3,2,0],[3,2,0],[3,4,2,0],[3,4,2,0],[5,2,0],[2,0],[0,2]]),(26,[[0],[2,0],[32,2,0],[3,0,2],[3,0,2,4],[3,5,0,2,4],[51,3,5,0,2,4],[55,51,3,5,0,2,4],[5,0,2,4],[5,0,2,4],[76,51,3,5,0,2,4],[3,5,0,2,4],[5,0,2,4],[5,0,2,4],[120,51,3,5,0,2,4],[5,0,2,4],[127,3,5,0,2,4],[5,0,2,4],[5,0,2,4],[0,2,134,4,136,135],[137,135,4,134,136,2,0],[7,136,0,2,134,4,135],[7,136,0,2,134,4,135],[136,0,2,134,4,135],[0,2,134,4,136,135],[2,0]]),(13,[[1],[3,1],[3,1],[3,1,25,27,26],[28,26,25,27,1,3],[5,27,3,1,25,26],[27,3,1,25,26],[3,1,25,27,26],[1,3],[1,3],[1,3,47,49,48],[50,48,47,49,3,1],[7,49,1,3,47,48],[49,1,3,47,48],[1,3,47,49,48],[3,1],[3,1,64,66,65],[67,65,64,66,1,3],[9,66,3,1,64,65],[66,3,1,64,65],[3,1,64,66,65],[1,3],[1,3,81,83,82],[84,82,81,83,3,1],[11,83,1,3,81,82],[83,1,3,81,82],[1,3,81,83,82],[3,1],[3,1,98,100,99],[101,99,98,100,1,3],[13,100,3,1,98,99],[100,3,1,98,99],[3,1,98,100,99],[3],[2]]),(29,[[6,0,8,7],[9,7,0,6,8],[5,8,6,0,7],[8,6,0,7],[6,0,8,7]]),(57,[[6,8,0,7],[9,8,6,0,7],[7,0,6,8,5],[13,5,8,6,0,7],[5,7,0,6,8],[7,0,6,8,5],[8,6,0,7],[6,8,0,7]]),(30,[[0,1],[]]),(31,[[3,0],[3,0],[17,3,0],[3,0],[3,0,23,25,24],[26,24,23,25,0,3],[5,25,3,0,23,24],[5,25,3,0,23,24],[25,3,0,23,24],[3,0,23,25,24],[]]),(11,[[0],[0,3],[3,6,8,7],[9,8,6,7,3],[3,5,7,6,8],[7,6,3,8],[7,6,3,8,16],[17,16,8,3,6,7],[16,7,6,3,8],[7,6,3,8,16],[3,6,8,7],[2]])]
theorem mixedC : Try.prog.follows .mixedOrders = true := by kernel_rfl
theorem qay1 (q : Nat) : SCalls Try.prog 5 [] [] q (.bool true) [] := qaxy mixedC kn0_ok (H := chints) (n := 20000) (by kernel_rfl) q
end Go.Proofs.Ytbefmmajjfijnaa
namespace Go.Proofs.Ytbefmmajjfijnaa
set_option linter.all false
open Go.RowKit
abbrev qawy : List SOper := [Oa 1 (.box 29 (.t 0)), Oa 2 (.mv (.c (.bool false)))]
abbrev qawx : List SOper := [Oa 9 (.faddr 0 (.t 1)), Oa 10 (.load (.t 9)), Oa 11 (.len false (.t 10)), Oa 12 (.bin .gtr (.t 11) (.c (.int .i64 50))), Oa 13 (.mv (.t 12)), Oe 14 (.faddr 1 (.t 1)) 13 false, Oe 15 (.load (.t 14)) 13 false, Oe 16 (.len false (.t 15)) 13 false, Oe 17 (.bin .gtr (.t 16) (.c (.int .i64 500))) 13 false, Oa 18 (.pick (.t 13) (.c (.bool true)) (.t 17)), Oa 19 (.mv (.t 18)), Oe 20 (.faddr 2 (.t 1)) 19 false, Oe 21 (.load (.t 20)) 19 false, Oe 22 (.len false (.t 21)) 19 false, Oe 23 (.bin .gtr (.t 22) (.c (.int .i64 50))) 19 false, Oa 24 (.pick (.t 19) (.c (.bool true)) (.t 23)), Oa 25 (.mv (.t 24)), Oe 26 (.faddr 3 (.t 1)) 25 false, Oe 27 (.load (.t 26)) 25 false, Oe 28 (.len false (.t 27)) 25 false, Oe 29 (.bin .gtr (.t 28) (.c (.int .i64 50))) 25 false, Oa 30 (.pick (.t 25) (.c (.bool true)) (.t 29)), Oa 31 (.mv (.t 30)), Oe 32 (.faddr 4 (.t 1)) 31 false, Oe 33 (.load (.t 32)) 31 false, Oe 34 (.len false (.t 33)) 31 false, Oe 35 (.bin .gtr (.t 34) (.c (.int .i64 50))) 31 false, Oa 36 (.pick (.t 31) (.c (.bool true)) (.t 35)), Oa 37 (.mv (.t 36)), Oe 38 (.faddr 5 (.t 1)) 37 false, Oe 39 (.load (.t 38)) 37 false, Oe 40 (.len false (.t 39)) 37 false, Oe 41 (.bin .gtr (.t 40) (.c (.int .i64 50))) 37 false, Oa 42 (.pick (.t 37) (.c (.bool true)) (.t 41)), Oa 43 (.mv (.t 42)), Oe 44 (.faddr 6 (.t 1)) 43 false, Oe 45 (.load (.t 44)) 43 false, Oe 46 (.len false (.t 45)) 43 false, Oe 47 (.bin .gtr (.t 46) (.c (.int .i64 500))) 43 false, Oa 48 (.pick (.t 43) (.c (.bool true)) (.t 47))]
abbrev qaww : List SOper := [Oa 2 (.mv (.c (.bool true)))]
abbrev qawv : List SOper := [Oa 3 (.mv (.c (.int .i64 0)))]
abbrev qawu : List SOper := [Oa 49 (.mv (.t 3)), Oa 50 (.faddr 0 (.t 1)), Oa 51 (.load (.t 50)), Oa 52 (.len false (.t 51)), Oa 53 (.bin .lss (.t 49) (.t 52))]
abbrev qawt : List SOper := [Oa 56 (.faddr 0 (.t 1)), Oa 57 (.load (.t 56)), Oa 58 (.mv (.t 3)), Oa 59 (.iaddr 1 (.t 57) (.t 58)), Oa 60 (.faddr 0 (.t 59)), Oa 61 (.load (.t 60)), Oa 62 (.len false (.t 61)), Oa 63 (.bin .gtr (.t 62) (.c (.int .i64 500)))]
abbrev qaws : List SOper := [Oa 2 (.mv (.c (.bool true)))]
abbrev qawr : List SOper := [Oa 54 (.mv (.t 3)), Oa 55 (.bin .add (.t 54) (.c (.int .i64 1))), Oa 3 (.mv (.t 55))]
def qajt : SCode := (.seq (.seq (.reg false qawu [1, 3, 53]) (.cond (.t 53) .skip (.exit 0))) (.seq (.block 1 (.seq (.reg false qawt [1, 3, 63]) (.cond (.t 63) (.seq (.reg false qaws [2]) .ret) .skip))) (.reg false qawr [1, 3])))
abbrev qawq : List SOper := [Oa 4 (.mv (.c (.int .i64 0)))]
abbrev qarj : List SOper := [Oa 64 (.mv (.t 4)), Oa 65 (.faddr 2 (.t 1)), Oa 66 (.load (.t 65)), Oa 67 (.len false (.t 66)), Oa 68 (.bin .lss (.t 64) (.t 67))]
abbrev qari : List SOper := [Oa 71 (.faddr 2 (.t 1)), Oa 72 (.load (.t 71)), Oa 73 (.mv (.t 4)), Oa 74 (.iaddr 5 (.t 72) (.t 73)), Oa 75 (.faddr 3 (.t 74)), Oa 76 (.load (.t 75)), Oa 77 (.len false (.t 76)), Oa 78 (.bin .gtr (.t 77) (.c (.int .i64 500)))]
abbrev qarh : List SOper := [Oa 2 (.mv (.c (.bool true)))]
abbrev qarg : List SOper := [Oa 69 (.mv (.t 4)), Oa 70 (.bin .add (.t 69) (.c (.int .i64 1))), Oa 4 (.mv (.t 70))]
def qajs : SCode := (.seq (.seq (.reg false qarj [1, 4, 68]) (.cond (.t 68) .skip (.exit 2))) (.seq (.block 3 (.seq (.reg false qari [1, 4, 78]) (.cond (.t 78) (.seq (.reg false qarh [2]) .ret) .skip))) (.reg false qarg [1, 4])))
abbrev qarf : List SOper := [Oa 5 (.mv (.c (.int .i64 0)))]
abbrev qare : List SOper := [Oa 79 (.mv (.t 5)), Oa 80 (.faddr 3 (.t 1)), Oa 81 (.load (.t 80)), Oa 82 (.len false (.t 81)), Oa 83 (.bin .lss (.t 79) (.t 82))]
abbrev qard : List SOper := [Oa 86 (.faddr 3 (.t 1)), Oa 87 (.load (.t 86)), Oa 88 (.mv (.t 5)), Oa 89 (.iaddr 2 (.t 87) (.t 88)), Oa 90 (.faddr 0 (.t 89)), Oa 91 (.load (.t 90)), Oa 92 (.len false (.t 91)), Oa 93 (.bin .gtr (.t 92) (.c (.int .i64 500))), Oa 94 (.mv (.t 93)), Oe 95 (.faddr 3 (.t 1)) 94 false, Oe 96 (.load (.t 95)) 94 false, Oe 97 (.mv (.t 5)) 94 false, Oe 98 (.iaddr 2 (.t 96) (.t 97)) 94 false, Oe 99 (.faddr 1 (.t 98)) 94 false, Oe 100 (.load (.t 99)) 94 false, Oe 101 (.len false (.t 100)) 94 false, Oe 102 (.bin .gtr (.t 101) (.c (.int .i64 50))) 94 false, Oa 103 (.pick (.t 94) (.c (.bool true)) (.t 102))]
abbrev qarc : List SOper := [Oa 2 (.mv (.c (.bool true)))]
abbrev qarb : List SOper := [Oa 6 (.mv (.c (.int .i64 0)))]
abbrev qara : List SOper := [Oa 104 (.mv (.t 6)), Oa 105 (.faddr 3 (.t 1)), Oa 106 (.load (.t 105)), Oa 107 (.mv (.t 5)), Oa 108 (.iaddr 2 (.t 106) (.t 107)), Oa 109 (.faddr 1 (.t 108)), Oa 110 (.load (.t 109)), Oa 111 (.len false (.t 110)), Oa 112 (.bin .lss (.t 104) (.t 111))]
abbrev qaq9 : List SOper := [Oa 115 (.faddr 3 (.t 1)), Oa 116 (.load (.t 115)), Oa 117 (.mv (.t 5)), Oa 118 (.iaddr 2 (.t 116) (.t 117)), Oa 119 (.faddr 1 (.t 118)), Oa 120 (.load (.t 119)), Oa 121 (.mv (.t 6)), Oa 122 (.iaddr 5 (.t 120) (.t 121)), Oa 123 (.faddr 4 (.t 122)), Oa 124 (.load (.t 123)), Oa 125 (.len false (.t 124)), Oa 126 (.bin .gtr (.t 125) (.c (.int .i64 500)))]
abbrev qaq8 : List SOper := [Oa 2 (.mv (.c (.bool true)))]
abbrev qaq7 : List SOper := [Oa 113 (.mv (.t 6)), Oa 114 (.bin .add (.t 113) (.c (.int .i64 1))), Oa 6 (.mv (.t 114))]
def qajr : SCode := (.seq (.seq (.reg false qara [1, 5, 6, 112]) (.cond (.t 112) .skip (.exit 6))) (.seq (.block 7 (.seq (.reg false qaq9 [1, 5, 6, 126]) (.cond (.t 126) (.seq (.reg false qaq8 [2]) .ret) .skip))) (.reg false qaq7 [1, 5, 6])))
abbrev qaq6 : List SOper := [Oa 84 (.mv (.t 5)), Oa 85 (.bin .add (.t 84) (.c (.int .i64 1))), Oa 5 (.mv (.t 85))]
def qajq : SCode := (.seq (.seq (.reg false qare [1, 5, 83]) (.cond (.t 83) .skip (.exit 4))) (.seq (.block 5 (.seq (.seq (.reg false qard [1, 5, 103]) (.cond (.t 103) (.seq (.reg false qarc [2]) .ret) .skip)) (.seq (.reg false qarb [1, 5, 6]) (.block 6 (.loop qajr))))) (.reg false qaq6 [1, 5])))
abbrev qaq5 : List SOper := [Oa 7 (.mv (.c (.int .i64 0)))]
abbrev qaq4 : List SOper := [Oa 127 (.mv (.t 7)), Oa 128 (.faddr 4 (.t 1)), Oa 129 (.load (.t 128)), Oa 130 (.len false (.t 129)), Oa 131 (.bin .lss (.t 127) (.t 130))]
abbrev qaq3 : List SOper := [Oa 134 (.faddr 4 (.t 1)), Oa 135 (.load (.t 134)), Oa 136 (.mv (.t 7)), Oa 137 (.iaddr 6 (.t 135) (.t 136)), Oa 138 (.faddr 1 (.t 137)), Oa 139 (.load (.t 138)), Oa 140 (.len false (.t 139)), Oa 141 (.bin .gtr (.t 140) (.c (.int .i64 500))), Oa 142 (.mv (.t 141)), Oe 143 (.faddr 4 (.t 1)) 142 false, Oe 144 (.load (.t 143)) 142 false, Oe 145 (.mv (.t 7)) 142 false, Oe 146 (.iaddr 6 (.t 144) (.t 145)) 142 false, Oe 147 (.faddr 2 (.t 146)) 142 false, Oe 148 (.load (.t 147)) 142 false, Oe 149 (.len false (.t 148)) 142 false, Oe 150 (.bin .gtr (.t 149) (.c (.int .i64 500))) 142 false, Oa 151 (.pick (.t 142) (.c (.bool true)) (.t 150)), Oa 152 (.mv (.t 151)), Oe 153 (.faddr 4 (.t 1)) 152 false, Oe 154 (.load (.t 153)) 152 false, Oe 155 (.mv (.t 7)) 152 false, Oe 156 (.iaddr 6 (.t 154) (.t 155)) 152 false, Oe 157 (.faddr 5 (.t 156)) 152 false, Oe 158 (.load (.t 157)) 152 false, Oe 159 (.len false (.t 158)) 152 false, Oe 160 (.bin .gtr (.t 159) (.c (.int .i64 500))) 152 false, Oa 161 (.pick (.t 152) (.c (.bool true)) (.t 160))]
abbrev qaq2 : List SOper := [Oa 2 (.mv (.c (.bool true)))]
abbrev qaq1 : List SOper := [Oa 132 (.mv (.t 7)), Oa 133 (.bin .add (.t 132) (.c (.int .i64 1))), Oa 7 (.mv (.t 133))]
def qajp : SCode := (.seq (.seq (.reg false qaq4 [1, 7, 131]) (.cond (.t 131) .skip (.exit 8))) (.seq (.block 9 (.seq (.reg false qaq3 [1, 7, 161]) (.cond (.t 161) (.seq (.reg false qaq2 [2]) .ret) .skip))) (.reg false qaq1 [1, 7])))
abbrev qaq0 : List SOper := [Oa 8 (.mv (.c (.int .i64 0)))]
abbrev qaqz : List SOper := [Oa 162 (.mv (.t 8)), Oa 163 (.faddr 5 (.t 1)), Oa 164 (.load (.t 163)), Oa 165 (.len false (.t 164)), Oa 166 (.bin .lss (.t 162) (.t 165))]
abbrev qaqy : List SOper := [Oa 169 (.faddr 5 (.t 1)), Oa 170 (.load (.t 169)), Oa 171 (.mv (.t 8)), Oa 172 (.iaddr 5 (.t 170) (.t 171)), Oa 173 (.faddr 2 (.t 172)), Oa 174 (.load (.t 173)), Oa 175 (.len false (.t 174)), Oa 176 (.bin .gtr (.t 175) (.c (.int .i64 500)))]
abbrev qaqx : List SOper := [Oa 2 (.mv (.c (.bool true)))]
abbrev qaqw : List SOper := [Oa 167 (.mv (.t 8)), Oa 168 (.bin .add (.t 167) (.c (.int .i64 1))), Oa 8 (.mv (.t 168))]
def qajo : SCode := (.seq (.seq (.reg false qaqz [1, 8, 166]) (.cond (.t 166) .skip (.exit 10))) (.seq (.block 11 (.seq (.reg false qaqy [1, 8, 176]) (.cond (.t 176) (.seq (.reg false qaqx [2]) .ret) .skip))) (.reg false qaqw [1, 8])))
abbrev qaqv : List SOper := [Oa 2 (.mv (.c (.bool false)))]
def c_gplan : SCode := (.seq (.reg false qawy [1]) (.seq (.seq (.reg false qawx [1, 48]) (.cond (.t 48) (.seq (.reg false qaww [2]) .ret) .skip)) (.seq (.seq (.reg false qawv [1, 3]) (.block 0 (.loop qajt))) (.seq (.seq (.reg false qawq [1, 4]) (.block 2 (.loop qajs))) (.seq (.seq (.reg false qarf [1, 5]) (.block 4 (.loop qajq))) (.seq (.seq (.reg false qaq5 [1, 7]) (.block 8 (.loop qajp))) (.seq (.seq (.reg false qaq0 [1, 8]) (.block 10 (.loop qajo))) (.seq (.reg false qaqv [2]) .ret))))))))
theorem qak3 : comp Try.prog 177 ((Try.f6.body).getD .skip) = some c_gplan.erase := by kernel_rfl
end Go.Proofs.Ytbefmmajjfijnaa
namespace Go.Proofs.Ytbefmmajjfijnaa
set_option linter.all false
open Go.RowKit
attribute [local simp] qabl qabk qaav qaa9 qaaw qaa8 qabi qabj qaaq qab6 SOp.run SX.ev putd puts argS upds SOp.touch SSt.keep SSt.skip gets geth puth delh idOf SV.cells? setL qaeb qaec sbin eq0 eq1 eqL qadx qac0 qac1 qaa3 qabm qaai qabn qab7 qaao qaan FrzOk qabc qaay qaba qabb qaar qaax qabo qaaz qaat qabd qaas frzS frzH frz frz1 frz0 SlotsM ObjsM ObjM rn ren ren1 ren0 qaca qacx qacs qab9 qabp qac3 qac2 CoL qabe qaby dels adds idsH qabu
attribute [local simp] qaj1 refc qagg qag3 qade opc actc tabc qagu qadj nums
def qa49 (h : HeadD) : Bool := decide (500 < (h.w.length : Int))
def qaim (s : StateD) : Bool := decide (500 < (s.cases_.length : Int))
def gOp (o : OpD) : Bool := decide (500 < (o.e.length : Int))
def gAct (a : ActD) : Bool := decide (500 < (a.w.length : Int)) || decide (50 < (a.ops.length : Int)) || a.ops.any gOp
def gTab (t : TabD) : Bool := decide (500 < (t.keys.length : Int)) || decide (500 < (t.acts.length : Int)) || decide (500 < (t.args.length : Int))
def qaj2 (n : NodeD) : Bool := decide (500 < (n.e.length : Int))
def gTop (p : PlanD) : Bool := decide (50 < (p.heads.length : Int)) || decide (500 < (p.meta_.length : Int)) || decide (50 < (p.states.length : Int)) || decide (50 < (p.acts.length : Int)) || decide (50 < (p.tabs.length : Int)) || decide (50 < (p.nodes.length : Int)) || decide (500 < (p.out.length : Int))
def qahv (p : PlanD) : Bool := gTop p || (p.heads.any qa49 || (p.states.any qaim || (p.acts.any gAct || (p.tabs.any gTab || p.nodes.any qaj2))))
theorem qa2f {p : PlanD} (h : qahv p = false) : SmallP p := by
 unfold qahv at h
 simp only [Bool.or_eq_false_iff, List.any_eq_false] at h
 obtain ⟨h0, h1, h2, h3, h4, h5⟩ := h
 unfold gTop at h0
 simp only [Bool.or_eq_false_iff, decide_eq_false_iff_not] at h0
 obtain ⟨⟨⟨⟨⟨⟨a1, a2⟩, a3⟩, a4⟩, a5⟩, a6⟩, a7⟩ := h0
 refine ⟨by omega, by omega, by omega, by omega, by omega, by omega, by omega, fun x hx => ?_, fun x hx => ?_, fun x hx => ?_, fun x hx => ?_, fun x hx o ho => ?_, fun x hx => ?_, fun x hx => ?_⟩
 ·have := h1 x hx; unfold qa49 at this; rw [decide_eq_true_eq] at this; omega
 ·have := h2 x hx; unfold qaim at this; rw [decide_eq_true_eq] at this; omega
 ·have := h3 x hx; unfold gAct at this; simp only [Bool.or_eq_true, decide_eq_true_eq] at this; omega
 ·have := h3 x hx; unfold gAct at this; simp only [Bool.or_eq_true, decide_eq_true_eq] at this; omega
 ·have := h3 x hx; unfold gAct at this; simp only [Bool.or_eq_true, decide_eq_true_eq, List.any_eq_true, not_or] at this
  have q : ¬ gOp o = true := fun hg => this.2 ⟨o, ho, hg⟩
  unfold gOp at q; rw [decide_eq_true_eq] at q; omega
 ·have := h4 x hx; unfold gTab at this; simp only [Bool.or_eq_true, decide_eq_true_eq] at this; omega
 ·have := h5 x hx; unfold qaj2 at this; rw [decide_eq_true_eq] at this; omega
set_option maxHeartbeats 8000000 in
theorem gplan_s (p : PlanD) (q : Nat) : SCalls Try.prog 6 [.agg (qadj p)] [] q (.bool (qahv p)) [] := by
 refine qacq ?_ (fun _ => rfl) (fun _ => rfl) rfl q
 refine qaau (N := 177) Try.func6 rfl rfl (by kernel_rfl) qak3 (by simp) (by repeat' (first | exact trivial | refine And.intro ?_ ?_ | rfl | decide | exact PureR.ren _)) (by repeat' (first | exact trivial | refine And.intro ?_ ?_ | rfl | decide | exact PureR.ren _)) ?_
 rintro X hP hN hm
 unfold c_gplan
 cases hT : gTop p
 ·have hF : qahv p = ((p.heads.drop 0).any qa49 || (p.states.any qaim || (p.acts.any gAct || (p.tabs.any gTab || p.nodes.any qaj2)))) := by unfold qahv; rw [hT]; rfl
  generalize qahv p = F at hF
  have a := hT
  unfold gTop at a
  simp only [Bool.or_eq_false_iff] at a
  obtain ⟨⟨⟨⟨⟨⟨a1, a2⟩, a3⟩, a4⟩, a5⟩, a6⟩, a7⟩ := a
  have b1 := of_decide_eq_false a1
  have b3 := of_decide_eq_false a3
  have b4 := of_decide_eq_false a4
  have b5 := of_decide_eq_false a5
  have b6 := of_decide_eq_false a6
  clear hT
  replace b1 := Lib.hid b1
  replace b3 := Lib.hid b3
  replace b4 := Lib.hid b4
  replace b5 := Lib.hid b5
  replace b6 := Lib.hid b6
  replace hF := Lib.hid hF
  repeat' (first | (with_reducible refine zA ?_) | ((with_reducible refine qaad ?_); (try rw [hP]); simp -implicitDefEqProofs [*]) | ((with_reducible refine qaaf ?_); (try simp -implicitDefEqProofs [*])) | ((with_reducible refine qaab rfl (fun h => ?_) (fun h => ?_)) <;> have h' := h <;> (try simp at h') <;> (try subst h')) | fail)
  clear a1 a2 a3 a4 a5 a6 a7
  refine qaaj (qaa5 (fun s (i : Nat) => s.turn [(3, .int .i64 i)] []) (fun i => i ≤ p.heads.length ∧ F = ((p.heads.drop i).any qa49 || (p.states.any qaim || (p.acts.any gAct || (p.tabs.any gTab || p.nodes.any qaj2))))) (fun i => p.heads.length - i) 0 ?_ ⟨by simp, hF.out⟩ ?_)
  ·repeat' (first | ((with_reducible refine qaag [] hm ?_ ?_ ?_ ?_) <;> (try simp only [zT, puth, Nat.reduceEqDiff, reduceIte, Nat.reduceAdd])) | (with_reducible first | refine za ?_ ?_ | refine zb ?_ ?_ ?_ ?_) | (with_reducible first | exact qaaa | exact qaac) | ((with_reducible first | refine zga ?_ | refine zgb ?_); rfl) | ((with_reducible refine zgd ?_); (first | omega | (simp; done))) | (exact Co.refl _) | (exact CoL.refl _) | fail)
  rintro J hJ i ⟨h1, h2⟩
  have hbb := b1.out
  clear hF
  unfold qajt
  simp only [zT, puth, Nat.reduceEqDiff, reduceIte, Nat.reduceAdd] at h1 h2 ⊢
  rcases Nat.lt_or_ge i p.heads.length with hi | hi
  ·rw [qadr _ hi] at h2
   generalize hxx : p.heads[i] = x at h2
   have wi : IntKind.i64.wrap ((i : Int) + 1) = (i : Int) + 1 := qaap (by omega) (by omega)
   cases hv : qa49 x <;> rw [hv] at h2 <;> replace h2 := Lib.hid h2 <;> unfold qa49 at hv
   ·repeat' (first | (with_reducible first | refine zA ?_ | refine qaae ?_) | ((with_reducible refine qaad ?_); (try rw [hP]); simp -implicitDefEqProofs [qach, *]) | ((with_reducible refine qaaf ?_); (try simp -implicitDefEqProofs [qach, *])) | ((with_reducible refine qaab rfl (fun h => ?_) (fun h => ?_)) <;> have h' := h <;> (try simp at h') <;> (try subst h')) | (with_reducible first | refine za ?_ ?_ | refine zb ?_ ?_ ?_ ?_) | (with_reducible first | exact qaaa | exact qaac) | ((with_reducible first | refine zga ?_ | refine zgb ?_); rfl) | ((with_reducible first | refine zgd ?_ | refine zge ?_); (first | omega | (simp; done))) | (exact Co.refl _) | (exact CoL.refl _) | ((refine qaah hJ (i + 1) ?_ ?_ ?_; (with_reducible refine qaag [] hm ?_ ?_ ?_ ?_) <;> (try simp only [zT, puth, Nat.reduceEqDiff, reduceIte, Nat.reduceAdd]))) | fail)
    exact ⟨by omega, by rw [h2.out, Bool.false_or]⟩
   ·repeat' (first | (with_reducible first | refine zA ?_ | refine qaae ?_) | ((with_reducible refine qaad ?_); (try rw [hP]); simp -implicitDefEqProofs [qach, *]) | ((with_reducible refine qaaf ?_); (try simp -implicitDefEqProofs [qach, *])) | ((with_reducible refine qaa4 ?_); (try simp only [qaa3, qaai, qaao])) | ((with_reducible refine qaab rfl (fun h => ?_) (fun h => ?_)) <;> have h' := h <;> (try simp at h') <;> (try subst h')) | (with_reducible refine zN hm ?_) | fail)
    rw [h2.out]; rfl
  ·obtain rfl : i = p.heads.length := by omega
   have hF : F = ((p.states.drop 0).any qaim || (p.acts.any gAct || (p.tabs.any gTab || p.nodes.any qaj2))) := by rw [h2, List.drop_length]; rfl
   clear h2 h1 hi hbb hJ
   replace hF := Lib.hid hF
   repeat' (first | (with_reducible refine zA ?_) | ((with_reducible refine qaad ?_); (try rw [hP]); simp -implicitDefEqProofs [*]) | ((with_reducible refine qaam ?_); (try simp -implicitDefEqProofs [*])) | ((with_reducible refine qaab rfl (fun h => ?_) (fun h => ?_)) <;> have h' := h <;> (try simp at h') <;> (try subst h')) | fail)
   refine qaaj (qaa5 (fun s (i : Nat) => s.turn [(4, .int .i64 i)] []) (fun i => i ≤ p.states.length ∧ F = ((p.states.drop i).any qaim || (p.acts.any gAct || (p.tabs.any gTab || p.nodes.any qaj2)))) (fun i => p.states.length - i) 0 ?_ ⟨by simp, hF.out⟩ ?_)
   ·repeat' (first | ((with_reducible refine qaag [] hm ?_ ?_ ?_ ?_) <;> (try simp only [zT, puth, Nat.reduceEqDiff, reduceIte, Nat.reduceAdd])) | (with_reducible first | refine za ?_ ?_ | refine zb ?_ ?_ ?_ ?_) | (with_reducible first | exact qaaa | exact qaac) | ((with_reducible first | refine zga ?_ | refine zgb ?_); rfl) | ((with_reducible refine zgd ?_); (first | omega | (simp; done))) | (exact Co.refl _) | (exact CoL.refl _) | fail)
   rintro J hJ i ⟨h1, h2⟩
   have hbb := b3.out
   clear hF
   unfold qajs
   simp only [zT, puth, Nat.reduceEqDiff, reduceIte, Nat.reduceAdd] at h1 h2 ⊢
   rcases Nat.lt_or_ge i p.states.length with hi | hi
   ·rw [qadr _ hi] at h2
    generalize hxx : p.states[i] = x at h2
    have wi : IntKind.i64.wrap ((i : Int) + 1) = (i : Int) + 1 := qaap (by omega) (by omega)
    cases hv : qaim x <;> rw [hv] at h2 <;> replace h2 := Lib.hid h2 <;> unfold qaim at hv
    ·repeat' (first | (with_reducible first | refine zA ?_ | refine qaae ?_) | ((with_reducible refine qaad ?_); (try rw [hP]); simp -implicitDefEqProofs [qach, *]) | ((with_reducible refine qaaf ?_); (try simp -implicitDefEqProofs [qach, *])) | ((with_reducible refine qaab rfl (fun h => ?_) (fun h => ?_)) <;> have h' := h <;> (try simp at h') <;> (try subst h')) | (with_reducible first | refine za ?_ ?_ | refine zb ?_ ?_ ?_ ?_) | (with_reducible first | exact qaaa | exact qaac) | ((with_reducible first | refine zga ?_ | refine zgb ?_); rfl) | ((with_reducible first | refine zgd ?_ | refine zge ?_); (first | omega | (simp; done))) | (exact Co.refl _) | (exact CoL.refl _) | ((refine qaah hJ (i + 1) ?_ ?_ ?_; (with_reducible refine qaag [] hm ?_ ?_ ?_ ?_) <;> (try simp only [zT, puth, Nat.reduceEqDiff, reduceIte, Nat.reduceAdd]))) | fail)
     exact ⟨by omega, by rw [h2.out, Bool.false_or]⟩
    ·repeat' (first | (with_reducible first | refine zA ?_ | refine qaae ?_) | ((with_reducible refine qaad ?_); (try rw [hP]); simp -implicitDefEqProofs [qach, *]) | ((with_reducible refine qaaf ?_); (try simp -implicitDefEqProofs [qach, *])) | ((with_reducible refine qaa4 ?_); (try simp only [qaa3, qaai, qaao])) | ((with_reducible refine qaab rfl (fun h => ?_) (fun h => ?_)) <;> have h' := h <;> (try simp at h') <;> (try subst h')) | (with_reducible refine zN hm ?_) | fail)
     rw [h2.out]; rfl
   ·obtain rfl : i = p.states.length := by omega
    have hF : F = ((p.acts.drop 0).any gAct || (p.tabs.any gTab || p.nodes.any qaj2)) := by rw [h2, List.drop_length]; rfl
    clear h2 h1 hi hbb hJ
    replace hF := Lib.hid hF
    repeat' (first | (with_reducible refine zA ?_) | ((with_reducible refine qaad ?_); (try rw [hP]); simp -implicitDefEqProofs [*]) | ((with_reducible refine qaam ?_); (try simp -implicitDefEqProofs [*])) | ((with_reducible refine qaab rfl (fun h => ?_) (fun h => ?_)) <;> have h' := h <;> (try simp at h') <;> (try subst h')) | fail)
    refine qaaj (qaa5 (fun s (i : Nat) => s.turn [(5, .int .i64 i)] []) (fun i => i ≤ p.acts.length ∧ F = ((p.acts.drop i).any gAct || (p.tabs.any gTab || p.nodes.any qaj2))) (fun i => p.acts.length - i) 0 ?_ ⟨by simp, hF.out⟩ ?_)
    ·repeat' (first | ((with_reducible refine qaag [] hm ?_ ?_ ?_ ?_) <;> (try simp only [zT, puth, Nat.reduceEqDiff, reduceIte, Nat.reduceAdd])) | (with_reducible first | refine za ?_ ?_ | refine zb ?_ ?_ ?_ ?_) | (with_reducible first | exact qaaa | exact qaac) | ((with_reducible first | refine zga ?_ | refine zgb ?_); rfl) | ((with_reducible refine zgd ?_); (first | omega | (simp; done))) | (exact Co.refl _) | (exact CoL.refl _) | fail)
    rintro J hJ i ⟨h1, h2⟩
    have hbb := b4.out
    have hJo := hJ
    clear hF
    unfold qajq
    simp only [zT, puth, Nat.reduceEqDiff, reduceIte, Nat.reduceAdd] at h1 h2 ⊢
    rcases Nat.lt_or_ge i p.acts.length with hi | hi
    ·rw [qadr _ hi] at h2
     generalize hxx : p.acts[i] = x at h2
     have wi : IntKind.i64.wrap ((i : Int) + 1) = (i : Int) + 1 := qaap (by omega) (by omega)
     unfold gAct at h2
     cases v1 : decide (500 < (x.w.length : Int)) <;> rw [v1] at h2
     rotate_left
     ·rw [Bool.true_or, Bool.true_or, Bool.true_or] at h2
      replace h2 := Lib.hid h2
      repeat' (first | (with_reducible first | refine zA ?_ | refine qaae ?_) | ((with_reducible refine qaad ?_); (try rw [hP]); simp -implicitDefEqProofs [*]) | ((with_reducible refine qaaf ?_); (try simp -implicitDefEqProofs [*])) | ((with_reducible refine qaa4 ?_); (try simp only [qaa3, qaai, qaao])) | ((with_reducible refine qaab rfl (fun h => ?_) (fun h => ?_)) <;> have h' := h <;> (try simp at h') <;> (try subst h')) | (with_reducible refine zN hm ?_) | fail)
      rw [h2.out]; rfl
     cases v2 : decide (50 < (x.ops.length : Int)) <;> rw [v2] at h2
     rotate_left
     ·rw [Bool.or_true, Bool.true_or, Bool.true_or] at h2
      replace h2 := Lib.hid h2
      repeat' (first | (with_reducible first | refine zA ?_ | refine qaae ?_) | ((with_reducible refine qaad ?_); (try rw [hP]); simp -implicitDefEqProofs [*]) | ((with_reducible refine qaaf ?_); (try simp -implicitDefEqProofs [*])) | ((with_reducible refine qaa4 ?_); (try simp only [qaa3, qaai, qaao])) | ((with_reducible refine qaab rfl (fun h => ?_) (fun h => ?_)) <;> have h' := h <;> (try simp at h') <;> (try subst h')) | (with_reducible refine zN hm ?_) | fail)
      rw [h2.out]; rfl
     have h3 : F = ((x.ops.drop 0).any gOp || ((p.acts.drop (i + 1)).any gAct || (p.tabs.any gTab || p.nodes.any qaj2))) := by rw [h2, Bool.or_assoc, Bool.or_assoc]; rfl
     have b2 := of_decide_eq_false v2
     replace h2 := Lib.hid h2
     replace h3 := Lib.hid h3
     replace b2 := Lib.hid b2
     repeat' (first | (with_reducible first | refine zA ?_ | refine qaae ?_) | ((with_reducible refine qaad ?_); (try rw [hP]); simp -implicitDefEqProofs [*]) | ((with_reducible refine qaaf ?_); (try simp -implicitDefEqProofs [*])) | ((with_reducible refine qaab rfl (fun h => ?_) (fun h => ?_)) <;> have h' := h <;> (try simp at h') <;> (try subst h')) | fail)
     clear v1 v2
     refine qaaj (qaa5 (fun s (k : Nat) => s.turn [(6, .int .i64 k)] []) (fun k => k ≤ x.ops.length ∧ F = ((x.ops.drop k).any gOp || ((p.acts.drop (i + 1)).any gAct || (p.tabs.any gTab || p.nodes.any qaj2)))) (fun k => x.ops.length - k) 0 ?_ ⟨by simp, h3.out⟩ ?_)
     ·repeat' (first | ((with_reducible refine qaag [] hm ?_ ?_ ?_ ?_) <;> (try simp only [zT, puth, Nat.reduceEqDiff, reduceIte, Nat.reduceAdd])) | (with_reducible first | refine za ?_ ?_ | refine zb ?_ ?_ ?_ ?_) | (with_reducible first | exact qaaa | exact qaac) | ((with_reducible first | refine zga ?_ | refine zgb ?_); rfl) | ((with_reducible refine zgd ?_); (first | omega | (simp; done))) | (exact Co.refl _) | (exact CoL.refl _) | fail)
     rintro J hJ k ⟨h4, h5⟩
     have hb2 := b2.out
     unfold qajr
     simp only [zT, puth, Nat.reduceEqDiff, reduceIte, Nat.reduceAdd] at h4 h5 ⊢
     rcases Nat.lt_or_ge k x.ops.length with hk | hk
     ·rw [qadr _ hk] at h5
      generalize hyy : x.ops[k] = y at h5
      have wk1 : IntKind.i64.wrap ((k : Int) + 1) = (k : Int) + 1 := qaap (by omega) (by omega)
      cases hv : gOp y <;> rw [hv] at h5 <;> replace h5 := Lib.hid h5 <;> unfold gOp at hv
      ·repeat' (first | (with_reducible first | refine zA ?_ | refine qaae ?_) | ((with_reducible refine qaad ?_); (try rw [hP]); simp -implicitDefEqProofs [qach, *]) | ((with_reducible refine qaaf ?_); (try simp -implicitDefEqProofs [qach, *])) | ((with_reducible refine qaab rfl (fun h => ?_) (fun h => ?_)) <;> have h' := h <;> (try simp at h') <;> (try subst h')) | (with_reducible first | refine za ?_ ?_ | refine zb ?_ ?_ ?_ ?_) | (with_reducible first | exact qaaa | exact qaac) | ((with_reducible first | refine zga ?_ | refine zgb ?_); rfl) | ((with_reducible first | refine zgd ?_ | refine zge ?_); (first | omega | (simp; done))) | (exact Co.refl _) | (exact CoL.refl _) | ((refine qaah hJ (k + 1) ?_ ?_ ?_; (with_reducible refine qaag [] hm ?_ ?_ ?_ ?_) <;> (try simp only [zT, puth, Nat.reduceEqDiff, reduceIte, Nat.reduceAdd]))) | fail)
       exact ⟨by omega, by rw [h5.out, Bool.false_or]⟩
      ·repeat' (first | (with_reducible first | refine zA ?_ | refine qaae ?_) | ((with_reducible refine qaad ?_); (try rw [hP]); simp -implicitDefEqProofs [qach, *]) | ((with_reducible refine qaaf ?_); (try simp -implicitDefEqProofs [qach, *])) | ((with_reducible refine qaa4 ?_); (try simp only [qaa3, qaai, qaao])) | ((with_reducible refine qaab rfl (fun h => ?_) (fun h => ?_)) <;> have h' := h <;> (try simp at h') <;> (try subst h')) | (with_reducible refine zN hm ?_) | fail)
       rw [h5.out]; rfl
     ·obtain rfl : k = x.ops.length := by omega
      rw [List.drop_length] at h5
      replace h5 := Lib.hid h5
      repeat' (first | (with_reducible refine zA ?_) | ((with_reducible refine qaad ?_); (try rw [hP]); simp -implicitDefEqProofs [*]) | ((with_reducible refine qaam ?_); (try simp -implicitDefEqProofs [*])) | ((with_reducible refine qaab rfl (fun h => ?_) (fun h => ?_)) <;> have h' := h <;> (try simp at h') <;> (try subst h')) | (with_reducible first | refine za ?_ ?_ | refine zb ?_ ?_ ?_ ?_) | (with_reducible first | exact qaaa | exact qaac) | ((with_reducible first | refine zga ?_ | refine zgb ?_); rfl) | ((with_reducible first | refine zgd ?_ | refine zge ?_); (first | omega | (simp; done))) | (exact Co.refl _) | (exact CoL.refl _) | ((refine qaah hJo (i + 1) ?_ ?_ ?_; (with_reducible refine qaag [] hm ?_ ?_ ?_ ?_) <;> (try simp only [zT, puth, Nat.reduceEqDiff, reduceIte, Nat.reduceAdd]))) | fail)
      exact ⟨by omega, by rw [h5.out]; rfl⟩
    ·obtain rfl : i = p.acts.length := by omega
     have hF : F = ((p.tabs.drop 0).any gTab || p.nodes.any qaj2) := by rw [h2, List.drop_length]; rfl
     clear h2 h1 hi hbb hJ hJo
     replace hF := Lib.hid hF
     repeat' (first | (with_reducible refine zA ?_) | ((with_reducible refine qaad ?_); (try rw [hP]); simp -implicitDefEqProofs [*]) | ((with_reducible refine qaam ?_); (try simp -implicitDefEqProofs [*])) | ((with_reducible refine qaab rfl (fun h => ?_) (fun h => ?_)) <;> have h' := h <;> (try simp at h') <;> (try subst h')) | fail)
     refine qaaj (qaa5 (fun s (i : Nat) => s.turn [(7, .int .i64 i)] []) (fun i => i ≤ p.tabs.length ∧ F = ((p.tabs.drop i).any gTab || p.nodes.any qaj2)) (fun i => p.tabs.length - i) 0 ?_ ⟨by simp, hF.out⟩ ?_)
     ·repeat' (first | ((with_reducible refine qaag [] hm ?_ ?_ ?_ ?_) <;> (try simp only [zT, puth, Nat.reduceEqDiff, reduceIte, Nat.reduceAdd])) | (with_reducible first | refine za ?_ ?_ | refine zb ?_ ?_ ?_ ?_) | (with_reducible first | exact qaaa | exact qaac) | ((with_reducible first | refine zga ?_ | refine zgb ?_); rfl) | ((with_reducible refine zgd ?_); (first | omega | (simp; done))) | (exact Co.refl _) | (exact CoL.refl _) | fail)
     rintro J hJ i ⟨h1, h2⟩
     have hbb := b5.out
     clear hF
     unfold qajp
     simp only [zT, puth, Nat.reduceEqDiff, reduceIte, Nat.reduceAdd] at h1 h2 ⊢
     rcases Nat.lt_or_ge i p.tabs.length with hi | hi
     ·rw [qadr _ hi] at h2
      generalize hxx : p.tabs[i] = x at h2
      have wi : IntKind.i64.wrap ((i : Int) + 1) = (i : Int) + 1 := qaap (by omega) (by omega)
      cases hv : gTab x <;> rw [hv] at h2 <;> replace h2 := Lib.hid h2
      ·unfold gTab at hv
       simp only [Bool.or_eq_false_iff] at hv
       obtain ⟨⟨v1, v2⟩, v3⟩ := hv
       repeat' (first | (with_reducible first | refine zA ?_ | refine qaae ?_) | ((with_reducible refine qaad ?_); (try rw [hP]); simp -implicitDefEqProofs [*]) | ((with_reducible refine qaaf ?_); (try simp -implicitDefEqProofs [*])) | ((with_reducible refine qaab rfl (fun h => ?_) (fun h => ?_)) <;> have h' := h <;> (try simp at h') <;> (try subst h')) | (with_reducible first | refine za ?_ ?_ | refine zb ?_ ?_ ?_ ?_) | (with_reducible first | exact qaaa | exact qaac) | ((with_reducible first | refine zga ?_ | refine zgb ?_); rfl) | ((with_reducible first | refine zgd ?_ | refine zge ?_); (first | omega | (simp; done))) | (exact Co.refl _) | (exact CoL.refl _) | ((refine qaah hJ (i + 1) ?_ ?_ ?_; (with_reducible refine qaag [] hm ?_ ?_ ?_ ?_) <;> (try simp only [zT, puth, Nat.reduceEqDiff, reduceIte, Nat.reduceAdd]))) | fail)
       exact ⟨by omega, by rw [h2.out, Bool.false_or]⟩
      ·replace hv := Lib.hid hv
       repeat' (first | (with_reducible first | refine zA ?_ | refine qaae ?_) | ((with_reducible refine qaad ?_); (try rw [hP]); simp -implicitDefEqProofs [*]) | ((with_reducible refine qaaf ?_); (try simp -implicitDefEqProofs [*])) | ((with_reducible refine qaa4 ?_); (try simp only [qaa3, qaai, qaao])) | ((with_reducible refine qaab rfl (fun h => ?_) (fun h => ?_)) <;> have h' := h <;> (try simp at h') <;> (try subst h')) | ((with_reducible refine qaa6 (fun h => ?_) (fun h => ?_)) <;> have h' := h <;> (try simp at h') <;> (try subst h') <;> simp -implicitDefEqProofs [*]) | (with_reducible refine zN hm ?_) | (with_reducible first | refine za ?_ ?_ | refine zb ?_ ?_ ?_ ?_) | (with_reducible first | exact qaaa | exact qaac) | ((with_reducible first | refine zga ?_ | refine zgb ?_); rfl) | ((with_reducible first | refine zgd ?_ | refine zge ?_); (first | omega | (simp; done))) | (exact Co.refl _) | (exact CoL.refl _) | ((refine qaah hJ (i + 1) ?_ ?_ ?_; (with_reducible refine qaag [] hm ?_ ?_ ?_ ?_) <;> (try simp only [zT, puth, Nat.reduceEqDiff, reduceIte, Nat.reduceAdd]))) | fail)
       all_goals (first | (rw [h2.out]; rfl) | (exfalso; have q := hv.out; unfold gTab at q; simp only [Bool.or_eq_true, decide_eq_true_eq] at q; omega))
     ·obtain rfl : i = p.tabs.length := by omega
      have hF : F = ((p.nodes.drop 0).any qaj2 || false) := by rw [h2, List.drop_length]; simp
      clear h2 h1 hi hbb hJ
      replace hF := Lib.hid hF
      repeat' (first | (with_reducible refine zA ?_) | ((with_reducible refine qaad ?_); (try rw [hP]); simp -implicitDefEqProofs [*]) | ((with_reducible refine qaam ?_); (try simp -implicitDefEqProofs [*])) | ((with_reducible refine qaab rfl (fun h => ?_) (fun h => ?_)) <;> have h' := h <;> (try simp at h') <;> (try subst h')) | fail)
      refine qaaj (qaa5 (fun s (i : Nat) => s.turn [(8, .int .i64 i)] []) (fun i => i ≤ p.nodes.length ∧ F = ((p.nodes.drop i).any qaj2 || false)) (fun i => p.nodes.length - i) 0 ?_ ⟨by simp, hF.out⟩ ?_)
      ·repeat' (first | ((with_reducible refine qaag [] hm ?_ ?_ ?_ ?_) <;> (try simp only [zT, puth, Nat.reduceEqDiff, reduceIte, Nat.reduceAdd])) | (with_reducible first | refine za ?_ ?_ | refine zb ?_ ?_ ?_ ?_) | (with_reducible first | exact qaaa | exact qaac) | ((with_reducible first | refine zga ?_ | refine zgb ?_); rfl) | ((with_reducible refine zgd ?_); (first | omega | (simp; done))) | (exact Co.refl _) | (exact CoL.refl _) | fail)
      rintro J hJ i ⟨h1, h2⟩
      have hbb := b6.out
      clear hF
      unfold qajo
      simp only [zT, puth, Nat.reduceEqDiff, reduceIte, Nat.reduceAdd] at h1 h2 ⊢
      rcases Nat.lt_or_ge i p.nodes.length with hi | hi
      ·rw [qadr _ hi] at h2
       generalize hxx : p.nodes[i] = x at h2
       have wi : IntKind.i64.wrap ((i : Int) + 1) = (i : Int) + 1 := qaap (by omega) (by omega)
       cases hv : qaj2 x <;> rw [hv] at h2 <;> replace h2 := Lib.hid h2 <;> unfold qaj2 at hv
       ·repeat' (first | (with_reducible first | refine zA ?_ | refine qaae ?_) | ((with_reducible refine qaad ?_); (try rw [hP]); simp -implicitDefEqProofs [qach, *]) | ((with_reducible refine qaaf ?_); (try simp -implicitDefEqProofs [qach, *])) | ((with_reducible refine qaab rfl (fun h => ?_) (fun h => ?_)) <;> have h' := h <;> (try simp at h') <;> (try subst h')) | (with_reducible first | refine za ?_ ?_ | refine zb ?_ ?_ ?_ ?_) | (with_reducible first | exact qaaa | exact qaac) | ((with_reducible first | refine zga ?_ | refine zgb ?_); rfl) | ((with_reducible first | refine zgd ?_ | refine zge ?_); (first | omega | (simp; done))) | (exact Co.refl _) | (exact CoL.refl _) | ((refine qaah hJ (i + 1) ?_ ?_ ?_; (with_reducible refine qaag [] hm ?_ ?_ ?_ ?_) <;> (try simp only [zT, puth, Nat.reduceEqDiff, reduceIte, Nat.reduceAdd]))) | fail)
        exact ⟨by omega, by rw [h2.out, Bool.false_or]⟩
       ·repeat' (first | (with_reducible first | refine zA ?_ | refine qaae ?_) | ((with_reducible refine qaad ?_); (try rw [hP]); simp -implicitDefEqProofs [qach, *]) | ((with_reducible refine qaaf ?_); (try simp -implicitDefEqProofs [qach, *])) | ((with_reducible refine qaa4 ?_); (try simp only [qaa3, qaai, qaao])) | ((with_reducible refine qaab rfl (fun h => ?_) (fun h => ?_)) <;> have h' := h <;> (try simp at h') <;> (try subst h')) | (with_reducible refine zN hm ?_) | fail)
        rw [h2.out]; rfl
      ·obtain rfl : i = p.nodes.length := by omega
       rw [List.drop_length] at h2
       replace h2 := Lib.hid h2
       repeat' (first | (with_reducible refine zA ?_) | ((with_reducible refine qaad ?_); (try rw [hP]); simp -implicitDefEqProofs [*]) | ((with_reducible refine qaam ?_); (try simp -implicitDefEqProofs [*])) | ((with_reducible refine qaa4 ?_); (try simp only [qaa3, qaai, qaao])) | ((with_reducible refine qaab rfl (fun h => ?_) (fun h => ?_)) <;> have h' := h <;> (try simp at h') <;> (try subst h')) | (with_reducible refine zN hm ?_) | fail)
       rw [h2.out]; rfl
 ·have hz : qahv p = true := by unfold qahv; rw [hT]; rfl
  rw [hz]
  replace hT := Lib.hid hT
  repeat' (first | (with_reducible refine zA ?_) | ((with_reducible refine qaad ?_); (try rw [hP]); simp -implicitDefEqProofs [*]) | ((with_reducible refine qaaf ?_); (try simp -implicitDefEqProofs [*])) | ((with_reducible refine qaa4 ?_); (try simp only [qaa3, qaai, qaao])) | ((with_reducible refine qaab rfl (fun h => ?_) (fun h => ?_)) <;> have h' := h <;> (try simp at h') <;> (try subst h')) | ((with_reducible refine qaa6 (fun h => ?_) (fun h => ?_)) <;> have h' := h <;> (try simp at h') <;> (try subst h') <;> simp -implicitDefEqProofs [*]) | (with_reducible refine zN hm ?_) | fail)
  all_goals (first | rfl | (exfalso; have q := hT.out; unfold gTop at q; simp only [Bool.or_eq_true, decide_eq_true_eq] at q; omega))
end Go.Proofs.Ytbefmmajjfijnaa
namespace Go.Proofs.Ytbefmmajjfijnaa
set_option linter.all false
open Go.RowKit
attribute [local simp] qabl qabk qaav qaa9 qaaw qaa8 qabi qabj qaaq qab6 SOp.run SX.ev putd puts argS upds SOp.touch SSt.keep SSt.skip gets geth puth delh idOf SV.cells? setL qaeb qaec sbin eq0 eq1 eqL qadx qac0 qac1 qaa3 qabm qaai qabn qab7 qaao qaan FrzOk qabc qaay qaba qabb qaar qaax qabo qaaz qaat qabd qaas frzS frzH frz frz1 frz0 SlotsM ObjsM ObjM rn ren ren1 ren0 qaca qacx qacs qab9 qabp qac3 qac2 CoL qabe qaby dels adds idsH qabu
attribute [local simp] qaj1 refc qagg qag3 qade opc actc tabc qagu qadj nums
instance pureR_take (fs : List (List SV)) [PureR fs] (i : Nat) : PureR (fs.take i) := ⟨fun σ => by rw [List.map_take, PureR.ren], fun x hx => PureR.ok x (List.mem_of_mem_take hx), fun x hx => PureR.pure x (List.mem_of_mem_take hx)⟩
end Go.Proofs.Ytbefmmajjfijnaa
namespace Go.Proofs.Ytbefmmajjfijnaa
set_option linter.all false
open Go.RowKit
attribute [local simp] qabl qabk qaav qaa9 qaaw qaa8 qabi qabj qaaq qab6 SOp.run SX.ev putd puts argS upds SOp.touch SSt.keep SSt.skip gets geth puth delh idOf SV.cells? setL qaeb qaec sbin eq0 eq1 eqL qadx qac0 qac1 qaa3 qabm qaai qabn qab7 qaao qaan FrzOk qabc qaay qaba qabb qaar qaax qabo qaaz qaat qabd qaas frzS frzH frz frz1 frz0 SlotsM ObjsM ObjM rn ren ren1 ren0 qaca qacx qacs qab9 qabp qac3 qac2 CoL qabe qaby dels adds idsH qabu
instance pureR_nil : PureR [] := ⟨fun _ => rfl, fun x hx => (by cases hx), fun x hx => (by cases hx)⟩
end Go.Proofs.Ytbefmmajjfijnaa
namespace Go.Proofs.Ytbefmmajjfijnaa
set_option linter.all false
open Go.RowKit Go.ChangeShapes Go.WideShapes
attribute [local simp] qabl qabk qaav qaa9 qaaw qaa8 qabi qabj qaaq qab6 SOp.run SX.ev putd puts argS upds SOp.touch SSt.keep SSt.skip gets geth puth delh idOf SV.cells? setL qaeb qaec sbin eq0 eq1 eqL qadx qac0 qac1 qaa3 qabm qaai qabn qab7 qaao qaan FrzOk qabc qaay qaba qabb qaar qaax qabo qaaz qaat qabd qaas frzS frzH frz frz1 frz0 SlotsM ObjsM ObjM rn ren ren1 ren0 qaca qacx qacs qab9 qabp qac3 qac2 CoL qabe qaby dels adds idsH qabu
attribute [local simp] qaj1 refc qagg qag3 qade opc actc tabc qagu qadj nums
theorem opens_ref : Opens Try.prog 45 qafx := by
 have h : Opens Try.prog 45 (Lay.pair (Lay.int .i64) (Lay.int .i64)) :=
  Opens.struct Try.underlying45 (OpensF.cons opensI rfl (OpensF.one opensI rfl)) (by kernel_rfl) (by decide)
 refine h.weak rfl ?_
 rintro w ⟨a, b⟩ cs hr
 exact ⟨⟨a, b⟩, hr⟩
theorem opens_push : Opens Try.prog 132 qafc := by
 have h : Opens Try.prog 132 (Lay.pair i64L (Lay.pair qafx u64L)) :=
  Opens.struct Try.underlying132 (OpensF.cons opensI rfl (OpensF.cons opens_ref rfl (OpensF.one opensU rfl))) (by kernel_rfl) (by decide)
 refine h.weak rfl ?_
 rintro w ⟨a, b, c⟩ cs hr
 exact ⟨⟨a, b, c⟩, hr⟩
theorem qaie : Opens Try.prog 23 (Lay.slice (Lay.int .i64)) := opensI.slice Try.underlying23 (by kernel_rfl)
theorem opens_head : Opens Try.prog 52 qaik := by
 have h : Opens Try.prog 52 (Lay.slice i64L) :=
  Opens.struct Try.underlying52 (OpensF.one qaie rfl) (by kernel_rfl) (by decide)
 refine h.weak rfl ?_
 rintro w a cs hr
 exact ⟨⟨a⟩, hr⟩
theorem opens_case : Opens Try.prog 109 qaiz := by
 have h : Opens Try.prog 109 (Lay.pair u64L (Lay.pair u64L i64L)) :=
  Opens.struct Try.underlying109 (OpensF.cons opensU rfl (OpensF.cons opensU rfl (OpensF.one opensI rfl))) (by kernel_rfl) (by decide)
 refine h.weak rfl ?_
 rintro w ⟨a, b, c⟩ cs hr
 exact ⟨⟨a, b, c⟩, hr⟩
set_option maxRecDepth 20000 in
theorem opens_state : Opens Try.prog 48 qafu := by
 have h : Opens Try.prog 48 (Lay.pair i64L (Lay.pair qafx (Lay.pair (Lay.slice qaiz) i64L))) :=
  Opens.struct Try.underlying48 (OpensF.cons opensI rfl (OpensF.cons opens_ref rfl (OpensF.cons (opens_case.slice Try.underlying46 (by kernel_rfl)) rfl (OpensF.one opensI rfl)))) (by kernel_rfl) (by decide)
 refine h.weak rfl ?_
 rintro w ⟨a, b, c, d⟩ cs hr
 exact ⟨⟨a, b, c, d⟩, hr⟩
theorem qafy : Opens Try.prog 56 (Lay.slice qafc) := opens_push.slice Try.underlying56 (by kernel_rfl)
set_option maxRecDepth 20000 in
theorem opens_op : Opens Try.prog 58 opLay := by
 have h : Opens Try.prog 58 (Lay.pair i64L (Lay.pair qafx (Lay.pair i64L (Lay.slice qafc)))) :=
  Opens.struct Try.underlying58 (OpensF.cons opensI rfl (OpensF.cons opens_ref rfl (OpensF.cons opensI rfl (OpensF.one qafy rfl)))) (by kernel_rfl) (by decide)
 refine h.weak rfl ?_
 rintro w ⟨a, b, c, d⟩ cs hr
 exact ⟨⟨a, b, c, d⟩, hr⟩
set_option maxRecDepth 20000 in
theorem opens_act : Opens Try.prog 55 qaxf := by
 have h : Opens Try.prog 55 (Lay.pair (Lay.slice i64L) (Lay.slice opLay)) :=
  Opens.struct Try.underlying55 (OpensF.cons qaie rfl (OpensF.one (opens_op.slice Try.underlying53 (by kernel_rfl)) rfl)) (by kernel_rfl) (by decide)
 refine h.weak rfl ?_
 rintro w ⟨a, b⟩ cs hr
 exact ⟨⟨a, b⟩, hr⟩
set_option maxRecDepth 20000 in
theorem opens_tab : Opens Try.prog 62 qarz := by
 have h : Opens Try.prog 62 (Lay.pair i64L (Lay.pair (Lay.slice qafx) (Lay.pair (Lay.slice i64L) (Lay.pair i64L (Lay.pair i64L (Lay.slice u64L)))))) :=
  Opens.struct Try.underlying62 (OpensF.cons opensI rfl (OpensF.cons (opens_ref.slice Try.underlying59 (by kernel_rfl)) rfl (OpensF.cons qaie rfl (OpensF.cons opensI rfl (OpensF.cons opensI rfl (OpensF.one opensN rfl)))))) (by kernel_rfl) (by decide)
 refine h.weak rfl ?_
 rintro w ⟨a, b, c, d, e, f⟩ cs hr
 exact ⟨⟨a, b, c, d, e, f⟩, hr⟩
set_option maxRecDepth 20000 in
theorem opens_node : Opens Try.prog 64 qaig := by
 have h : Opens Try.prog 64 (Lay.pair i64L (Lay.pair i64L (Lay.pair (Lay.slice qafc) (Lay.pair i64L i64L)))) :=
  Opens.struct Try.underlying64 (OpensF.cons opensI rfl (OpensF.cons opensI rfl (OpensF.cons qafy rfl (OpensF.cons opensI rfl (OpensF.one opensI rfl))))) (by kernel_rfl) (by decide)
 refine h.weak rfl ?_
 rintro w ⟨a, b, c, d, e⟩ cs hr
 exact ⟨⟨a, b, c, d, e⟩, hr⟩
set_option maxRecDepth 20000 in
theorem opens_plan : Opens Try.prog 29 planLay := by
 have h : Opens Try.prog 29 (Lay.pair (Lay.slice qaik) (Lay.pair (Lay.slice i64L) (Lay.pair (Lay.slice qafu) (Lay.pair (Lay.slice qaxf) (Lay.pair (Lay.slice qarz) (Lay.pair (Lay.slice qaig) (Lay.slice i64L))))))) :=
  Opens.struct Try.underlying29 (OpensF.cons (opens_head.slice Try.underlying22 (by kernel_rfl)) rfl (OpensF.cons qaie rfl (OpensF.cons (opens_state.slice Try.underlying24 (by kernel_rfl)) rfl (OpensF.cons (opens_act.slice Try.underlying25 (by kernel_rfl)) rfl (OpensF.cons (opens_tab.slice Try.underlying26 (by kernel_rfl)) rfl (OpensF.cons (opens_node.slice Try.underlying27 (by kernel_rfl)) rfl (OpensF.one qaie rfl))))))) (by kernel_rfl) (by decide)
 refine h.weak rfl ?_
 rintro w ⟨a, b, c, d, e, f, g⟩ cs hr
 exact ⟨⟨a, b, c, d, e, f, g⟩, hr⟩
theorem rep_lay {α : Type} {L : Lay α} {f : α → List SV} (hp : LayP L f) {w : World} {x : α} {cs : Array Value} (h : L.rep NoA w x cs.toList) : RepV w (fun _ => False) noPl (.agg (f x)) (.agg cs) := by
 obtain ⟨h1, h2⟩ := hp NoA w x cs.toList h
 have := RepV.agg (w := w) (A := NoA) (ρ := noPl) (cs := f x) (vs := cs.toList) h2 h1.1 h1.2
 exact this
end Go.Proofs.Ytbefmmajjfijnaa
namespace Go.Proofs.Ytbefmmajjfijnaa
set_option linter.all false
open Go.RowKit
attribute [local simp] qabl qabk qaav qaa9 qaaw qaa8 qabi qabj qaaq qab6 SOp.run SX.ev putd puts argS upds SOp.touch SSt.keep SSt.skip gets geth puth delh idOf SV.cells? setL qaeb qaec sbin eq0 eq1 eqL qadx qac0 qac1 qaa3 qabm qaai qabn qab7 qaao qaan FrzOk qabc qaay qaba qabb qaar qaax qabo qaaz qaat qabd qaas frzS frzH frz frz1 frz0 SlotsM ObjsM ObjM rn ren ren1 ren0 qaca qacx qacs qab9 qabp qac3 qac2 CoL qabe qaby dels adds idsH qabu
attribute [local simp] qadj nums
theorem fits8 {x : Int} (h : R8 x) : Fits .u8 x := by
 have := h.1; have := h.2
 simp [Fits, Lit.wf, IntKind.min, IntKind.max, IntKind.signed, IntKind.bits]; omega
theorem qakm (p : PlanD) : (encB p).length = (qacy p).length + 4 := by
 unfold encB; rw [List.length_append]; rfl
theorem qaxd (p : PlanD) : All8 (encB p) := qabf (qajw p) (qa2d _)
theorem qa3r (p : PlanD) (hs : SmallP p) {i : Nat} (hi : i < (encB p).length) {y : Int} (hy : R8 y) (hne : y ≠ (encB p)[i]) :
  ∃ c at_, c ≠ 0 ∧ ∀ q, SCalls Try.prog 8 [nums .u8 ((encB p).set i y)] [] q (fltS c at_) [] := by
 have hlen := qakm p
 have hpos := qamn p
 have hmax := qahn hs
 have hsl : ((encB p).set i y).length = (qacy p).length + 4 := by rw [List.length_set, hlen]
 have up : ∀ {c a : Int}, SCalls Try.prog 8 [nums .u8 ((encB p).set i y)] [] 0 (fltS c a) [] → ∀ q, SCalls Try.prog 8 [nums .u8 ((encB p).set i y)] [] q (fltS c a) [] := fun h q => qacq h (fun _ => rfl) (fun _ => rfl) rfl q
 by_cases h1 : 8000 < ((encB p).set i y).length
 ·exact ⟨14, 8000, by decide, up (qa3t _ (by omega) h1)⟩
 by_cases h2 : ((encB p).set i y).take 3 = [83, 89, 1]
 ·obtain ⟨x0, x1, x2, x3, g0, g1, g2, g3, h3⟩ := qa2b (qajw p) hi hy hne
  exact ⟨19, _, by decide, up (dec_sum _ (qacy p).length hsl hpos (by omega) x0 x1 x2 x3 g0 g1 g2 g3 h2 h3)⟩
 ·refine ⟨4, 0, by decide, up (qa3v _ (fun x hx => fits8 ?_) (by omega) (by omega) h2)⟩
  exact (List.mem_or_eq_of_mem_set hx).elim (qaxd p x) fun e => e ▸ hy
theorem qays (c a : Int) : qage (fltS c a) := qane (qabs (qanf (qabs qact (qabs qact (qabs qact (qabs qact (qabs qact (qabs qact (qabs qact qadk)))))))) (qabs (qanf (qabs (qafp _ _) (qabs (qafp _ _) qadk))) qadk))
theorem enc_q (p : PlanD) (hk : qah3 p) (hs : SmallP p) (hf : (qagt p).1 = 0) (q : Nat) : SCalls Try.prog 7 [.agg (qadj p)] [] q (.tup [.own q (encB p).length, .agg [.int .i64 0, .int .i64 0]]) [(q, .row 5 1 ((encB p).map fun x => [.int .u8 x]))] := by
 refine qagp q (by decide) (enc_ok p hk hs (wok_of hk) hf (qahn hs)) (fun _ => rfl) rfl rfl ⟨⟨.row 5 1 ((encB p).map fun x => [.int .u8 x]), ?_, rfl, rfl, PureR.ok, (PureR.ren _).symm⟩, trivial⟩ ?_ (by simp [idsH])
 ·simp [geth]
 ·intro i hi; simp [idsH] at hi; omega
theorem dec_own (b : List Int) {c a : Int} (h : ∀ q, SCalls Try.prog 8 [nums .u8 b] [] q (fltS c a) []) (id q : Nat) : SCalls Try.prog 8 [.own id b.length] [(id, .row 5 1 (b.map fun x => [.int .u8 x]))] q (fltS c a) [(id, .row 5 1 (b.map fun x => [.int .u8 x]))] :=
 qagq (h q) ⟨qake (e := 5) (by simp [geth]) PureR.pure (by simp), trivial⟩ (qays c a)
set_option maxHeartbeats 8000000 in
theorem ctorn_s (p : PlanD) (at_ y : Int) (hk : qah3 p) (hy : R8 y) : SCalls Try.prog 4 [.agg (qadj p), .int .i64 at_, .int .u8 y] [] 0 (.bool true) [] := by
 refine qaau (N := 52) Try.func4 rfl rfl (by kernel_rfl) qak4 (by simp) (by repeat' (first | exact trivial | refine And.intro ?_ ?_ | rfl | decide | exact PureR.ren _)) (by repeat' (first | exact trivial | refine And.intro ?_ ?_ | rfl | decide | exact PureR.ren _)) ?_
 rintro X hP hN hm
 unfold c_ctorn
 have hg := fun q => gplan_s p q
 cases hG : qahv p <;> rw [hG] at hg
 ·have hs := qa2f hG
  by_cases h0 : y = 0
  ·subst h0
   simp only [qadj] at hg
   replace hg := Lib.hid hg
   replace hs := Lib.hid hs
   replace hk := Lib.hid hk
   clear hG hy
   repeat' (first | (with_reducible refine zA ?_) | ((with_reducible refine qaad ?_); (try rw [hP]); simp -implicitDefEqProofs [*]) | ((with_reducible refine qaaf ?_); (try simp -implicitDefEqProofs [*])) | ((with_reducible refine qaa4 ?_); (try simp only [qaa3, qaai, qaao])) | ((with_reducible refine qaab rfl (fun h => ?_) (fun h => ?_)) <;> have h' := h <;> (try simp at h') <;> (try subst h')) | ((first | refine qacl (qay1 _) ?_ | refine qacl (hg.out _) ?_); simp -implicitDefEqProofs [*]) | (with_reducible refine zN hm ?_) | fail)
   all_goals rfl
  ·have b1 : (y == 0) = false := by simpa using h0
   by_cases hf : (qagt p).1 = 0
   ·have c1 := fun q => enc_q p hk hs hf q
    have hd := fun i hi z hz hne => qa3r p hs (i := i) hi (y := z) hz hne
    have ha := qaxd p
    have hl : (encB p).length ≤ 100000000004 := by have := qahn hs; rw [qakm]; omega
    have hl3 : 7 ≤ (encB p).length := by have := qamn p; rw [qakm]; omega
    generalize encB p = E at c1 hd ha hl hl3
    have q1 : IntKind.u64.wrap (E.length : Int) = E.length := qa1b (by omega) (by omega)
    obtain ⟨i, hi⟩ : ∃ i : Nat, (i : Int) = (IntKind.u64.wrap at_).tmod (E.length : Int) := ⟨((IntKind.u64.wrap at_).tmod (E.length : Int)).toNat, by
     have h1 := (qary at_).1
     rw [Int.tmod_eq_emod_of_nonneg h1]
     have := Int.emod_nonneg (IntKind.u64.wrap at_) (b := (E.length : Int)) (by omega)
     omega⟩
    have hil : i < E.length := by
     have h1 := (qary at_).1
     rw [Int.tmod_eq_emod_of_nonneg h1] at hi
     have := Int.emod_lt_of_pos (IntKind.u64.wrap at_) (b := (E.length : Int)) (by omega)
     omega
    have q2 : IntKind.i64.wrap ((IntKind.u64.wrap at_).tmod (E.length : Int)) = (i : Int) := by rw [← hi]; exact IntWalk.i64_in _ ⟨by omega, by omega⟩
    obtain ⟨z1, z2⟩ := qa1z (ha _ (List.getElem_mem hil)) hy h0
    obtain ⟨c, a, hc, hdec⟩ := hd i hil _ z1 z2
    have c2 := fun id q => dec_own _ hdec id q
    have b2 : (c != 0) = true := by simpa using hc
    have b3 : (c == 0) = false := by simpa using hc
    have q3 : (E.length : Int) ≠ 0 := by omega
    have q4 : ¬ (E.length : Int) = 0 := by omega
    have q5 : ¬ E.length = 0 := by omega
    have q6 : (0 : Int) ≤ i ∧ (i : Int) < (E.length : Int) := ⟨by omega, by omega⟩
    simp only [qadj, fltS, nopl, List.length_set, List.map_set] at hg c1 c2
    replace hg := Lib.hid hg
    replace c1 := Lib.hid c1
    replace c2 := Lib.hid c2
    replace hs := Lib.hid hs
    replace hk := Lib.hid hk
    clear hG hy h0 hf hd ha hl hl3 hi z1 z2 hc hdec
    repeat' (first | (with_reducible refine zA ?_) | ((with_reducible refine qaad ?_); (try rw [hP]); simp -implicitDefEqProofs [*]) | ((with_reducible refine qaaf ?_); (try simp -implicitDefEqProofs [*])) | ((with_reducible refine qaa4 ?_); (try simp only [qaa3, qaai, qaao])) | ((with_reducible refine qaab rfl (fun h => ?_) (fun h => ?_)) <;> have h' := h <;> (try simp at h') <;> (try subst h')) | ((first | refine qacl (qay1 _) ?_ | refine qacl (hg.out _) ?_ | refine qaal (c1.out _) trivial ⟨rfl, trivial⟩ ?_ | refine qaal (c2.out _ _) ⟨rfl, trivial⟩ ⟨rfl, trivial⟩ ?_); simp -implicitDefEqProofs [*]) | (with_reducible refine zN hm ?_) | fail)
    all_goals rfl
   ·have c1 := fun q => enc_bad p hk hs hf q
    have b2 : ((qagt p).1 != 0) = true := by simpa using hf
    generalize qagt p = f at c1 b2
    simp only [qadj] at hg c1
    replace hg := Lib.hid hg
    replace c1 := Lib.hid c1
    replace hs := Lib.hid hs
    replace hk := Lib.hid hk
    clear hG hy h0 hf
    repeat' (first | (with_reducible refine zA ?_) | ((with_reducible refine qaad ?_); (try rw [hP]); simp -implicitDefEqProofs [*]) | ((with_reducible refine qaaf ?_); (try simp -implicitDefEqProofs [*])) | ((with_reducible refine qaa4 ?_); (try simp only [qaa3, qaai, qaao])) | ((with_reducible refine qaab rfl (fun h => ?_) (fun h => ?_)) <;> have h' := h <;> (try simp at h') <;> (try subst h')) | ((first | refine qacl (qay1 _) ?_ | refine qacl (hg.out _) ?_ | refine qacl (c1.out _) ?_); simp -implicitDefEqProofs [*]) | (with_reducible refine zN hm ?_) | fail)
    all_goals rfl
 ·simp only [qadj] at hg
  replace hg := Lib.hid hg
  replace hk := Lib.hid hk
  clear hG hy
  repeat' (first | (with_reducible refine zA ?_) | ((with_reducible refine qaad ?_); (try rw [hP]); simp -implicitDefEqProofs [*]) | ((with_reducible refine qaaf ?_); (try simp -implicitDefEqProofs [*])) | ((with_reducible refine qaa4 ?_); (try simp only [qaa3, qaai, qaao])) | ((with_reducible refine qaab rfl (fun h => ?_) (fun h => ?_)) <;> have h' := h <;> (try simp at h') <;> (try subst h')) | ((first | refine qacl (qay1 _) ?_ | refine qacl (hg.out _) ?_); simp -implicitDefEqProofs [*]) | (with_reducible refine zN hm ?_) | fail)
  all_goals rfl
theorem R8.of {x : Int} (h : (Lit.int .u8 x).wf = true) : R8 x := by
 simp [Lit.wf, IntKind.min, IntKind.max, IntKind.signed, IntKind.bits] at h
 exact ⟨by omega, by omega⟩
theorem CodecTorn_law (p : PlanD) (cs : Array Value) (at_ y : Int) (w : World) (h : planLay.rep NoA w p cs.toList) (_ : (Lit.int .i64 at_).wf = true) (hy : (Lit.int .u8 y).wf = true) :
  Calls Try.prog 4 #[.agg cs, .int .i64 at_, .int .u8 y] w fun e w' => e = .returned (.bool true) ∧ Below w.heap.size w w' :=
 law_of (vs := [.agg cs, .int .i64 at_, .int .u8 y]) (ctorn_s p at_ y (qayk NoA w p cs.toList h) (R8.of hy)) (Reps.cons (rep_lay qayg h) (Reps.cons .int (Reps.cons .int Reps.nil)))
end Go.Proofs.Ytbefmmajjfijnaa
