/-
  Texts joined: XShP XShQ XCtab XTabA. No condition.
-/
import Derived.IntWalk
import Derived.Test.YtfakdapglbgokaaProg
import Derived.Test.YtfakdapglbgokaaI15
import Derived.Test.YtfakdapglbgokaaI14
import Derived.Test.YtfakdapglbgokaaI6
/-
  The plain machine: a region that draws its order, the rule. No condition.
-/
namespace Go.Proofs.Ytfakdapglbgokaa
set_option linter.all false
open Go.RowKit
variable {X : Cx}

theorem filter_less {p q : Nat → Bool} : ∀ (l : List Nat) (i : Nat), i ∈ l → p i = true → q i = false → (∀ k, q k = true → p k = true) → (l.filter q).length < (l.filter p).length
  | [], i, h, _, _, _ => by cases h
  | x :: l, i, h, hp, hq, hpq => by
    have mono : ∀ l : List Nat, (l.filter q).length ≤ (l.filter p).length := fun l => by
      induction l with
      | nil => exact Nat.le_refl _
      | cons y l ih =>
        simp only [List.filter_cons]
        cases hy : q y with
        | true => rw [hpq y hy]; simp; exact ih
        | false => cases hy' : p y <;> simp <;> omega
    simp only [List.filter_cons]
    by_cases e : x = i
    · subst e
      rw [hp, hq]
      have := mono l
      simp; omega
    · have := filter_less l i ((List.mem_cons.1 h).resolve_left (Ne.symm e)) hp hq hpq
      cases hy : q x with
      | true => rw [hpq x hy]; simp; exact this
      | false => cases hy' : p x <;> simp <;> omega
theorem Sim.congr {ρ : Plan_} {fp : Nat → Nat → Prop} {s t : SSt} {a : Act} {w : World} (h : Sim X ρ fp s a w) (h1 : ∀ y, gets t.sl y = gets s.sl y) (h2 : ∀ id, geth t.hp id = geth s.hp id) : Sim X ρ fp t a w := by
  have hL : Live t.hp fp = Live s.hp fp := by funext k; unfold Live; simp only [h2]
  have hA : Av X t.hp fp = Av X s.hp fp := by funext k; unfold Av; rw [hL]
  refine ⟨⟨fun id o ho => ?_, fun id id' o o' hne ho ho' => ?_, fun id o ho => ?_, h.h.step, h.h.keep⟩, h.tmps, h.defers, fun y => ?_⟩
  · rw [hA]; exact h.h.objs id o (by rw [← h2]; exact ho)
  · exact h.h.disj id id' o o' hne (by rw [← h2]; exact ho) (by rw [← h2]; exact ho')
  · exact h.h.turn id o (by rw [← h2]; exact ho)
  · rw [hA, h1]; exact h.slots y
theorem SimH.drew {ρ : Plan_} {fp : Nat → Nat → Prop} {hp : Hp} {w : World} (h : SimH X ρ fp hp w) : SimH X ρ fp hp { w with drawn := w.drawn + 1 } ∧ Pres w (Av X hp fp) ρ { w with drawn := w.drawn + 1 } (Av X hp fp) ρ := by
  have hst : Step (fun _ => False) w { w with drawn := w.drawn + 1 } := ⟨rfl, rfl, rfl, Nat.le_refl _, fun _ _ _ => rfl⟩
  exact h.change (hp' := hp) (fun _ => False) (fun _ => False) hst (fun _ h => h.elim) (fun id o ho _ => ⟨ho, fun h => h, rfl⟩) (fun _ _ h => h) (fun _ _ => rfl) (fun _ _ h => h.elim) (fun _ _ _ _ h => h.elim) (fun _ _ _ h => h.elim)
theorem clash_of {a b : Ent} (ha : a.e.dst = a.so.dst) (ha2 : a.e.wr = a.x.wr) (hb : b.e.dst = b.so.dst) (hb2 : b.e.wr = b.x.wr) {r : Rs} (h : (a.W r ∧ b.L r) ∨ (a.L r ∧ b.W r)) : clash (a.so, a.x) (b.so, b.x) = true := by
  unfold clash
  simp only [Bool.or_eq_true]
  cases r with
  | sl y =>
    simp only [Ent.W, Ent.L] at h
    rw [ha, hb] at h
    rcases h with ⟨h1, h2 | h2⟩ | ⟨h2 | h2, h1⟩
    · exact .inl (.inl (.inl (by rw [h1]; simp [h2])))
    · exact .inl (.inl (.inl (by rw [h1]; simp [h2])))
    · exact .inl (.inl (.inr (by rw [h1]; simp [h2])))
    · exact .inl (.inl (.inl (by rw [h2]; simp [h1])))
  | ob id =>
    simp only [Ent.W, Ent.L] at h
    rw [ha2, hb2] at h
    rcases h with ⟨h1, h2 | h2⟩ | ⟨h2 | h2, h1⟩
    · exact .inl (.inr (List.any_eq_true.2 ⟨id, h1, by simp [h2]⟩))
    · exact .inl (.inr (List.any_eq_true.2 ⟨id, h1, by simp [h2]⟩))
    · exact .inr (List.any_eq_true.2 ⟨id, h1, by simp [h2]⟩)
    · exact .inl (.inr (List.any_eq_true.2 ⟨id, h2, by simp [h1]⟩))
theorem map_get {α β : Type} {f : α → β} {es : List α} {l : List β} (h : es.map f = l) {j : Nat} {t : α} (ht : es[j]? = some t) : l[j]? = some (f t) := by rw [← h]; simp [ht]
theorem copers_bef {P : Program} {N : Nat} {ops : Array Oper} : ∀ (l : List Oper) (bs : List Nat) (sos : List SOper), copers P N ops l bs = some sos → ∀ (j : Nat) so, sos[j]? = some so → so.bef = (bs.drop j).headD 0
  | [], bs, sos, h, j, so, hj => by simp only [copers, Option.some.injEq] at h; subst h; simp at hj
  | o :: l, bs, sos, h, j, so, hj => by
    obtain ⟨so0, r, rfl, h1, h2⟩ := copers_cons h
    cases j with
    | zero => simp at hj; subst hj; rw [List.drop_zero]; exact (coper_inv h1).2.2.2.1
    | succ j =>
      have := copers_bef l bs.tail r h2 j so (by simpa using hj)
      rw [this]; cases bs <;> simp
theorem sdraw_ok {ops : Array Oper} (hed : edgesOk ops = true) {sos : List SOper} (hc : copers X.P X.N ops ops.toList (Region.before ops).toList = some sos) {Q : SSt → Prop} {R : Exit → Act → World → Prop} (hQ : ∀ s ρ fp a w, Q s → SimF X ρ fp s a w → R .normal a w)
    {s : SSt} {ρ : Plan_} {fp : Nat → Nat → Prop} {a : Act} {w : World} (hk : SOps X.P sos s [] fun s' tr => okDraw (sos.zip tr.reverse) = true ∧ Q s') (h : SimF X ρ fp s a w) : wpAny X.P .any ops R ops.size (Array.replicate ops.size false) a { w with drawn := w.drawn + 1 } := by
  obtain ⟨es, sN, hch, hok, ho, hso, hok2, hq⟩ := sops_trace _ _ _ hc s [] h.le hk
  simp only [List.append_nil, List.reverse_reverse] at hok2
  have hlen : es.length = ops.size := by have := congrArg List.length ho; simpa using this
  have hzip : sos.zip (es.map (·.x)) = es.map fun t => (t.so, t.x) := by
    rw [← hso]
    clear hok2 ho hso hch hok hlen hq hc hk
    induction es with
    | nil => rfl
    | cons t es ih => simp [ih]
  rw [hzip] at hok2
  let B : Nat → Nat → Prop := fun j i => ((Region.before ops).getD j 0).testBit i = true
  have hbef : ∀ (j : Nat) t, es[j]? = some t → t.so.bef = (Region.before ops).getD j 0 := fun j t ht => by
    rw [copers_bef _ _ _ hc j t.so (map_get hso ht)]
    rw [List.headD_eq_head?_getD, List.head?_drop, Array.getD_eq_getD_getElem?]; simp
  have hord : Ord es B := ⟨fun i j x y r hij hx hy hcl => by
    have ox := hok x (List.mem_of_getElem? hx)
    have oy := hok y (List.mem_of_getElem? hy)
    have := okDraw_spec hok2 hij (map_get rfl hx) (map_get rfl hy) (clash_of ox.2.1 ox.2.2.1 oy.2.1 oy.2.2.1 hcl)
    show ((Region.before ops).getD j 0).testBit i = true
    rw [← hbef j y hy]; exact this⟩
  have hinv0 : Inv es s (fun _ => False) s := ⟨fun y => ⟨none, fun _ h => h.elim, rfl⟩, fun id => ⟨none, fun _ h => h.elim, rfl⟩⟩
  have hinv00 : Inv ([] ++ es) s (· < ([] : List Ent).length) s := by
    have e : (fun k => k < ([] : List Ent).length) = fun _ => False := by funext k; simp
    rw [e]; exact hinv0
  obtain ⟨hst, hfin⟩ := hch.inv hok [] s hinv00
  simp only [List.nil_append, List.length_nil, Nat.zero_add] at hst hfin
  -- the names that each operation may take
  have hnx : ∀ (j : Nat) t, es[j]? = some t → s.nx ≤ t.s.nx ∧ t.s'.nx ≤ sN.nx := by
    have gen : ∀ (es : List Ent) (s sN : SSt), Chain s es sN → (∀ t ∈ es, EntOk X ops t) → s.nx ≤ sN.nx ∧ ∀ (j : Nat) t, es[j]? = some t → s.nx ≤ t.s.nx ∧ t.s'.nx ≤ sN.nx := by
      intro es
      induction es with
      | nil => intro s sN hc _; obtain rfl : s = sN := hc; exact ⟨Nat.le_refl _, fun j t ht => by simp at ht⟩
      | cons u es ih =>
        intro s sN hc ho
        obtain ⟨rfl, hc⟩ := hc
        have hu := (ho u (by simp)).1
        obtain ⟨h1, h2⟩ := ih _ _ hc fun t ht => ho t (by simp [ht])
        refine ⟨by omega, fun j t ht => ?_⟩
        cases j with
        | zero => simp at ht; subst ht; exact ⟨Nat.le_refl _, h1⟩
        | succ j => have := h2 j t (by simpa using ht); omega
    exact (gen es s sN hch hok).2
  have hle : s.nx ≤ sN.nx := by
    have gen : ∀ (es : List Ent) (s sN : SSt), Chain s es sN → (∀ t ∈ es, EntOk X ops t) → s.nx ≤ sN.nx := by
      intro es
      induction es with
      | nil => intro s sN hc _; obtain rfl : s = sN := hc; exact Nat.le_refl _
      | cons u es ih =>
        intro s sN hc ho
        obtain ⟨rfl, hc⟩ := hc
        have hu := (ho u (by simp)).1
        have := ih _ _ hc fun t ht => ho t (by simp [ht])
        omega
    exact gen es s sN hch hok
  have hapart : ∀ (i j : Nat) t u, es[i]? = some t → es[j]? = some u → i < j → t.s'.nx ≤ u.s.nx := by
    have gen : ∀ (es : List Ent) (s sN : SSt), Chain s es sN → (∀ t ∈ es, EntOk X ops t) → (∀ (j : Nat) u, es[j]? = some u → s.nx ≤ u.s.nx) ∧ ∀ (i j : Nat) t u, es[i]? = some t → es[j]? = some u → i < j → t.s'.nx ≤ u.s.nx := by
      intro es
      induction es with
      | nil => intro s sN hc _; exact ⟨fun j t ht => by simp at ht, fun i j t u ht => by simp at ht⟩
      | cons v es ih =>
        intro s sN hc ho
        obtain ⟨rfl, hc⟩ := hc
        have hv := (ho v (by simp)).1
        obtain ⟨h1, h2⟩ := ih _ _ hc fun t ht => ho t (by simp [ht])
        refine ⟨fun j u hu => ?_, fun i j t u ht hu hij => ?_⟩
        · cases j with
          | zero => simp at hu; subst hu; exact Nat.le_refl _
          | succ j => have := h1 j u (by simpa using hu); omega
        · cases j with
          | zero => omega
          | succ j =>
            cases i with
            | zero => simp at ht; subst ht; exact h1 j u (by simpa using hu)
            | succ i => exact h2 i j t u (by simpa using ht) (by simpa using hu) (by omega)
    exact (gen es s sN hch hok).2
  have main : ∀ (fuel : Nat) (listed : Array Bool) (t : SSt) (ρ : Plan_) (fp : Nat → Nat → Prop) (a : Act) (w : World), listed.size = ops.size → ((List.range ops.size).filter fun i => !listed.getD i true).length ≤ fuel →
      (∀ j i, listed.getD j false = true → B j i → listed.getD i false = true) → Inv es s (fun i => listed.getD i false = true) t → Sim X ρ fp t a w → (∀ id, ρ id ≠ none → id < s.nx ∨ ∃ (i : Nat) (u : Ent), listed.getD i false = true ∧ es[i]? = some u ∧ u.s.nx ≤ id ∧ id < u.s'.nx) →
      wpAny X.P .any ops R fuel listed a w := by
    intro fuel
    induction fuel with
    | zero =>
      intro listed t ρ fp a w hsz hcnt hcl hinv hsim hρ
      have hall : ∀ i, i < ops.size → listed.getD i true = true := fun i hi => by
        cases e : listed.getD i true with
        | true => rfl
        | false =>
          have : i ∈ (List.range ops.size).filter fun i => !listed.getD i true := List.mem_filter.2 ⟨List.mem_range.2 hi, by simp [e]⟩
          have h0 := List.length_pos_of_mem this
          omega
      refine ⟨?_, ?_⟩
      · cases hr : Region.ready .any ops listed with
        | nil => rfl
        | cons i r =>
          have hi : i ∈ Region.ready .any ops listed := by rw [hr]; simp
          obtain ⟨h1, o, h2, _⟩ := mem_ready.1 hi
          have := hall i (Array.getElem?_eq_some_iff.1 h2).1
          rw [h1] at this; cases this
      · exact (by
          have hS : (fun i => listed.getD i false = true) = fun i => i < es.length := by
            funext i
            apply propext
            constructor
            · intro hi
              rw [hlen, ← hsz]
              rcases Nat.lt_or_ge i listed.size with h | h
              · exact h
              · simp [Array.getElem?_eq_none h] at hi
            · intro hi
              have h1 := hall i (by omega)
              have h2 : i < listed.size := by omega
              simp [h2] at h1 ⊢; exact h1
          rw [hS] at hinv
          have hsimN : Sim X ρ fp sN a w := hsim.congr (fun y => by
            obtain ⟨o, q1, q2⟩ := hinv.1 y
            obtain ⟨o', q3, q4⟩ := hfin.1 y
            rw [q1.uniq q3] at q2
            rw [q2, q4]) (fun id => by
            obtain ⟨o, q1, q2⟩ := hinv.2 id
            obtain ⟨o', q3, q4⟩ := hfin.2 id
            rw [q1.uniq q3] at q2
            rw [q2, q4])
          exact hQ sN ρ fp a w hq ⟨hsimN, fun id hid => by
            cases e : ρ id with
            | none => rfl
            | some p =>
              rcases hρ id (by rw [e]; simp) with h5 | ⟨i, u, _, h6, h7, h8⟩
              · omega
              · have := (hnx i u h6).2; omega, Nat.le_trans h.le hle⟩)
    | succ fuel ih =>
      intro listed t ρ fp a w hsz hcnt hcl hinv hsim hρ
      refine ⟨fun hr => ?_, fun j hj => ?_⟩
      · -- nothing is ready: all has been done
        have hall : ∀ i, i < ops.size → listed.getD i true = true := fun i => by
          induction i using Nat.strongRecOn with
          | ind i ihi =>
            intro hi
            cases e : listed.getD i true with
            | true => rfl
            | false =>
              have : i ∈ Region.ready .any ops listed := mem_ready.2 ⟨e, ops[i], Array.getElem?_eq_getElem hi, fun ed hed1 hed2 => by
                have hlt := edgesL_spec hed i ops[i] (by simp [hi]) ed (by simpa using hed1) hed2
                have h1 := ihi ed.on (by omega) (by omega)
                have h2 : ed.on < listed.size := by omega
                simp [h2] at h1 ⊢; exact h1⟩
              rw [hr] at this; cases this
        have hz : ((List.range ops.size).filter fun i => !listed.getD i true).length ≤ 0 := by
          rw [List.filter_eq_nil_iff.2 fun i hi => by rw [hall i (List.mem_range.1 hi)]; simp]; simp
        -- as with no fuel
        have hS : (fun i => listed.getD i false = true) = fun i => i < es.length := by
          funext i
          apply propext
          constructor
          · intro hi
            rw [hlen, ← hsz]
            rcases Nat.lt_or_ge i listed.size with h | h
            · exact h
            · simp [Array.getElem?_eq_none h] at hi
          · intro hi
            have h1 := hall i (by omega)
            have h2 : i < listed.size := by omega
            simp [h2] at h1 ⊢; exact h1
        rw [hS] at hinv
        have hsimN : Sim X ρ fp sN a w := hsim.congr (fun y => by
          obtain ⟨o, q1, q2⟩ := hinv.1 y
          obtain ⟨o', q3, q4⟩ := hfin.1 y
          rw [q1.uniq q3] at q2
          rw [q2, q4]) (fun id => by
          obtain ⟨o, q1, q2⟩ := hinv.2 id
          obtain ⟨o', q3, q4⟩ := hfin.2 id
          rw [q1.uniq q3] at q2
          rw [q2, q4])
        exact hQ sN ρ fp a w hq ⟨hsimN, fun id hid => by
          cases e : ρ id with
          | none => rfl
          | some p =>
            rcases hρ id (by rw [e]; simp) with h5 | ⟨i, u, _, h6, h7, h8⟩
            · omega
            · have := (hnx i u h6).2; omega, Nat.le_trans h.le hle⟩
      · obtain ⟨hun, o, hoj, hdep⟩ := mem_ready.1 hj
        have hjlt : j < ops.size := (Array.getElem?_eq_some_iff.1 hoj).1
        have hnj : ¬ (listed.getD j false = true) := by
          have h2 : j < listed.size := by omega
          simp [h2] at hun ⊢; rw [hun]
        obtain ⟨u, hu⟩ : ∃ u, es[j]? = some u := ⟨_, List.getElem?_eq_getElem (by omega)⟩
        have huo : u.o = o := by
          have := map_get ho hu
          rw [Array.getElem?_toList, hoj] at this
          exact (Option.some.inj this).symm
        obtain ⟨hmono, hd, hwr, hat, hloc⟩ := hok u (List.mem_of_getElem? hu)
        have hdeps : ∀ i, B j i → listed.getD i false = true := fun i hi => by
          obtain ⟨ed, q1, q2, q3⟩ := (before_spec ops).2 j o hoj i hi
          have h5 := hdep ed (by simpa using q1) q2
          rcases q3 with q3 | q3
          · rw [← q3]; exact h5
          · exact hcl _ _ h5 q3
        have hcan := hst j u hu
        unfold wpOp
        rw [hoj]
        simp only
        have hL := hloc t ρ fp a w hsim (fun y hy => by
            obtain ⟨o1, q1, q2⟩ := hinv.1 y
            obtain ⟨o2, q3, q4⟩ := hcan.1 y
            rw [q1.agree hord (fun j i => hcl j i) hu hnj hdeps (show u.L (.sl y) from Or.inl hy) q3] at q2
            rw [q2, q4]) (fun id hid => by
            obtain ⟨o1, q1, q2⟩ := hinv.2 id
            obtain ⟨o2, q3, q4⟩ := hcan.2 id
            rw [q1.agree hord (fun j i => hcl j i) hu hnj hdeps (show u.L (.ob id) from hid) q3] at q2
            rw [q2, q4]) (fun id h5 h6 => by
            cases e : ρ id with
            | none => rfl
            | some p =>
              rcases hρ id (by rw [e]; simp) with h7 | ⟨i, v, h7, h8, h9, h10⟩
              · have := (hnx j u hu).1; omega
              · rcases Nat.lt_trichotomy i j with hij | hij | hij
                · have := hapart i j v u h8 hu hij; omega
                · subst hij; exact absurd h7 hnj
                · have := hapart j i u v hu h8 hij; omega) (wpAny X.P .any ops R fuel (listed.setIfInBounds j true)) R (fun t' ρ' fp' a' w' hat' hsim' hρ' => by
            have hS : (fun i => (listed.setIfInBounds j true).getD i false = true) = fun i => listed.getD i false = true ∨ i = j := by
              funext i
              apply propext
              by_cases e : i = j
              · subst e
                have h2 : i < listed.size := by omega
                simp [h2]
              · rw [getD_set_ne false (Ne.symm e)]; simp [e]
            refine ih (listed.setIfInBounds j true) t' ρ' fp' a' w' (by simp [hsz]) ?_ (fun k i hk hki => ?_) ?_ hsim' (fun id hid => ?_)
            · have := filter_less (p := fun i => !listed.getD i true) (q := fun i => !(listed.setIfInBounds j true).getD i true) (List.range ops.size) j (List.mem_range.2 hjlt) (by simp only [hun]; rfl) (by
                have h2 : j < listed.size := by omega
                simp [h2]) (fun k hk => by
                by_cases e : j = k
                · subst e
                  have h2 : j < listed.size := by omega
                  simp [h2] at hk
                · rw [getD_set_ne true e] at hk; exact hk)
              omega
            · have hk' : listed.getD k false = true ∨ k = j := by have := congrFun hS k; rw [← this]; exact hk
              have hgoal : listed.getD i false = true := by
                rcases hk' with hk' | hk'
                · exact hcl k i hk' hki
                · subst hk'; exact hdeps i hki
              have := congrFun hS i
              rw [this]; exact .inl hgoal
            · rw [hS]
              refine ⟨fun y => ?_, fun id => ?_⟩
              · obtain ⟨o1, q1, q2⟩ := hinv.1 y
                obtain ⟨r1, r2⟩ := q1.add hord (fun j i => hcl j i) hu hnj
                rw [hat'.1 y]
                by_cases hw : u.e.dst = some y
                · exact ⟨some j, r1 hw, by rw [if_pos hw]; simp only [hu]; rfl⟩
                · exact ⟨o1, r2 hw, by rw [if_neg hw]; exact q2⟩
              · obtain ⟨o1, q1, q2⟩ := hinv.2 id
                obtain ⟨r1, r2⟩ := q1.add hord (fun j i => hcl j i) hu hnj
                rw [hat'.2 id]
                by_cases hw : id ∈ u.e.wr
                · exact ⟨some j, r1 hw, by rw [if_pos hw]; simp only [hu]; rfl⟩
                · exact ⟨o1, r2 hw, by rw [if_neg hw]; exact q2⟩
            · rcases hρ' id hid with h5 | h5
              · rcases hρ id h5 with h6 | ⟨i, v, h7, h8, h9, h10⟩
                · exact .inl h6
                · exact .inr ⟨i, v, by have := congrFun hS i; rw [this]; exact .inl h7, h8, h9, h10⟩
              · exact .inr ⟨j, u, by have := congrFun hS j; rw [this]; exact .inr rfl, hu, h5.1, h5.2⟩)
        rw [huo] at hL
        split
        · rename_i hwd
          rw [if_pos hwd] at hL
          exact .inl hL
        · rename_i hwd
          rw [if_neg hwd] at hL
          exact hL
  obtain ⟨hd1, hd2⟩ := h.sim.h.drew
  refine main ops.size (Array.replicate ops.size false) s ρ fp a _ (by simp) (by have := List.length_filter_le (fun i => !(Array.replicate ops.size false).getD i true) (List.range ops.size); simpa using this) (fun j i hj => ?_) ?_ ⟨hd1, h.sim.tmps, h.sim.defers, fun t => hd2.rep (h.sim.slots t)⟩ (fun id hid => .inl (Nat.lt_of_not_le fun hge => hid (h.fresh id hge)))
  · exfalso
    by_cases hlt : j < ops.size <;> simp [hlt] at hj
  · have e : (fun i => (Array.replicate ops.size false).getD i false = true) = fun _ => False := by
      funext i
      by_cases hlt : i < ops.size <;> simp [hlt]
    rw [e]; exact hinv0
/-- A region that draws its order. -/
theorem swp_regd {s : SSt} {Q : SExit → SSt → Prop} {ops : List SOper} {live : List Nat} (hm : X.P.follows .mixedOrders = true) (h : SOps X.P ops s [] fun s' tr => okDraw (ops.zip tr.reverse) = true ∧ Q .normal (s'.keep live)) : SWp X (.reg true ops live) Q s := fun code hc ρ fp a w hs => by
  by_cases hreg : ∃ id o d, code = .region id o d
  · obtain ⟨id, o, d, rfl⟩ := hreg
    obtain ⟨l, e, h1, h2⟩ := comp_region hc
    simp only [SCode.erase, SCode.reg.injEq, and_true] at e
    obtain ⟨rfl, rfl⟩ := e
    refine wp_region_any hm ?_
    refine sdraw_ok (h2.resolve_left (by simp)) (by simpa using h1) (Q := fun s' => Q .normal (s'.keep live)) ?_ h hs
    intro s' ρ' fp' a' w' hq h'
    obtain ⟨ρ2, fp2, h2⟩ := wk_keep live ρ' fp' a' w' h'
    exact ⟨_, ρ2, fp2, hq, h2⟩
  · cases code <;> (try simp only [comp, SCode.erase, Option.bind_eq_bind, Option.bind_eq_some_iff, Option.some.injEq, reduceCtorEq, and_false, exists_false, exists_const] at hc)
    case region => exact absurd ⟨_, _, _, rfl⟩ hreg
end Go.Proofs.Ytfakdapglbgokaa

/-
  The plain machine: its rules for simp. No condition.
-/
namespace Go.Proofs.Ytfakdapglbgokaa
set_option linter.all false
open Go.RowKit
variable {X : Cx} {s : SSt} {Q : SExit → SSt → Prop} {y : SCode}
theorem qseq_n : QSeq X y Q .normal s = SWp X y Q s := rfl
theorem qseq_e {i : Nat} : QSeq X y Q (.exit i) s = Q (.exit i) s := rfl
theorem qseq_r : QSeq X y Q .ret s = Q .ret s := rfl
theorem qblock_n {id : Nat} : QBlock id Q .normal s = Q .normal s := rfl
theorem qblock_r {id : Nat} : QBlock id Q .ret s = Q .ret s := rfl
theorem qblock_e {id i : Nat} : QBlock id Q (.exit i) s = if i = id then Q .normal s else Q (.exit i) s := rfl
theorem qloop_n {I : SSt → Nat → Prop} {n : Nat} : QLoop X I n Q .normal s = ∃ s' m, Wk X s s' ∧ I s' m ∧ m < n := rfl
theorem qloop_e {I : SSt → Nat → Prop} {n i : Nat} : QLoop X I n Q (.exit i) s = Q (.exit i) s := rfl
theorem qloop_r {I : SSt → Nat → Prop} {n : Nat} : QLoop X I n Q .ret s = Q .ret s := rfl
theorem qfun_n {rs : List ResultVar} {m : Nat} {r : SV} {h2 : Hp} : QFun X rs m r h2 .normal s = ∃ s', Wk X s s' ∧ resOf X.P s' rs = some r ∧ SubH s'.hp h2 ∧ s'.nx ≤ m + 8 := rfl
theorem qfun_r {rs : List ResultVar} {m : Nat} {r : SV} {h2 : Hp} : QFun X rs m r h2 .ret s = ∃ s', Wk X s s' ∧ resOf X.P s' rs = some r ∧ SubH s'.hp h2 ∧ s'.nx ≤ m + 8 := rfl
theorem i64_add_ {a b : Int} (h1 : -9223372036854775808 ≤ a + b) (h2 : a + b ≤ 9223372036854775807) : IntKind.i64.wrap (a + b) = a + b := IntWalk.i64_in _ ⟨h1, h2⟩
theorem co_self (x : SV) : Co x x ↔ True := ⟨fun _ => trivial, fun _ => Co.refl x⟩
theorem co_int {k : IntKind} {a b : Int} (h : a = b) : Co (.int k a) (.int k b) := by rw [h]; exact Co.refl _
theorem co_own {i n m : Nat} (h : n = m) : Co (.own i n) (.own i m) := by rw [h]; exact Co.refl _
theorem co_view {z : Nat} {xs ys : List (List SV)} (h : xs = ys) : Co (.view z xs) (.view z ys) := by rw [h]; exact Co.refl _
theorem co_nilsl (z : Nat) : Co .nilsl (.view z []) ↔ True := ⟨fun _ => trivial, fun _ => Co.nilsl z⟩
theorem co_agg {xs ys : List SV} (h : CoL xs ys) : Co (.agg xs) (.agg ys) := Co.agg h
theorem co_tup {xs ys : List SV} (h : CoL xs ys) : Co (.tup xs) (.tup ys) := Co.tup h
theorem coll_self (xs : List (List SV)) : CoLL xs xs ↔ True := ⟨fun _ => trivial, fun _ => CoLL.refl xs⟩
theorem swp_if {c : SX} {x z : SCode} {b : Bool} (hb : c.ev s.sl = .bool b) (h : if b = true then SWp X x Q s else SWp X z Q s) : SWp X (.cond c x z) Q s :=
  swp_cond hb (fun e => by rw [if_pos e] at h; exact h) (fun e => by rw [e] at h; exact h)
theorem u64_in_ {n : Int} (h : 0 ≤ n) (h2 : n < 18446744073709551616) : IntKind.u64.wrap n = n := by
  simp [IntKind.wrap, IntKind.bits, IntKind.signed]; omega
theorem qloop_next {I : SSt → Nat → Prop} {n m : Nat} {s' : SSt} (hw : Wk X s s') (hi : I s' m) (hn : m < n) : QLoop X I n Q .normal s := ⟨s', m, hw, hi, hn⟩
theorem qfun_done {rs : List ResultVar} {m : Nat} {r : SV} {h2 : Hp} {s' : SSt} (hw : Wk X s s') (hr : resOf X.P s' rs = some r) (hh : SubH s'.hp h2) (hn : s'.nx ≤ m + 8) : QFun X rs m r h2 .ret s := ⟨s', hw, hr, hh, hn⟩
theorem qfun_end {rs : List ResultVar} {m : Nat} {r : SV} {h2 : Hp} {s' : SSt} (hw : Wk X s s') (hr : resOf X.P s' rs = some r) (hh : SubH s'.hp h2) (hn : s'.nx ≤ m + 8) : QFun X rs m r h2 .normal s := ⟨s', hw, hr, hh, hn⟩
theorem rg_true {α : Type} {h : Decidable True} (o : Option α) : @rg α True h o = o := rg_pos trivial o
variable {P : Program} {dst : Option Nat} {op : SOp} {b : Nat} {os : List SOper} {tr : List Tch} {R : SSt → List Tch → Prop}
theorem sops_nil : SOps P [] s tr R = R s tr := rfl
/-- Behind what an operation yields. -/
def SOpsK (P : Program) (r : Option (SV × Upd × Nat)) (dst : Option Nat) (t : List Nat) (os : List SOper) (s : SSt) (tr : List Tch) (R : SSt → List Tch → Prop) : Prop := match r with
  | some (v, u, _) => SOps P os ⟨putd s.sl dst v, upds s.hp u, s.nx + 1⟩ (⟨t, u.map (·.1)⟩ :: tr) R
  | none => False
theorem sops_run : SOps P (⟨dst, op, none, none, b⟩ :: os) s tr R = SOpsK P (op.run (·.ev s.sl) (geth s.hp) s.nx) dst (op.touch (·.ev s.sl)) os s tr R := rfl
theorem sopsk_some {v : SV} {u : Upd} {n : Nat} {t : List Nat} : SOpsK P (some (v, u, n)) dst t os s tr R = SOps P os ⟨putd s.sl dst v, upds s.hp u, s.nx + 1⟩ (⟨t, u.map (·.1)⟩ :: tr) R := rfl
/-- A call. -/
def SOpsC (P : Program) (f : SV) (args : List SV) (dst : Option Nat) (os : List SOper) (s : SSt) (tr : List Tch) (R : SSt → List Tch → Prop) : Prop := match f with
  | .fn (.func g) first cap => ∃ h1 r h2 rd, SCalls P g (first ++ args ++ cap) h1 s.nx r h2 ∧ SubH s.hp h1 ∧ Uniq h2 ∧ (∀ id ∈ rd, geth h2 id = geth h1 id) ∧
      SOps P os ⟨putd s.sl dst r, mergeH s.hp h1 h2, s.nx + 8⟩ (⟨rd, (idsH h1 ++ idsH h2).filter fun i => !rd.contains i⟩ :: tr) R
  | _ => False
theorem sops_call {f : SX} {args : List SX} : SOps P (⟨dst, op, some (f, args), none, b⟩ :: os) s tr R = SOpsC P (f.ev s.sl) (args.map (·.ev s.sl)) dst os s tr R := by
  simp only [SOps, SOp1, SOpsC]
  generalize f.ev s.sl = v
  cases v with
  | fn f' a c => cases f' <;> rfl
  | _ => rfl
theorem call_do {g : FuncId} {first cap args : List SV} {h1 h2 : Hp} {r : SV} (h : SCalls P g (first ++ args ++ cap) h1 s.nx r h2) (hs : SubH s.hp h1) (hu : Uniq h2) (rd : List Nat) (hr : ∀ id ∈ rd, geth h2 id = geth h1 id)
    (hn : SOps P os ⟨putd s.sl dst r, mergeH s.hp h1 h2, s.nx + 8⟩ (⟨rd, (idsH h1 ++ idsH h2).filter fun i => !rd.contains i⟩ :: tr) R) : SOpsC P (.fn (.func g) first cap) args dst os s tr R := ⟨h1, r, h2, rd, h, hs, hu, hr, hn⟩
/-- A call of a function without objects. -/
theorem call_q {g : FuncId} {args : List SV} {r : SV} (h : SCalls P g args [] s.nx r []) (hn : SOps P os ⟨putd s.sl dst r, s.hp, s.nx + 8⟩ (⟨[], []⟩ :: tr) R) : SOpsC P (.fn (.func g) [] []) args dst os s tr R :=
  ⟨[], r, [], [], by simpa using h, trivial, trivial, by simp, hn⟩
/-- A guarded operation. -/
def SOpsG (P : Program) (v : SV) (want : Bool) (o : SOper) (os : List SOper) (s : SSt) (tr : List Tch) (R : SSt → List Tch → Prop) : Prop := match v with
  | .bool b => (b = want → SOps P (⟨o.dst, o.op, o.cal, none, o.bef⟩ :: os) s tr R) ∧ (b ≠ want → SOps P os (s.skip o) (⟨[], []⟩ :: tr) R)
  | .tup [] => SOps P os (s.skip o) (⟨[], []⟩ :: tr) R
  | _ => False
theorem sops_guard {c : Option (SX × List SX)} {t : Nat} {want : Bool} : SOps P (⟨dst, op, c, some (t, want), b⟩ :: os) s tr R = SOpsG P (gets s.sl t) want ⟨dst, op, c, some (t, want), b⟩ os s tr R := by
  cases c with
  | none => simp only [SOps, SOpsG, SOp1]; rfl
  | some fa => simp only [SOps, SOpsG, SOp1]; rfl
theorem sopsg_yes {want : Bool} {c : Option (SX × List SX)} {g : Option (Nat × Bool)} : SOpsG P (.bool want) want ⟨dst, op, c, g, b⟩ os s tr R = SOps P (⟨dst, op, c, none, b⟩ :: os) s tr R := by simp [SOpsG]
theorem sopsg_no {want w' : Bool} {o : SOper} (h : (w' == want) = false) : SOpsG P (.bool w') want o os s tr R = SOps P os (s.skip o) (⟨[], []⟩ :: tr) R := by
  have : w' ≠ want := by simpa using h
  simp [SOpsG, this]
theorem sopsg_tf {o : SOper} : SOpsG P (.bool true) false o os s tr R = SOps P os (s.skip o) (⟨[], []⟩ :: tr) R := sopsg_no rfl
theorem sopsg_ft {o : SOper} : SOpsG P (.bool false) true o os s tr R = SOps P os (s.skip o) (⟨[], []⟩ :: tr) R := sopsg_no rfl
theorem sopsg_undef {want : Bool} {o : SOper} : SOpsG P (.tup []) want o os s tr R = SOps P os (s.skip o) (⟨[], []⟩ :: tr) R := rfl
def FrzOk (hp : Hp) : List Nat → Prop
  | [] => True
  | i :: D => (match geth hp i with | some o => PureO o | none => True) ∧ FrzOk hp D
theorem FrzOk.get {hp : Hp} : ∀ {D : List Nat}, FrzOk hp D → ∀ id o, D.contains id = true → geth hp id = some o → PureO o
  | [], _, id, o, h, _ => by simp at h
  | i :: D, h, id, o, hc, ho => by
    by_cases e : id = i
    · subst e; have := h.1; rw [ho] at this; exact this
    · refine FrzOk.get h.2 id o ?_ ho
      simpa [e] using hc
/-- Rows and cells that are no longer written to; then other names. -/
theorem wk_fz (D : List Nat) (E : List (Nat × Nat)) {s' : SSt} {m : Nat} (hm : X.m = m) (hD : (D.all fun i => decide (m ≤ i)) = true) (hf : FrzOk s.hp D) (hok : okNames m s'.nx E s'.hp = true) (hle : m ≤ s'.nx)
    (hsl : SlotsM (rn E s.nx) (frzS (geth s.hp) D s.sl) s'.sl) (hhp : ObjsM (rn E s.nx) (frzH (geth s.hp) D s.hp) s'.hp) : Wk X s s' :=
  (wk_frz D hf.get).trans (wk_list (s := s.frz D) E hm hok hle hsl hhp)
theorem pureV_int (k : IntKind) (n : Int) : PureV (.int k n) ↔ True := ⟨fun _ => trivial, fun _ => pure_int k n⟩
theorem pureV_bool (b : Bool) : PureV (.bool b) ↔ True := ⟨fun _ => trivial, fun _ => pure_bool b⟩
theorem pureV_str (b : ByteArray) : PureV (.str b) ↔ True := ⟨fun _ => trivial, fun _ => pure_str b⟩
theorem pureV_nil : PureV .nil ↔ True := ⟨fun _ => trivial, fun _ => pure_nil⟩
theorem pureV_nilsl : PureV .nilsl ↔ True := ⟨fun _ => trivial, fun _ => pure_nilsl⟩
theorem pureV_view (z : Nat) (es : List (List SV)) : PureV (.view z es) ↔ True := ⟨fun _ => trivial, fun _ => pure_view z es⟩
theorem pureV_cp (cs : List SV) : PureV (.cp cs) ↔ True := ⟨fun _ => trivial, fun _ => pure_cp cs⟩
theorem pureL_nil_ : PureL [] ↔ True := ⟨fun _ => trivial, fun _ => pureL_nil⟩
theorem pureL_cons_ (x : SV) (xs : List SV) : PureL (x :: xs) ↔ PureV x ∧ PureL xs := ⟨fun h => ⟨h x (by simp), fun y hy => h y (by simp [hy])⟩, fun h => pureL_cons h.1 h.2⟩
theorem pureO_row (e z : Nat) (es : List (List SV)) : PureO (.row e z es) ↔ ∀ x ∈ es, PureL x := Iff.rfl
theorem pureO_cells (t : TypeId) (cs : List SV) : PureO (.cells t cs) ↔ PureL cs := Iff.rfl
theorem take_map_len {α : Type} (f : α → List SV) (xs : List α) : (xs.map f).take xs.length = xs.map f := List.take_of_length_le (by simp)
end Go.Proofs.Ytfakdapglbgokaa

/-
  The plain machine's code of functions (printed by scode.py). No condition.
-/
namespace Go.Proofs.Ytfakdapglbgokaa
set_option linter.all false
open Go.RowKit
def c_snums_r1 : List SOper := [⟨(some 4), .mv (.c (.bool false)), none, none, 0⟩]
def c_snums_r2 : List SOper := [⟨(some 6), .mv (.t 0), none, none, 0⟩,
  ⟨(some 7), .len false (.t 6), none, none, 0⟩,
  ⟨(some 8), .mv (.t 1), none, none, 0⟩,
  ⟨(some 9), .len false (.t 8), none, none, 0⟩,
  ⟨(some 10), .bin .neq (.t 7) (.t 9), none, none, 0⟩]
def c_snums_r3 : List SOper := [⟨(some 4), .mv (.c (.bool false)), none, none, 0⟩]
def c_snums_r4 : List SOper := [⟨(some 5), .mv (.c (.int .i64 0)), none, none, 0⟩]
def c_snums_r5 : List SOper := [⟨(some 11), .mv (.t 5), none, none, 0⟩,
  ⟨(some 12), .mv (.t 0), none, none, 0⟩,
  ⟨(some 13), .len false (.t 12), none, none, 0⟩,
  ⟨(some 14), .bin .lss (.t 11) (.t 13), none, none, 0⟩]
def c_snums_r6 : List SOper := [⟨(some 17), .mv (.t 0), none, none, 0⟩,
  ⟨(some 18), .mv (.t 5), none, none, 0⟩,
  ⟨(some 19), .iaddr 1 (.t 17) (.t 18), none, none, 3⟩,
  ⟨(some 20), .load (.t 19), none, none, 7⟩,
  ⟨(some 21), .mv (.t 1), none, none, 0⟩,
  ⟨(some 22), .mv (.t 5), none, none, 0⟩,
  ⟨(some 23), .iaddr 1 (.t 21) (.t 22), none, none, 48⟩,
  ⟨(some 24), .load (.t 23), none, none, 112⟩,
  ⟨(some 25), .bin .neq (.t 20) (.t 24), none, none, 255⟩]
def c_snums_r7 : List SOper := [⟨(some 4), .mv (.c (.bool false)), none, none, 0⟩]
def c_snums_r8 : List SOper := [⟨(some 15), .mv (.t 5), none, none, 0⟩,
  ⟨(some 16), .bin .add (.t 15) (.c (.int .i64 1)), none, none, 0⟩,
  ⟨(some 5), .mv (.t 16), none, none, 0⟩]
def c_snums_l1 : SCode := (.seq (.seq (.reg false c_snums_r5 [0, 1, 5, 14]) (.cond (.t 14) .skip (.exit 0))) (.seq (.block 1 (.seq (.reg true c_snums_r6 [0, 1, 5, 25]) (.cond (.t 25) (.seq (.reg false c_snums_r7 [4]) .ret) .skip))) (.reg false c_snums_r8 [0, 1, 5])))
def c_snums_r9 : List SOper := [⟨(some 4), .mv (.c (.bool true)), none, none, 0⟩]
def c_snums : SCode := (.seq (.reg false c_snums_r1 [0, 1]) (.seq (.seq (.reg false c_snums_r2 [0, 1, 10]) (.cond (.t 10) (.seq (.reg false c_snums_r3 [4]) .ret) .skip)) (.seq (.seq (.reg false c_snums_r4 [0, 1, 5]) (.block 0 (.loop c_snums_l1))) (.seq (.reg false c_snums_r9 [4]) .ret))))
theorem comp_c_snums : comp Try.prog 26 ((Try.f61.body).getD .skip) = some c_snums.erase := by kernel_rfl
def c_own_r1 : List SOper := [⟨(some 1), .box 30 (.t 0), none, none, 0⟩,
  ⟨(some 2), .alloc 30 [.nilsl, .nilsl, (.int .i64 0), (.int .i64 0), (.int .i64 0), .nilsl], none, none, 0⟩]
def c_own_r2 : List SOper := [⟨(some 3), .mv (.c .nilsl), none, none, 0⟩,
  ⟨(some 4), .mv (.c .nilsl), none, none, 0⟩,
  ⟨(some 5), .mv (.c .nilsl), none, none, 0⟩]
def c_own_r3 : List SOper := [⟨(some 6), .mv (.t 3), none, none, 0⟩,
  ⟨(some 7), .faddr 0 (.t 1), none, none, 0⟩,
  ⟨(some 8), .load (.t 7), none, none, 2⟩,
  ⟨(some 9), .app 23 1 8 (.t 6) (.t 8), none, none, 7⟩,
  ⟨(some 10), .mv (.t 4), none, none, 0⟩,
  ⟨(some 11), .faddr 1 (.t 1), none, none, 0⟩,
  ⟨(some 12), .load (.t 11), none, none, 32⟩,
  ⟨(some 13), .app 23 1 8 (.t 10) (.t 12), none, none, 127⟩,
  ⟨(some 14), .faddr 2 (.t 1), none, none, 0⟩,
  ⟨(some 15), .load (.t 14), none, none, 256⟩,
  ⟨(some 16), .faddr 3 (.t 1), none, none, 0⟩,
  ⟨(some 17), .load (.t 16), none, none, 1024⟩,
  ⟨(some 18), .faddr 4 (.t 1), none, none, 0⟩,
  ⟨(some 19), .load (.t 18), none, none, 4096⟩,
  ⟨(some 20), .mv (.t 5), none, none, 0⟩,
  ⟨(some 21), .faddr 5 (.t 1), none, none, 0⟩,
  ⟨(some 22), .load (.t 21), none, none, 32768⟩,
  ⟨(some 23), .app 23 1 8 (.t 20) (.t 22), none, none, 114943⟩,
  ⟨(some 24), .build [.nilsl, .nilsl, (.int .i64 0), (.int .i64 0), (.int .i64 0), .nilsl] [(0, 1, (.t 9)), (1, 1, (.t 13)), (2, 1, (.t 15)), (3, 1, (.t 17)), (4, 1, (.t 19)), (5, 1, (.t 23))], none, none, 262143⟩,
  ⟨none, .store 6 (.t 2) (.t 24), none, none, 524287⟩]
def c_own : SCode := (.seq (.reg false c_own_r1 [1, 2]) (.seq (.reg false c_own_r2 [1, 2, 3, 4, 5]) (.seq (.reg true c_own_r3 [2]) .ret)))
theorem comp_c_own : comp Try.prog 25 ((Try.f96.body).getD .skip) = some c_own.erase := by kernel_rfl
def c_ownE_r1 : List SOper := [⟨(some 1), .box 30 (.t 0), none, none, 0⟩,
  ⟨(some 2), .alloc 30 [.nilsl, .nilsl, (.int .i64 0), (.int .i64 0), (.int .i64 0), .nilsl], none, none, 0⟩]
def c_ownE_r2 : List SOper := [⟨(some 3), .loads 6 (.t 1), none, none, 0⟩,
  ⟨(some 4), .mv (.c .any), some ((.c (.fn (.func 96) [] [])), [(.t 3)]), none, 0⟩,
  ⟨none, .store 6 (.t 2) (.t 4), none, none, 0⟩]
def c_ownE : SCode := (.seq (.reg false c_ownE_r1 [1, 2]) (.seq (.reg false c_ownE_r2 [2]) .ret))
theorem comp_c_ownE : comp Try.prog 5 ((Try.f76.body).getD .skip) = some c_ownE.erase := by kernel_rfl
def c_sent_r1 : List SOper := [⟨(some 2), .box 30 (.t 0), none, none, 0⟩,
  ⟨(some 3), .box 30 (.t 1), none, none, 0⟩,
  ⟨(some 4), .mv (.c (.bool false)), none, none, 0⟩]
def c_sent_r2 : List SOper := [⟨(some 5), .faddr 0 (.t 2), none, none, 0⟩,
  ⟨(some 6), .load (.t 5), none, none, 0⟩,
  ⟨(some 7), .faddr 0 (.t 3), none, none, 0⟩,
  ⟨(some 8), .load (.t 7), none, none, 0⟩,
  ⟨(some 9), .mv (.c .any), some ((.c (.fn (.func 61) [] [])), [(.t 6), (.t 8)]), none, 0⟩,
  ⟨(some 10), .mv (.t 9), none, none, 0⟩,
  ⟨(some 11), .faddr 1 (.t 2), none, (some (10, true)), 0⟩,
  ⟨(some 12), .load (.t 11), none, (some (10, true)), 0⟩,
  ⟨(some 13), .faddr 1 (.t 3), none, (some (10, true)), 0⟩,
  ⟨(some 14), .load (.t 13), none, (some (10, true)), 0⟩,
  ⟨(some 15), .mv (.c .any), some ((.c (.fn (.func 61) [] [])), [(.t 12), (.t 14)]), (some (10, true)), 0⟩,
  ⟨(some 16), .pick (.t 10) (.t 15) (.c (.bool false)), none, none, 0⟩,
  ⟨(some 17), .mv (.t 16), none, none, 0⟩,
  ⟨(some 18), .faddr 2 (.t 2), none, (some (17, true)), 0⟩,
  ⟨(some 19), .load (.t 18), none, (some (17, true)), 0⟩,
  ⟨(some 20), .faddr 2 (.t 3), none, (some (17, true)), 0⟩,
  ⟨(some 21), .load (.t 20), none, (some (17, true)), 0⟩,
  ⟨(some 22), .bin .eql (.t 19) (.t 21), none, (some (17, true)), 0⟩,
  ⟨(some 23), .pick (.t 17) (.t 22) (.c (.bool false)), none, none, 0⟩,
  ⟨(some 24), .mv (.t 23), none, none, 0⟩,
  ⟨(some 25), .faddr 3 (.t 2), none, (some (24, true)), 0⟩,
  ⟨(some 26), .load (.t 25), none, (some (24, true)), 0⟩,
  ⟨(some 27), .faddr 3 (.t 3), none, (some (24, true)), 0⟩,
  ⟨(some 28), .load (.t 27), none, (some (24, true)), 0⟩,
  ⟨(some 29), .bin .eql (.t 26) (.t 28), none, (some (24, true)), 0⟩,
  ⟨(some 30), .pick (.t 24) (.t 29) (.c (.bool false)), none, none, 0⟩,
  ⟨(some 31), .mv (.t 30), none, none, 0⟩,
  ⟨(some 32), .faddr 4 (.t 2), none, (some (31, true)), 0⟩,
  ⟨(some 33), .load (.t 32), none, (some (31, true)), 0⟩,
  ⟨(some 34), .faddr 4 (.t 3), none, (some (31, true)), 0⟩,
  ⟨(some 35), .load (.t 34), none, (some (31, true)), 0⟩,
  ⟨(some 36), .bin .eql (.t 33) (.t 35), none, (some (31, true)), 0⟩,
  ⟨(some 37), .pick (.t 31) (.t 36) (.c (.bool false)), none, none, 0⟩,
  ⟨(some 38), .mv (.t 37), none, none, 0⟩,
  ⟨(some 39), .faddr 5 (.t 2), none, (some (38, true)), 0⟩,
  ⟨(some 40), .load (.t 39), none, (some (38, true)), 0⟩,
  ⟨(some 41), .faddr 5 (.t 3), none, (some (38, true)), 0⟩,
  ⟨(some 42), .load (.t 41), none, (some (38, true)), 0⟩,
  ⟨(some 43), .mv (.c .any), some ((.c (.fn (.func 61) [] [])), [(.t 40), (.t 42)]), (some (38, true)), 0⟩,
  ⟨(some 44), .pick (.t 38) (.t 43) (.c (.bool false)), none, none, 0⟩,
  ⟨(some 4), .mv (.t 44), none, none, 0⟩]
def c_sent : SCode := (.seq (.reg false c_sent_r1 [2, 3]) (.seq (.reg false c_sent_r2 [4]) .ret))
theorem comp_c_sent : comp Try.prog 45 ((Try.f79.body).getD .skip) = some c_sent.erase := by kernel_rfl
def c_sents_r1 : List SOper := [⟨(some 4), .mv (.c (.bool false)), none, none, 0⟩]
def c_sents_r2 : List SOper := [⟨(some 6), .mv (.t 0), none, none, 0⟩,
  ⟨(some 7), .len false (.t 6), none, none, 0⟩,
  ⟨(some 8), .mv (.t 1), none, none, 0⟩,
  ⟨(some 9), .len false (.t 8), none, none, 0⟩,
  ⟨(some 10), .bin .neq (.t 7) (.t 9), none, none, 0⟩]
def c_sents_r3 : List SOper := [⟨(some 4), .mv (.c (.bool false)), none, none, 0⟩]
def c_sents_r4 : List SOper := [⟨(some 5), .mv (.c (.int .i64 0)), none, none, 0⟩]
def c_sents_r5 : List SOper := [⟨(some 11), .mv (.t 5), none, none, 0⟩,
  ⟨(some 12), .mv (.t 0), none, none, 0⟩,
  ⟨(some 13), .len false (.t 12), none, none, 0⟩,
  ⟨(some 14), .bin .lss (.t 11) (.t 13), none, none, 0⟩]
def c_sents_r6 : List SOper := [⟨(some 17), .mv (.t 0), none, none, 0⟩,
  ⟨(some 18), .mv (.t 5), none, none, 0⟩,
  ⟨(some 19), .iaddr 6 (.t 17) (.t 18), none, none, 3⟩,
  ⟨(some 20), .loads 6 (.t 19), none, none, 7⟩,
  ⟨(some 21), .mv (.t 1), none, none, 0⟩,
  ⟨(some 22), .mv (.t 5), none, none, 0⟩,
  ⟨(some 23), .iaddr 6 (.t 21) (.t 22), none, none, 48⟩,
  ⟨(some 24), .loads 6 (.t 23), none, none, 112⟩,
  ⟨(some 25), .mv (.c .any), some ((.c (.fn (.func 79) [] [])), [(.t 20), (.t 24)]), none, 255⟩,
  ⟨(some 26), .un .not (.t 25), none, none, 511⟩]
def c_sents_r7 : List SOper := [⟨(some 4), .mv (.c (.bool false)), none, none, 0⟩]
def c_sents_r8 : List SOper := [⟨(some 15), .mv (.t 5), none, none, 0⟩,
  ⟨(some 16), .bin .add (.t 15) (.c (.int .i64 1)), none, none, 0⟩,
  ⟨(some 5), .mv (.t 16), none, none, 0⟩]
def c_sents_l1 : SCode := (.seq (.seq (.reg false c_sents_r5 [0, 1, 5, 14]) (.cond (.t 14) .skip (.exit 0))) (.seq (.block 1 (.seq (.reg true c_sents_r6 [0, 1, 5, 26]) (.cond (.t 26) (.seq (.reg false c_sents_r7 [4]) .ret) .skip))) (.reg false c_sents_r8 [0, 1, 5])))
def c_sents_r9 : List SOper := [⟨(some 4), .mv (.c (.bool true)), none, none, 0⟩]
def c_sents : SCode := (.seq (.reg false c_sents_r1 [0, 1]) (.seq (.seq (.reg false c_sents_r2 [0, 1, 10]) (.cond (.t 10) (.seq (.reg false c_sents_r3 [4]) .ret) .skip)) (.seq (.seq (.reg false c_sents_r4 [0, 1, 5]) (.block 0 (.loop c_sents_l1))) (.seq (.reg false c_sents_r9 [4]) .ret))))
theorem comp_c_sents : comp Try.prog 27 ((Try.f43.body).getD .skip) = some c_sents.erase := by kernel_rfl
def c_shit_r1 : List SOper := [⟨(some 2), .box 37 (.t 0), none, none, 0⟩,
  ⟨(some 3), .box 37 (.t 1), none, none, 0⟩,
  ⟨(some 4), .mv (.c (.bool false)), none, none, 0⟩]
def c_shit_r2 : List SOper := [⟨(some 5), .faddr 0 (.t 2), none, none, 0⟩,
  ⟨(some 6), .load (.t 5), none, none, 0⟩,
  ⟨(some 7), .faddr 0 (.t 3), none, none, 0⟩,
  ⟨(some 8), .load (.t 7), none, none, 0⟩,
  ⟨(some 9), .bin .eql (.t 6) (.t 8), none, none, 0⟩,
  ⟨(some 10), .mv (.t 9), none, none, 0⟩,
  ⟨(some 11), .faddr 1 (.t 2), none, (some (10, true)), 0⟩,
  ⟨(some 12), .load (.t 11), none, (some (10, true)), 0⟩,
  ⟨(some 13), .faddr 1 (.t 3), none, (some (10, true)), 0⟩,
  ⟨(some 14), .load (.t 13), none, (some (10, true)), 0⟩,
  ⟨(some 15), .mv (.c .any), some ((.c (.fn (.func 61) [] [])), [(.t 12), (.t 14)]), (some (10, true)), 0⟩,
  ⟨(some 16), .pick (.t 10) (.t 15) (.c (.bool false)), none, none, 0⟩,
  ⟨(some 4), .mv (.t 16), none, none, 0⟩]
def c_shit : SCode := (.seq (.reg false c_shit_r1 [2, 3]) (.seq (.reg false c_shit_r2 [4]) .ret))
theorem comp_c_shit : comp Try.prog 17 ((Try.f25.body).getD .skip) = some c_shit.erase := by kernel_rfl
def c_wide_r1 : List SOper := [⟨(some 4), .mv (.c (.bool false)), none, none, 0⟩]
def c_wide_r2 : List SOper := [⟨(some 5), .mv (.t 0), none, none, 0⟩,
  ⟨(some 6), .mv (.t 1), none, none, 0⟩,
  ⟨(some 7), .mv (.c .any), some ((.c (.fn (.func 22) [] [])), [(.t 6)]), none, 0⟩,
  ⟨(some 8), .bin .gtr (.t 5) (.t 7), none, none, 0⟩,
  ⟨(some 4), .mv (.t 8), none, none, 0⟩]
def c_wide : SCode := (.seq (.reg false c_wide_r1 [0, 1]) (.seq (.reg false c_wide_r2 [4]) .ret))
theorem comp_c_wide : comp Try.prog 9 ((Try.f94.body).getD .skip) = some c_wide.erase := by kernel_rfl
def c_ones_r1 : List SOper := [⟨(some 2), .mv (.c (.int .u64 0)), none, none, 0⟩]
def c_ones_r2 : List SOper := [⟨(some 3), .mv (.c (.int .u64 0)), none, none, 0⟩]
def c_ones_r3 : List SOper := [⟨(some 4), .mv (.c (.int .i64 0)), none, none, 0⟩]
def c_ones_r4 : List SOper := [⟨(some 5), .mv (.t 4), none, none, 0⟩,
  ⟨(some 6), .mv (.t 0), none, none, 0⟩,
  ⟨(some 7), .bin .lss (.t 5) (.t 6), none, none, 0⟩,
  ⟨(some 8), .mv (.t 7), none, none, 0⟩,
  ⟨(some 9), .mv (.t 0), none, (some (8, true)), 0⟩,
  ⟨(some 10), .bin .leq (.t 9) (.c (.int .i64 64)), none, (some (8, true)), 0⟩,
  ⟨(some 11), .pick (.t 8) (.t 10) (.c (.bool false)), none, none, 0⟩]
def c_ones_r5 : List SOper := [⟨(some 14), .mv (.t 3), none, none, 0⟩,
  ⟨(some 15), .bin .mul (.c (.int .u64 2)) (.t 14), none, none, 0⟩,
  ⟨(some 16), .bin .add (.t 15) (.c (.int .u64 1)), none, none, 0⟩,
  ⟨(some 3), .mv (.t 16), none, none, 0⟩]
def c_ones_r6 : List SOper := [⟨(some 12), .mv (.t 4), none, none, 0⟩,
  ⟨(some 13), .bin .add (.t 12) (.c (.int .i64 1)), none, none, 0⟩,
  ⟨(some 4), .mv (.t 13), none, none, 0⟩]
def c_ones_l1 : SCode := (.seq (.seq (.reg false c_ones_r4 [0, 3, 4, 11]) (.cond (.t 11) .skip (.exit 0))) (.seq (.block 1 (.reg false c_ones_r5 [0, 3, 4])) (.reg false c_ones_r6 [0, 3, 4])))
def c_ones_r7 : List SOper := [⟨(some 17), .mv (.t 3), none, none, 0⟩,
  ⟨(some 2), .mv (.t 17), none, none, 0⟩]
def c_ones : SCode := (.seq (.reg false c_ones_r1 [0]) (.seq (.reg false c_ones_r2 [0, 3]) (.seq (.seq (.reg false c_ones_r3 [0, 3, 4]) (.block 0 (.loop c_ones_l1))) (.seq (.reg false c_ones_r7 [2]) .ret))))
theorem comp_c_ones : comp Try.prog 18 ((Try.f22.body).getD .skip) = some c_ones.erase := by kernel_rfl
def c_hitOf_r1 : List SOper := [⟨(some 1), .box 30 (.t 0), none, none, 0⟩,
  ⟨(some 2), .alloc 37 [(.int .i64 0), .nilsl], none, none, 0⟩]
def c_hitOf_r2 : List SOper := [⟨(some 3), .faddr 4 (.t 1), none, none, 0⟩,
  ⟨(some 4), .load (.t 3), none, none, 0⟩,
  ⟨(some 5), .faddr 5 (.t 1), none, none, 0⟩,
  ⟨(some 6), .load (.t 5), none, none, 0⟩,
  ⟨(some 7), .build [(.int .i64 0), .nilsl] [(0, 1, (.t 4)), (1, 1, (.t 6))], none, none, 0⟩,
  ⟨none, .store 2 (.t 2) (.t 7), none, none, 0⟩]
def c_hitOf : SCode := (.seq (.reg false c_hitOf_r1 [1, 2]) (.seq (.reg false c_hitOf_r2 [2]) .ret))
theorem comp_c_hitOf : comp Try.prog 8 ((Try.f21.body).getD .skip) = some c_hitOf.erase := by kernel_rfl
def c_one_r1 : List SOper := [⟨(some 1), .box 30 (.t 0), none, none, 0⟩,
  ⟨(some 2), .alloc 30 [.nilsl, .nilsl, (.int .i64 0), (.int .i64 0), (.int .i64 0), .nilsl], none, none, 0⟩]
def c_one_r2 : List SOper := [⟨(some 3), .loads 6 (.t 1), none, none, 0⟩,
  ⟨(some 4), .mv (.c .any), some ((.c (.fn (.func 76) [] [])), [(.t 3)]), none, 0⟩,
  ⟨none, .store 6 (.t 1) (.t 4), none, none, 0⟩]
def c_one_r3 : List SOper := [⟨(some 5), .faddr 0 (.t 1), none, none, 0⟩,
  ⟨(some 6), .load (.t 5), none, none, 0⟩,
  ⟨(some 7), .len false (.t 6), none, none, 0⟩,
  ⟨(some 8), .bin .eql (.t 7) (.c (.int .i64 0)), none, none, 0⟩]
def c_one_r4 : List SOper := [⟨(some 9), .mkrow 23 1 1 [(.int .u64 0)] [(0, (.c (.int .u64 0)))], none, none, 0⟩,
  ⟨(some 10), .faddr 0 (.t 1), none, none, 0⟩,
  ⟨none, .store 1 (.t 10) (.t 9), none, none, 0⟩]
def c_one_r5 : List SOper := [⟨(some 11), .faddr 0 (.t 1), none, none, 0⟩,
  ⟨(some 12), .load (.t 11), none, none, 0⟩,
  ⟨(some 13), .slice 1 (.t 12) none (some (.c (.int .i64 1))), none, none, 0⟩,
  ⟨(some 14), .faddr 0 (.t 1), none, none, 0⟩,
  ⟨none, .store 1 (.t 14) (.t 13), none, none, 0⟩]
def c_one_r6 : List SOper := [⟨(some 15), .faddr 1 (.t 1), none, none, 0⟩,
  ⟨none, .store 1 (.t 15) (.c .nilsl), none, none, 0⟩,
  ⟨(some 16), .faddr 3 (.t 1), none, none, 0⟩,
  ⟨none, .store 1 (.t 16) (.c (.int .i64 0)), none, none, 0⟩]
def c_one_r7 : List SOper := [⟨(some 17), .loads 6 (.t 1), none, none, 0⟩,
  ⟨none, .store 6 (.t 2) (.t 17), none, none, 0⟩]
def c_one : SCode := (.seq (.reg false c_one_r1 [1, 2]) (.seq (.reg false c_one_r2 [1, 2]) (.seq (.seq (.reg false c_one_r3 [1, 2, 8]) (.cond (.t 8) (.reg false c_one_r4 [1, 2]) .skip)) (.seq (.reg false c_one_r5 [1, 2]) (.seq (.reg false c_one_r6 [1, 2]) (.seq (.reg false c_one_r7 [2]) .ret))))))
theorem comp_c_one : comp Try.prog 18 ((Try.f18.body).getD .skip) = some c_one.erase := by kernel_rfl
def c_great_r1 : List SOper := [⟨(some 2), .mv (.c (.bool false)), none, none, 0⟩]
def c_great_r2 : List SOper := [⟨(some 4), .mv (.t 0), none, none, 0⟩,
  ⟨(some 5), .len false (.t 4), none, none, 0⟩,
  ⟨(some 6), .bin .gtr (.t 5) (.c (.int .i64 200)), none, none, 0⟩]
def c_great_r3 : List SOper := [⟨(some 2), .mv (.c (.bool true)), none, none, 0⟩]
def c_great_r4 : List SOper := [⟨(some 3), .mv (.c (.int .i64 0)), none, none, 0⟩]
def c_great_r5 : List SOper := [⟨(some 7), .mv (.t 3), none, none, 0⟩,
  ⟨(some 8), .mv (.t 0), none, none, 0⟩,
  ⟨(some 9), .len false (.t 8), none, none, 0⟩,
  ⟨(some 10), .bin .lss (.t 7) (.t 9), none, none, 0⟩]
def c_great_r6 : List SOper := [⟨(some 13), .mv (.t 0), none, none, 0⟩,
  ⟨(some 14), .mv (.t 3), none, none, 0⟩,
  ⟨(some 15), .iaddr 7 (.t 13) (.t 14), none, none, 0⟩,
  ⟨(some 16), .faddr 1 (.t 15), none, none, 0⟩,
  ⟨(some 17), .faddr 0 (.t 16), none, none, 0⟩,
  ⟨(some 18), .load (.t 17), none, none, 0⟩,
  ⟨(some 19), .len false (.t 18), none, none, 0⟩,
  ⟨(some 20), .bin .gtr (.t 19) (.c (.int .i64 20)), none, none, 0⟩,
  ⟨(some 21), .mv (.t 20), none, none, 0⟩,
  ⟨(some 22), .mv (.t 0), none, (some (21, false)), 0⟩,
  ⟨(some 23), .mv (.t 3), none, (some (21, false)), 0⟩,
  ⟨(some 24), .iaddr 7 (.t 22) (.t 23), none, (some (21, false)), 0⟩,
  ⟨(some 25), .faddr 1 (.t 24), none, (some (21, false)), 0⟩,
  ⟨(some 26), .faddr 1 (.t 25), none, (some (21, false)), 0⟩,
  ⟨(some 27), .load (.t 26), none, (some (21, false)), 0⟩,
  ⟨(some 28), .len false (.t 27), none, (some (21, false)), 0⟩,
  ⟨(some 29), .bin .gtr (.t 28) (.c (.int .i64 20)), none, (some (21, false)), 0⟩,
  ⟨(some 30), .pick (.t 21) (.c (.bool true)) (.t 29), none, none, 0⟩,
  ⟨(some 31), .mv (.t 30), none, none, 0⟩,
  ⟨(some 32), .mv (.t 0), none, (some (31, false)), 0⟩,
  ⟨(some 33), .mv (.t 3), none, (some (31, false)), 0⟩,
  ⟨(some 34), .iaddr 7 (.t 32) (.t 33), none, (some (31, false)), 0⟩,
  ⟨(some 35), .faddr 1 (.t 34), none, (some (31, false)), 0⟩,
  ⟨(some 36), .faddr 5 (.t 35), none, (some (31, false)), 0⟩,
  ⟨(some 37), .load (.t 36), none, (some (31, false)), 0⟩,
  ⟨(some 38), .len false (.t 37), none, (some (31, false)), 0⟩,
  ⟨(some 39), .bin .gtr (.t 38) (.c (.int .i64 20)), none, (some (31, false)), 0⟩,
  ⟨(some 40), .pick (.t 31) (.c (.bool true)) (.t 39), none, none, 0⟩]
def c_great_r7 : List SOper := [⟨(some 2), .mv (.c (.bool true)), none, none, 0⟩]
def c_great_r8 : List SOper := [⟨(some 11), .mv (.t 3), none, none, 0⟩,
  ⟨(some 12), .bin .add (.t 11) (.c (.int .i64 1)), none, none, 0⟩,
  ⟨(some 3), .mv (.t 12), none, none, 0⟩]
def c_great_l1 : SCode := (.seq (.seq (.reg false c_great_r5 [0, 3, 10]) (.cond (.t 10) .skip (.exit 0))) (.seq (.block 1 (.seq (.reg false c_great_r6 [0, 3, 40]) (.cond (.t 40) (.seq (.reg false c_great_r7 [2]) .ret) .skip))) (.reg false c_great_r8 [0, 3])))
def c_great_r9 : List SOper := [⟨(some 2), .mv (.c (.bool false)), none, none, 0⟩]
def c_great : SCode := (.seq (.reg false c_great_r1 [0]) (.seq (.seq (.reg false c_great_r2 [0, 6]) (.cond (.t 6) (.seq (.reg false c_great_r3 [2]) .ret) .skip)) (.seq (.seq (.reg false c_great_r4 [0, 3]) (.block 0 (.loop c_great_l1))) (.seq (.reg false c_great_r9 [2]) .ret))))
theorem comp_c_great : comp Try.prog 41 ((Try.f16.body).getD .skip) = some c_great.erase := by kernel_rfl
end Go.Proofs.Ytfakdapglbgokaa

/-
  References on entries of tables, in the plain machine: SameNums, own. No condition.
-/
namespace Go.Proofs.Ytfakdapglbgokaa
set_option linter.all false
open Go.RowKit

def ecells (e : Entry) : List SV := [nums .u64 e.keys, nums .u64 e.masks, .int .i64 e.len, .int .i64 e.prio, .int .i64 e.act, nums .u64 e.args]
def Small (e : Entry) : Prop := e.keys.length ≤ 1000000 ∧ e.masks.length ≤ 1000000 ∧ e.args.length ≤ 1000000
theorem mixed : Try.prog.follows .mixedOrders = true := by kernel_rfl
theorem agg_entry : aggOf Try.prog 30 = some true := by kernel_rfl
theorem size_entry : sizeOf_ Try.prog 30 = some 6 := by kernel_rfl
theorem own_s (e : Entry) (h : Small e) : SCalls Try.prog 96 [.agg (ecells e)] [] 0 (.agg (ecells e)) [] := by
  obtain ⟨h1, h2, h3⟩ := h
  have b1 : e.keys.length ≤ maxLen := by simp [maxLen]; omega
  have b2 : e.masks.length ≤ maxLen := by simp [maxLen]; omega
  have b3 : e.args.length ≤ maxLen := by simp [maxLen]; omega
  have c1 : e.keys.length * 8 ≤ 140737488355328 := by omega
  have c2 : e.masks.length * 8 ≤ 140737488355328 := by omega
  have c3 : e.args.length * 8 ≤ 140737488355328 := by omega
  refine scalls_of (N := 25) Try.func96 rfl rfl (by kernel_rfl) comp_c_own (by simp) ⟨rfl, trivial⟩ trivial ?_
  rintro X hP hN hm
  unfold c_own ecells nums
  refine swp_seq (swp_reg ?_)
  simp -implicitDefEqProofs [c_own_r1, sops_nil, sops_run, sopsk_some, sops_call, sops_guard, sopsg_yes, sopsg_tf, sopsg_ft, sopsg_undef, rg_true, SOp.run, SX.ev, putd, puts, argS, upds, SOp.touch, SSt.keep, SSt.skip, gets, geth, puth, delh, idOf, SV.cells?, setL, fillS, fillR, sbin, eq0, eq1, eqL, rowOf, qseq_n, qseq_e, qseq_r, qblock_n, qblock_r, qblock_e, qloop_e, qloop_r]
  refine swp_seq (swp_reg ?_)
  simp -implicitDefEqProofs [c_own_r2, sops_nil, sops_run, sopsk_some, sops_call, sops_guard, sopsg_yes, sopsg_tf, sopsg_ft, sopsg_undef, rg_true, SOp.run, SX.ev, putd, puts, argS, upds, SOp.touch, SSt.keep, SSt.skip, gets, geth, puth, delh, idOf, SV.cells?, setL, fillS, fillR, sbin, eq0, eq1, eqL, rowOf, qseq_n, qseq_e, qseq_r, qblock_n, qblock_r, qblock_e, qloop_e, qloop_r]
  refine swp_seq (swp_regd (by rw [hP]; exact mixed) ?_)
  simp -implicitDefEqProofs [c_own_r3, sops_nil, sops_run, sopsk_some, sops_call, sops_guard, sopsg_yes, sopsg_tf, sopsg_ft, sopsg_undef, rg_true, SOp.run, SX.ev, putd, puts, argS, upds, SOp.touch, SSt.keep, SSt.skip, gets, geth, puth, delh, idOf, SV.cells?, setL, fillS, fillR, sbin, eq0, eq1, eqL, rowOf, qseq_n, qseq_e, qseq_r, qblock_n, qblock_r, qblock_e, qloop_e, qloop_r, b1, b2, b3, c1, c2, c3]
  refine ⟨rfl, swp_ret (qfun_done (s' := ⟨[(2, .ptr 0 0)], [(0, .cells 30 (ecells e))], 1⟩) (wk_fz [8, 12, 22] [(0, 1)] hm rfl (by simp -implicitDefEqProofs [take_map_len, FrzOk, pureV_int, pureV_bool, pureV_str, pureV_nil, pureV_nilsl, pureV_view, pureV_cp, pureL_nil_, pureL_cons_, pureO_row, pureO_cells, frzS, frzH, frz, frz1, frz0, SlotsM, ObjsM, ObjM, rn, ren, ren1, ren0, gets, geth, co_self, co_int, co_own, co_view, co_nilsl, co_agg, co_tup, CoL, coll_self]) rfl (Nat.zero_le _) (by simp -implicitDefEqProofs [take_map_len, FrzOk, pureV_int, pureV_bool, pureV_str, pureV_nil, pureV_nilsl, pureV_view, pureV_cp, pureL_nil_, pureL_cons_, pureO_row, pureO_cells, frzS, frzH, frz, frz1, frz0, SlotsM, ObjsM, ObjM, rn, ren, ren1, ren0, gets, geth, co_self, co_int, co_own, co_view, co_nilsl, co_agg, co_tup, CoL, coll_self]) (by simp -implicitDefEqProofs [take_map_len, FrzOk, pureV_int, pureV_bool, pureV_str, pureV_nil, pureV_nilsl, pureV_view, pureV_cp, pureL_nil_, pureL_cons_, pureO_row, pureO_cells, frzS, frzH, frz, frz1, frz0, SlotsM, ObjsM, ObjM, rn, ren, ren1, ren0, gets, geth, co_self, co_int, co_own, co_view, co_nilsl, co_agg, co_tup, CoL, coll_self, ecells, nums])) ?_ trivial (by simp))⟩
  simp -implicitDefEqProofs [hP, resOf, resL, resV, agg_entry, size_entry, one_, ecells, nums, sops_nil, sops_run, sopsk_some, sops_call, sops_guard, sopsg_yes, sopsg_tf, sopsg_ft, sopsg_undef, rg_true, SOp.run, SX.ev, putd, puts, argS, upds, SOp.touch, SSt.keep, SSt.skip, gets, geth, puth, delh, idOf, SV.cells?, setL, fillS, fillR, sbin, eq0, eq1, eqL, rowOf, qseq_n, qseq_e, qseq_r, qblock_n, qblock_r, qblock_e, qloop_e, qloop_r]
end Go.Proofs.Ytfakdapglbgokaa
