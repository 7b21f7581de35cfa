/-
  Texts joined: XGrdX XGrdY XGrdZ. No condition.
-/
import Derived.Test.YtfakdapglbgokaaJ33
/-
  Package guard: who knows more lets more by. Plain. No condition.
-/
namespace Go.Proofs.Ytfakdapglbgokaa
set_option linter.all false
open Go.RowKit
/-- The second one knows what the first one knows, and maybe more. -/
structure KnM (a b : Kn) : Prop where
  set : a.set = true → b.set = true
  just : a.just = true → b.just = true ∧ a.n = b.n
  n0 : b.just = true → 0 ≤ b.n
  room : a.room ≤ b.room
  lo : -1 ≤ a.room
  hi : b.room ≤ 600
theorem KnM.lo2 {a b : Kn} (h : KnM a b) : -1 ≤ b.room := Int.le_trans h.lo h.room
theorem KnM.hi2 {a b : Kn} (h : KnM a b) : a.room ≤ 600 := Int.le_trans h.room h.hi
theorem knM_some : KnM knSome knSome := ⟨fun h => h, (fun h => by cases h), (fun h => by cases h), Int.le_refl _, by decide, by decide⟩
theorem knM_join {a b o o' : Kn} (h : KnM a b) (g : KnM o o') : KnM (knJoin a o) (knJoin b o') := by
  have l1 := h.lo2
  have l2 := g.lo2
  have l3 := h.hi
  have l4 := g.hi
  have l5 := h.lo
  have l6 := g.lo
  have l7 := h.room
  have l8 := g.room
  by_cases hs : (a.set && o.set) = true
  · have hs' : (b.set && o'.set) = true := by
      rw [Bool.and_eq_true] at hs ⊢; exact ⟨h.set hs.1, g.set hs.2⟩
    have e1 : knJoin a o = ⟨true, a.just && (o.just && a.n == o.n), if a.just && (o.just && a.n == o.n) then a.n else 0, if o.room < a.room then o.room else a.room⟩ := by unfold knJoin; rw [if_pos hs]
    have e2 : knJoin b o' = ⟨true, b.just && (o'.just && b.n == o'.n), if b.just && (o'.just && b.n == o'.n) then b.n else 0, if o'.room < b.room then o'.room else b.room⟩ := by unfold knJoin; rw [if_pos hs']
    rw [e1, e2]
    refine ⟨fun _ => rfl, fun hj => ?_, fun hj => ?_, ?_, ?_, ?_⟩
    · dsimp only at hj ⊢
      simp only [Bool.and_eq_true, beq_iff_eq] at hj
      obtain ⟨j1, j2, j3⟩ := hj
      obtain ⟨k1, k2⟩ := h.just j1
      obtain ⟨k3, k4⟩ := g.just j2
      have q1 : (a.just && (o.just && a.n == o.n)) = true := by simp [j1, j2, j3]
      have q2 : (b.just && (o'.just && b.n == o'.n)) = true := by simp only [Bool.and_eq_true, beq_iff_eq]; exact ⟨k1, k3, by rw [← k2, ← k4]; exact j3⟩
      rw [if_pos q1, if_pos q2]; exact ⟨q2, k2⟩
    · dsimp only at hj ⊢
      rw [if_pos hj]
      simp only [Bool.and_eq_true] at hj
      exact h.n0 hj.1
    · dsimp only; split <;> split <;> omega
    · dsimp only; split <;> omega
    · dsimp only; split <;> omega
  · have e1 : knJoin a o = ⟨false, false, 0, -1⟩ := by unfold knJoin; rw [if_neg hs]
    rw [e1]
    refine ⟨(fun h => by cases h), (fun h => by cases h), fun hj => ?_, ?_, by decide, ?_⟩
    · unfold knJoin at hj ⊢
      split
      · rename_i hs'
        rw [if_pos hs'] at hj
        dsimp only at hj ⊢
        rw [if_pos hj]
        simp only [Bool.and_eq_true] at hj
        exact h.n0 hj.1
      · exact Int.le_refl 0
    · unfold knJoin; split
      · dsimp only; split <;> omega
      · exact Int.le_refl _
    · unfold knJoin; split
      · dsimp only; split <;> omega
      · decide
theorem knM_bin (k : Int) {a b a' b' : Kn} (ha : KnM a a') (hb : KnM b b') : KnM (knBin k a b) (knBin k a' b') := by
  have l1 := ha.lo
  have l2 := ha.hi
  have l3 := ha.room
  have room : ∀ {x y : Kn}, -1 ≤ x.room → x.room ≤ 600 → (y.just = true → 0 ≤ y.n) → (knBin k x y).room = if k = 3 ∧ y.just = true ∧ 0 ≤ x.room ∧ y.n ≤ x.room then x.room - y.n else -1 := fun {x y} h1 h2 h3 => by
    have e : (knBin k x y).room = if k = 3 ∧ y.just = true ∧ 0 ≤ x.room ∧ y.n ≤ IntKind.u64.wrap x.room then IntKind.i64.wrap (x.room - IntKind.i64.wrap y.n) else -1 := by
      unfold knBin; dsimp only; split <;> rfl
    rw [e]
    by_cases h0 : 0 ≤ x.room
    · rw [u64_in_ h0 (by omega)]
      split
      · rename_i hc
        have := h3 hc.2.1
        rw [IntWalk.i64_in y.n ⟨by omega, by omega⟩, IntWalk.i64_in _ ⟨by omega, by omega⟩]
      · rfl
    · rw [if_neg (fun h => h0 h.2.2.1), if_neg (fun h => h0 h.2.2.1)]
  have sn : ∀ x y : Kn, (knBin k x y).set = true := fun x y => by unfold knBin; dsimp only; split <;> rfl
  have jn : ∀ x y : Kn, (knBin k x y).just = decide (k = 3 ∧ x.just = true ∧ y.just = true) := fun x y => by
    unfold knBin; dsimp only
    split
    · rename_i h; rw [decide_eq_true h]
    · rename_i h; rw [decide_eq_false h]
  have nn : ∀ x y : Kn, (k = 3 ∧ x.just = true ∧ y.just = true) → (knBin k x y).n = IntKind.u64.wrap (x.n + y.n) := fun x y h => by
    unfold knBin; dsimp only; rw [if_pos h]
  have hb0 : b.just = true → 0 ≤ b.n := fun h => by have := hb.just h; rw [this.2]; exact hb.n0 this.1
  have r1 := room (x := a) (y := b) l1 (Int.le_trans l3 l2) hb0
  have r2 := room (x := a') (y := b') (Int.le_trans l1 l3) l2 hb.n0
  refine ⟨fun _ => sn _ _, fun hj => ?_, fun hj => ?_, ?_, ?_, ?_⟩
  · rw [jn] at hj ⊢
    have hj := of_decide_eq_true hj
    have j1 := ha.just hj.2.1
    have j2 := hb.just hj.2.2
    have hj' : k = 3 ∧ a'.just = true ∧ b'.just = true := ⟨hj.1, j1.1, j2.1⟩
    exact ⟨decide_eq_true hj', by rw [nn _ _ hj, nn _ _ hj', j1.2, j2.2]⟩
  · rw [jn] at hj
    rw [nn _ _ (of_decide_eq_true hj)]
    simp [IntKind.wrap, IntKind.bits, IntKind.signed]
    omega
  · rw [r1, r2]
    split
    · rename_i hc
      have j2 := hb.just hc.2.1
      rw [if_pos ⟨hc.1, j2.1, by omega, by omega⟩, j2.2]; omega
    · split
      · rename_i hc; have := hb.n0 hc.2.1; omega
      · omega
  · rw [r1]; split
    · rename_i hc; omega
    · omega
  · rw [r2]; split
    · rename_i hc; have := hb.n0 hc.2.1; omega
    · omega
end Go.Proofs.Ytfakdapglbgokaa

/-
  Package guard: a program that asks for more room, and has more slots, is let by. Plain. No condition.
-/
namespace Go.Proofs.Ytfakdapglbgokaa
set_option linter.all false
open Go.RowKit
structure GM (s s' : GSt) : Prop where
  there : s.there = s'.there
  ok : GOk s
  ok' : GOk s'
  reg : s.there = true → ∀ r, r < 10 → KnM (gReg s r) (gReg s' r)
  slot : s.there = true → ∀ j, s.slots.getD j false = true → s'.slots.getD j false = true
theorem GM.setR {s s' : GSt} (h : GM s s') {a b : Kn} (he : KnM a b) (r : Int) (hr : 0 ≤ r ∧ r < 10) : GM (setR s r a) (setR s' r b) where
  there := h.there
  ok := ⟨by show (s.regs.set _ _).length = 10; rw [List.length_set]; exact h.ok.r, h.ok.s⟩
  ok' := ⟨by show (s'.regs.set _ _).length = 10; rw [List.length_set]; exact h.ok'.r, h.ok'.s⟩
  reg ht j hj := by
    rw [reg_set h.ok r j a hr, reg_set h.ok' r j b hr]
    split
    · exact he
    · exact h.reg ht j hj
  slot := h.slot
theorem GM.sl {s s' : GSt} (h : GM s s') {l l' : List Bool} (hl : l.length = 96) (hl' : l'.length = 96) (he : ∀ j, l.getD j false = true → l'.getD j false = true) : GM ⟨s.there, s.regs, l⟩ ⟨s'.there, s'.regs, l'⟩ where
  there := h.there
  ok := ⟨h.ok.r, hl⟩
  ok' := ⟨h.ok'.r, hl'⟩
  reg := h.reg
  slot _ := he
theorem gm_join {s s' t t' : GSt} (h : GM s s') (g : GM t t') (ht : t.there = true) : GM (gJoin s t) (gJoin s' t') ∧ (gJoin s t).there = true := by
  have ht' : t'.there = true := g.there ▸ ht
  cases hs : s.there
  · have hs' : s'.there = false := h.there ▸ hs
    have e1 : gJoin s t = t := by unfold gJoin; rw [hs]; rfl
    have e2 : gJoin s' t' = t' := by unfold gJoin; rw [hs']; rfl
    rw [e1, e2]; exact ⟨g, ht⟩
  · have hs' : s'.there = true := h.there ▸ hs
    have e1 : gJoin s t = ⟨true, List.zipWith knJoin s.regs t.regs, List.zipWith (· && ·) s.slots t.slots⟩ := by unfold gJoin; rw [hs]; rfl
    have e2 : gJoin s' t' = ⟨true, List.zipWith knJoin s'.regs t'.regs, List.zipWith (· && ·) s'.slots t'.slots⟩ := by unfold gJoin; rw [hs']; rfl
    have o1 := gJoin_ok h.ok g.ok
    have o2 := gJoin_ok h.ok' g.ok'
    rw [e1] at o1 ⊢
    rw [e2] at o2 ⊢
    refine ⟨⟨rfl, o1, o2, fun _ r hr => ?_, fun _ j hj => ?_⟩, rfl⟩
    · show KnM ((List.zipWith knJoin s.regs t.regs).getD r default) ((List.zipWith knJoin s'.regs t'.regs).getD r default)
      rw [zip_getD _ _ (by rw [h.ok.r]; exact hr) (by rw [g.ok.r]; exact hr), zip_getD _ _ (by rw [h.ok'.r]; exact hr) (by rw [g.ok'.r]; exact hr)]
      exact knM_join (h.reg hs r hr) (g.reg ht r hr)
    · dsimp only at hj ⊢
      have hlt : j < 96 := by
        apply Nat.lt_of_not_le; intro hge
        rw [List.getD_eq_getElem?_getD, List.getElem?_eq_none (by simp [h.ok.s, g.ok.s]; omega)] at hj
        cases hj
      rw [zip_getD _ _ (by rw [h.ok.s]; exact hlt) (by rw [g.ok.s]; exact hlt)] at hj
      rw [zip_getD _ _ (by rw [h.ok'.s]; exact hlt) (by rw [g.ok'.s]; exact hlt)]
      simp only [Bool.and_eq_true] at hj ⊢
      exact ⟨h.slot hs j hj.1, g.slot ht j hj.2⟩
def bump (k : Int) (x : Ins) : Ins := if x.op = 9 then ⟨x.op, x.r, x.s, x.k, x.to, if 600 < x.n + k then 600 else x.n + k⟩ else x
theorem slotsAll_m {l l' : List Bool} (he : ∀ j, l.getD j false = true → l'.getD j false = true) (a : Nat) : ∀ n, slotsAll l a n = true → slotsAll l' a n = true
  | 0, _ => rfl
  | n + 1, h => by
    rw [slotsAll_succ, Bool.and_eq_true] at h ⊢
    exact ⟨slotsAll_m he a n h.1, he _ h.2⟩
theorem slotsSet_m {l l' : List Bool} (hl : l.length = l'.length) (he : ∀ j, l.getD j false = true → l'.getD j false = true) (a : Nat) : ∀ n j, (slotsSet l a n).getD j false = true → (slotsSet l' a n).getD j false = true
  | 0, j, h => he j h
  | n + 1, j, h => by
    rw [slotsSet] at h ⊢
    by_cases hlt : a + n < l.length
    · rw [getD_set_ _ _ _ _ _ (by rw [slotsSet_len]; exact hlt)] at h
      rw [getD_set_ _ _ _ _ _ (by rw [slotsSet_len]; omega)]
      split
      · rfl
      · rename_i hne; rw [if_neg hne] at h; exact slotsSet_m hl he a n j h
    · rw [List.set_eq_of_length_le (by rw [slotsSet_len]; omega)] at h ⊢
      exact slotsSet_m hl he a n j h
theorem gm_does {slots : Int} {tabs : List Shape} {x : Ins} {s s' : GSt} (hx : InsP slots tabs x) (h : GM s s') (ht : s.there = true) (hz : (gDoes tabs x s).2 = 0) (k : Int) : (gDoes tabs (bump k x) s').2 = 0 ∧ GM (gDoes tabs x s).1 (gDoes tabs (bump k x) s').1 := by
  have hr := hx.r
  have hu : ((usesL x).all fun r => (regAt s r).set) = true → ((usesL x).all fun r => (regAt s' r).set) = true := fun q => by
    rw [List.all_eq_true] at q ⊢
    exact fun r hrm => (h.reg ht r.toNat (by have := usesL_ok hx r hrm; omega)).set (q r hrm)
  have hn0 := hx.n0
  have ereg : ∀ r : Int, 0 ≤ r ∧ r < 10 → KnM (regAt s r) (regAt s' r) := fun r hr => h.reg ht r.toNat (by omega)
  by_cases c9 : x.op = 9
  · have eb : usesL (bump k x) = usesL x := by unfold bump; rw [if_pos c9]; rfl
    have ob : (bump k x).op = 9 := by unfold bump; rw [if_pos c9]; exact c9
    have d : ∀ (y : Ins) (u : GSt), y.op = 9 → gDoes tabs y u = if (usesL y).all (fun r => (regAt u r).set) = false then (u, 15) else (u, 0) := fun y u hy => by unfold gDoes; simp [hy]
    rw [d x s c9] at hz ⊢
    rw [d (bump k x) s' ob, eb]
    by_cases c0 : ((usesL x).all fun r => (regAt s r).set) = false
    · rw [if_pos c0] at hz; cases hz
    · rw [if_neg c0, if_neg (by rw [hu (by simpa using c0)]; simp)]; exact ⟨rfl, h⟩
  have eb : bump k x = x := by unfold bump; rw [if_neg c9]
  rw [eb]
  unfold gDoes at hz ⊢
  by_cases c0 : ((usesL x).all fun r => (regAt s r).set) = false
  · rw [if_pos c0] at hz; cases hz
  rw [if_neg c0] at hz ⊢
  rw [if_neg (by rw [hu (by simpa using c0)]; simp)]
  have hu2 : ((usesL x).all fun r => (regAt s r).set) = true := by simpa using c0
  by_cases c1 : x.op = 1
  · rw [if_pos c1, if_pos c1]
    refine ⟨rfl, h.setR ⟨fun h => h, fun _ => ⟨rfl, rfl⟩, fun _ => hn0, Int.le_refl _, ?_, ?_⟩ _ hr⟩ <;> (dsimp only; split <;> decide)
  rw [if_neg c1] at hz ⊢
  rw [if_neg c1]
  by_cases c2 : x.op = 2
  · rw [if_pos c2, if_pos c2]
    exact ⟨rfl, h.setR (ereg _ (hx.s (by omega))) _ hr⟩
  rw [if_neg c2] at hz ⊢
  rw [if_neg c2]
  by_cases c3 : x.op = 3
  · rw [if_pos c3, if_pos c3]
    exact ⟨rfl, h.setR (knM_bin _ (ereg _ hr) (ereg _ (hx.s (by omega)))) _ hr⟩
  rw [if_neg c3] at hz ⊢
  rw [if_neg c3]
  by_cases c4 : x.op = 4 ∨ x.op = 5 ∨ x.op = 18
  · rw [if_pos c4, if_pos c4]; exact ⟨rfl, h.setR knM_some _ hr⟩
  rw [if_neg c4] at hz ⊢
  rw [if_neg c4]
  by_cases c6 : x.op = 6
  · rw [if_pos c6] at hz ⊢
    rw [if_pos c6]
    have hroom := (ereg _ (hx.s (by omega))).room
    split at hz
    · cases hz
    · rename_i hl
      rw [if_neg hl, if_neg (by omega)]; exact ⟨rfl, h.setR knM_some _ hr⟩
  rw [if_neg c6] at hz ⊢
  rw [if_neg c6]
  by_cases c7 : x.op = 7
  · rw [if_pos c7] at hz ⊢
    rw [if_pos c7]
    split at hz
    · rename_i hl
      rw [if_pos hl, if_pos (h.slot ht _ hl)]; exact ⟨rfl, h.setR knM_some _ hr⟩
    · cases hz
  rw [if_neg c7] at hz ⊢
  rw [if_neg c7]
  by_cases c8 : x.op = 8
  · rw [if_pos c8, if_pos c8]
    have hn := hx.n7 (.inr c8)
    have hsl := hx.sl
    refine ⟨rfl, h.sl (by rw [List.length_set]; exact h.ok.s) (by rw [List.length_set]; exact h.ok'.s) fun j hj => ?_⟩
    have l1 := h.ok.s
    have l2 := h.ok'.s
    rw [getD_set_ _ _ _ _ _ (by omega)] at hj ⊢
    split
    · rfl
    · rename_i hne; rw [if_neg hne] at hj; exact h.slot ht j hj
  rw [if_neg c8] at hz ⊢
  rw [if_neg c8]
  by_cases c13 : x.op = 13
  · rw [if_pos c13] at hz ⊢
    rw [if_pos c13]
    generalize nth tabs x.n.toNat = t at hz ⊢
    unfold gCall at hz ⊢
    split at hz
    · rename_i hl
      rw [if_pos hl, if_pos (slotsAll_m (h.slot ht) _ _ hl)]
      refine ⟨rfl, ?_⟩
      exact (h.sl (by rw [slotsSet_len]; exact h.ok.s) (by rw [slotsSet_len]; exact h.ok'.s) (slotsSet_m (by rw [h.ok.s, h.ok'.s]) (h.slot ht) x.k.toNat t.args.toNat)).setR knM_some x.r hr
    · cases hz
  rw [if_neg c13] at hz ⊢
  rw [if_neg c13]
  by_cases c15 : x.op = 15
  · rw [if_pos c15] at hz ⊢
    rw [if_pos c15]
    have hroom := (ereg _ hr).room
    split at hz
    · cases hz
    · rename_i hl
      rw [if_neg hl, if_neg (by omega)]; exact ⟨rfl, h⟩
  rw [if_neg c15, if_neg c15]; exact ⟨rfl, h⟩
theorem gm_after {x : Ins} {s s' : GSt} (h : GM s s') (ht : s.there = true) (hr : 0 ≤ x.r ∧ x.r < 10) (hn : x.op = 9 → 0 ≤ x.n ∧ x.n ≤ 600) {k : Int} (hk : 0 ≤ k) : GM (gAfter x s) (gAfter (bump k x) s') ∧ (gAfter x s).there = true := by
  by_cases c9 : x.op = 9
  · have ob : bump k x = ⟨x.op, x.r, x.s, x.k, x.to, if 600 < x.n + k then 600 else x.n + k⟩ := by unfold bump; rw [if_pos c9]
    rw [ob]
    unfold gAfter
    dsimp only
    rw [if_pos c9, if_pos c9]
    have hn := hn c9
    have he := h.reg ht x.r.toNat (by omega)
    have e1 : regAt s x.r = gReg s x.r.toNat := rfl
    have e2 : regAt s' x.r = gReg s' x.r.toNat := rfl
    rw [e1, e2]
    have q1 := he.room
    have q2 := he.lo
    have q3 := he.hi
    refine ⟨h.setR ?_ _ hr, ht⟩
    refine ⟨he.set, he.just, he.n0, ?_, ?_, ?_⟩
    · dsimp only; split <;> split <;> split <;> omega
    · dsimp only; split <;> omega
    · dsimp only; split <;> split <;> omega
  · have ob : bump k x = x := by unfold bump; rw [if_neg c9]
    rw [ob]
    unfold gAfter
    rw [if_neg c9, if_neg c9]; exact ⟨h, ht⟩
structure GML (n : Nat) (A B : List GSt) : Prop where
  a : A.length = n + 1
  b : B.length = n + 1
  m : ∀ j, j ≤ n → GM (A.getD j default) (B.getD j default)
theorem GML.set {n : Nat} {A B : List GSt} (h : GML n A B) {t : Nat} {x y : GSt} (hxy : GM x y) (ht : t ≤ n) : GML n (A.set t x) (B.set t y) :=
  ⟨by rw [List.length_set]; exact h.a, by rw [List.length_set]; exact h.b, fun j hj => by
    rw [getD_set_ _ _ _ _ _ (by rw [h.a]; omega), getD_set_ _ _ _ _ _ (by rw [h.b]; omega)]
    split
    · exact hxy
    · exact h.m j hj⟩
theorem bump_op (k : Int) (x : Ins) : (bump k x).op = x.op := by unfold bump; split <;> rfl
theorem bump_r (k : Int) (x : Ins) : (bump k x).r = x.r := by unfold bump; split <;> rfl
theorem bump_to (k : Int) (x : Ins) : (bump k x).to = x.to := by unfold bump; split <;> rfl
theorem gm_from {p p' : Prog} {k : Int} (hk : 0 ≤ k) (hc : p'.code = p.code.map (bump k)) (htabs : p'.tabs = p.tabs)
    (hi : ∀ i, i < p.code.length → InsP p.slots p.tabs (nth p.code i) ∧ 0 ≤ (nth p.code i).to ∧ (hasT (nth p.code i).op = true → (nth p.code i).to < (p.code.length : Int) - i - 1)) :
    ∀ m i A B, i + m = p.code.length → GML p.code.length A B → (gFrom p m i A).1 = 0 → (gFrom p' m i B).1 = 0
  | 0, _, _, _, _, _, _ => rfl
  | m + 1, i, A, B, him, h, hz => by
    have hil : i < p.code.length := by omega
    obtain ⟨hx, ht0, ht1⟩ := hi i hil
    have hA := h.m i (by omega)
    rw [gFrom] at hz ⊢
    cases hth : (A.getD i default).there
    · have e1 : gStep p i A = (0, A) := by unfold gStep; rw [if_pos hth]
      have e2 : gStep p' i B = (0, B) := by unfold gStep; rw [if_pos (hA.there ▸ hth)]
      rw [e1, if_neg (by simp)] at hz
      rw [e2, if_neg (by simp)]
      exact gm_from hk hc htabs hi m (i + 1) A B (by omega) h hz
    · have hn' : nth p'.code i = bump k (nth p.code i) := by
        rw [nth_lt _ _ hil, nth_lt _ _ (by rw [hc, List.length_map]; exact hil)]
        simp [hc]
      have e1 : gStep p i A = ((gDoes p.tabs (nth p.code i) (A.getD i default)).2, gPut (nth p.code i) i (gDoes p.tabs (nth p.code i) (A.getD i default)).1 A) := by
        unfold gStep; rw [if_neg (by rw [hth]; simp)]
      have e2 : gStep p' i B = ((gDoes p.tabs (bump k (nth p.code i)) (B.getD i default)).2, gPut (bump k (nth p.code i)) i (gDoes p.tabs (bump k (nth p.code i)) (B.getD i default)).1 B) := by
        unfold gStep; rw [if_neg (by rw [← hA.there, hth]; simp), hn', htabs]
      rw [e1] at hz
      rw [e2]
      dsimp only at hz ⊢
      have hn9 := hx.n9
      have hn0 := hx.n0
      generalize nth p.code i = x at hx ht0 ht1 hz hn9 hn0
      by_cases h0 : (gDoes p.tabs x (A.getD i default)).2 = 0
      · obtain ⟨q1, q2⟩ := gm_does hx hA hth h0 k
        rw [h0, if_neg (by simp)] at hz
        rw [q1, if_neg (by simp)]
        have hst : (gDoes p.tabs x (A.getD i default)).1.there = true := by
          have e : ∀ (c : Prop) [Decidable c] (a b : GSt × Int), a.1.there = true → b.1.there = true → (if c then a else b).1.there = true := fun c _ a b ha hb => by split <;> assumption
          unfold gDoes gCall
          repeat' (first
            | exact hth
            | refine e _ _ _ ?_ ?_)
        generalize (gDoes p.tabs x (A.getD i default)).1 = s1 at q2 hst hz
        generalize (gDoes p.tabs (bump k x) (B.getD i default)).1 = s2 at q2
        refine gm_from hk hc htabs hi m (i + 1) _ _ (by omega) ?_ hz
        have hJ : gJump x.op = hasT x.op := by unfold gJump hasT; rw [decide_eq_decide]; omega
        unfold gPut
        rw [bump_op, bump_to]
        have h1 : GML p.code.length (if gJump x.op = true then A.set (i + 1 + x.to.toNat) (gJoin (A.getD (i + 1 + x.to.toNat) default) s1) else A) (if gJump x.op = true then B.set (i + 1 + x.to.toNat) (gJoin (B.getD (i + 1 + x.to.toNat) default) s2) else B) := by
          split
          · rename_i hT
            rw [hJ] at hT
            have := ht1 hT
            exact h.set (gm_join (h.m _ (by omega)) q2 hst).1 (by omega)
          · exact h
        generalize (if gJump x.op = true then A.set (i + 1 + x.to.toNat) (gJoin (A.getD (i + 1 + x.to.toNat) default) s1) else A) = A1 at h1
        generalize (if gJump x.op = true then B.set (i + 1 + x.to.toNat) (gJoin (B.getD (i + 1 + x.to.toNat) default) s2) else B) = B1 at h1
        dsimp only
        split
        · obtain ⟨r1, r2⟩ := gm_after q2 hst hx.r (fun h9 => ⟨hn0, hn9 h9⟩) hk
          exact h1.set (gm_join (h1.m _ (by omega)) r1 r2).1 (by omega)
        · exact h1
      · rw [if_pos h0] at hz; exact absurd hz h0
theorem insOk_bump {slots slots' k : Int} {tabs : List Shape} {x : Ins} (hs : slots ≤ slots') (h : insOk slots tabs x = true) : insOk slots' tabs (bump k x) = true := by
  unfold insOk at h ⊢
  simp only [Bool.and_eq_true] at h ⊢
  obtain ⟨⟨h1, h2⟩, h3⟩ := h
  refine ⟨⟨?_, ?_⟩, ?_⟩
  · unfold bump; split
    · rename_i c9; unfold formOk at h1 ⊢; simp [c9, hasN] at h1 ⊢; exact h1
    · exact h1
  · unfold bump; split
    · exact h2
    · exact h2
  · unfold bump; split
    · rename_i c9; unfold kindOk; simp [c9]; split <;> omega
    · unfold kindOk slotsOk at h3 ⊢
      repeat' split
      all_goals (simp_all; try omega)
theorem progF_bump {p p' : Prog} {k : Int} (hx : ∀ x ∈ p.code, x.wf) (hc : p'.code = p.code.map (bump k)) (htabs : p'.tabs = p.tabs) (hs : p.slots ≤ p'.slots) (hs2 : p'.slots ≤ 96) (h : (progF p).1 = 0) : (progF p').1 = 0 := by
  have hv := (progF_valid hx h).1
  have hl : p'.code.length = p.code.length := by rw [hc, List.length_map]
  have g1 : ¬ (p.slots < 0 ∨ 96 < p.slots) := by have := hv.slots; omega
  have g2 : ¬ (5 < p.tabs.length ∨ p.code.length = 0 ∨ 60000 < p.code.length) := by have := hv.tabs; have := hv.code; omega
  have g1' : ¬ (p'.slots < 0 ∨ 96 < p'.slots) := by have := hv.slots; omega
  have g2' : ¬ (5 < p'.tabs.length ∨ p'.code.length = 0 ∨ 60000 < p'.code.length) := by rw [htabs, hl]; exact g2
  have hn' : ∀ i, i < p.code.length → nth p'.code i = bump k (nth p.code i) := fun i hil => by
    rw [nth_lt _ _ hil, nth_lt _ _ (by rw [hl]; exact hil)]
    simp [hc]
  unfold progF at h ⊢
  rw [if_neg g1, if_neg g2] at h
  rw [if_neg g1', if_neg g2', htabs, hl]
  split at h
  · cases h
  · rename_i h3
    rw [if_neg h3]
    split at h
    · dsimp only at h; split at h <;> cases h
    · rename_i h4
      have h5 := firstN_all (insBad p.slots p.tabs p.code) p.code.length (by have := firstN_le (insBad p.slots p.tabs p.code) p.code.length; omega)
      have h6 : ¬ firstN (insBad p'.slots p.tabs p'.code) p.code.length < p.code.length := fun hlt => by
        have hb := firstN_at (insBad p'.slots p.tabs p'.code) p.code.length hlt
        generalize firstN (insBad p'.slots p.tabs p'.code) p.code.length = i at hlt hb
        have ha := h5 i hlt
        unfold insBad at ha hb
        rw [hn' i hlt, hl] at hb
        simp only [Bool.or_eq_false_iff, Bool.not_eq_false'] at ha
        rw [insOk_bump hs ha.1] at hb
        have : jumpBad p.code.length i (bump k (nth p.code i)) = jumpBad p.code.length i (nth p.code i) := by unfold jumpBad; rw [bump_op, bump_to]
        rw [this, ha.2] at hb
        cases hb
      rw [if_neg h6, hn' _ (by omega), bump_op]
      split
      · rfl
      · rename_i h7; rw [if_neg h7] at h; cases h
theorem gF_bump {p p' : Prog} {k : Int} (hk : 0 ≤ k) (hp : PWf p) (hc : p'.code = p.code.map (bump k)) (htabs : p'.tabs = p.tabs) (hs : p.slots ≤ p'.slots) (hs2 : p'.slots ≤ 96) (h : (gF p).1 = 0) : (gF p').1 = 0 := by
  unfold gF at h ⊢
  split at h
  · rename_i h0; exact absurd h h0
  · rename_i h0
    have h0 : (progF p).1 = 0 := by simpa using h0
    rw [if_neg (by rw [progF_bump hp.c hc htabs hs hs2 h0]; simp)]
    have hl : p'.code.length = p.code.length := by rw [hc, List.length_map]
    rw [hl]
    refine gm_from hk hc htabs (fun i hi => progF_ins_ok hp.c h0 i hi) _ 0 _ _ (by omega) ⟨by simp, by simp, fun j hj => ?_⟩ h
    cases j with
    | zero =>
      show GM gFirst gFirst
      refine ⟨rfl, ⟨rfl, rfl⟩, ⟨rfl, rfl⟩, fun _ r hr => ?_, fun _ j h => h⟩
      have : r = 0 ∨ r = 1 ∨ r = 2 ∨ r = 3 ∨ r = 4 ∨ r = 5 ∨ r = 6 ∨ r = 7 ∨ r = 8 ∨ r = 9 := by omega
      rcases this with rfl | rfl | rfl | rfl | rfl | rfl | rfl | rfl | rfl | rfl <;> exact ⟨fun h => h, (fun h => by cases h), (fun h => by cases h), Int.le_refl _, by decide, by decide⟩
    | succ j =>
      show GM ((List.replicate p.code.length gzero).getD j default) ((List.replicate p.code.length gzero).getD j default)
      rw [List.getD_eq_getElem?_getD, List.getElem?_replicate, if_pos (by omega)]
      exact ⟨rfl, ⟨rfl, rfl⟩, ⟨rfl, rfl⟩, (fun h => by cases h), (fun h => by cases h)⟩
end Go.Proofs.Ytfakdapglbgokaa

/-
  Package guard: what is let by stays so (GuardMore), in the plain machine and out of it. No condition.
-/
-- v2
namespace Go.Proofs.Ytfakdapglbgokaa
set_option linter.all false
open Go.RowKit
attribute [local simp] sops_nil sops_run sopsk_some sops_call sops_guard sopsg_yes sopsg_tf sopsg_ft sopsg_undef rg_true SOp.run SX.ev putd puts argS upds SOp.touch SSt.keep SSt.skip gets geth puth delh idOf SV.cells? setL fillS fillR sbin eq0 eq1 eqL rowOf qseq_n qseq_e qseq_r qblock_n qblock_r qblock_e qloop_e qloop_r take_map_len FrzOk pureV_int pureV_bool pureV_str pureV_nil pureV_nilsl pureV_view pureV_cp pureL_nil_ pureL_cons_ pureO_row pureO_cells frzS frzH frz frz1 frz0 SlotsM ObjsM ObjM rn ren ren1 ren0 co_self co_int co_own co_view co_nilsl co_agg co_tup CoL coll_self mergeH dels adds idsH okNames
def bumpI (k : Int) (code : List Ins) (i : Nat) : List Ins := (code.take i).map (bump k) ++ code.drop i
theorem bumpI_len (k : Int) {code : List Ins} {i : Nat} (hi : i ≤ code.length) : (bumpI k code i).length = code.length := by unfold bumpI; simp; omega
theorem bumpI_get (k : Int) {code : List Ins} {i : Nat} (hi : i < code.length) : (bumpI k code i)[i]? = some code[i] := by
  unfold bumpI
  rw [List.getElem?_append_right (by simp; omega), List.length_map, List.length_take, Nat.min_eq_left (by omega), Nat.sub_self, List.getElem?_drop]; simp [hi]
theorem bumpI_set (k : Int) {code : List Ins} {i : Nat} (hi : i < code.length) : (bumpI k code i).set i (bump k code[i]) = bumpI k code (i + 1) := by
  unfold bumpI
  have hl : ((code.take i).map (bump k)).length = i := by simp; omega
  rw [List.set_append_right _ _ (by omega), hl, Nat.sub_self, List.drop_eq_getElem_cons hi, List.set_cons_zero, List.take_succ_eq_append_getElem hi, List.map_append]
  simp
theorem bumpI_end (k : Int) (code : List Ins) : bumpI k code code.length = code.map (bump k) := by unfold bumpI; simp
theorem bumpI_none (k : Int) {code : List Ins} {i : Nat} (hi : i < code.length) (h : code[i].op ≠ 9) : bumpI k code (i + 1) = bumpI k code i := by
  rw [← bumpI_set k hi]
  have : bump k code[i] = code[i] := by unfold bump; rw [if_neg h]
  rw [this]
  have h2 := bumpI_get k hi
  have hlt : i < (bumpI k code i).length := by rw [bumpI_len k (by omega)]; exact hi
  rw [List.getElem?_eq_getElem hlt] at h2
  rw [← Option.some.inj h2, List.set_getElem_self]
theorem gmore_s (p : Prog) (hp : PWf p) (hsl : Fits .i64 p.slots) (by_ : Int) : SCalls Try.prog 12 [.agg (pcv p), .int .i64 by_] [] 0 (.bool true) [] := by
  refine scalls_of (N := 60) Try.func12 rfl rfl (by kernel_rfl) comp_c_gmore (by simp) ⟨rfl, rfl, trivial⟩ trivial ?_
  rintro X hP hN hm
  have fin : ∀ hp nx, QFun X [ResultVar.tmp 4] 0 (.bool true) [] .ret ⟨[(4, .bool true)], hp, nx⟩ := fun hp nx => by
    refine qfun_done (s' := ⟨[(4, .bool true)], [], 0⟩) ?_ ?_ trivial (by simp)
    repeat' (first
        | ((with_reducible refine wk_self [] hm ?_ ?_ ?_ ?_) <;> (try simp only [SSt.turn, setSs, setS, putHs, puth, Nat.reduceEqDiff, reduceIte, Nat.reduceAdd]))
        | (with_reducible exact slotsM_nil)
        | (with_reducible refine slotsM_cons ?_ ?_)
        | (with_reducible exact objsM_nil)
        | (with_reducible refine objsM_cells (cs := ?_) ?_ ?_ ?_)
        | (with_reducible refine objsM_rowm (es := ?_) ?_ ?_ ?_)
        | (with_reducible refine objsM_rowc (es := ?_) ?_ ?_ ?_)
        | (with_reducible refine objsM_abs ?_ ?_)
        | (with_reducible exact subH_nil)
        | (with_reducible refine subH_cons ?_ ?_)
        | ((with_reducible show geth _ _ = some _); (focus rfl))
        | ((with_reducible show (_ : List (List SV)) = _); (focus (first | (with_reducible rfl) | rfl | (simp; done))))
        | ((with_reducible show okNames _ _ _ _ = true); (focus rfl))
        | ((with_reducible show (_ : Nat) ≤ _); (focus (first | omega | (simp; done))))
        | ((with_reducible show (_ : Nat) < _); (focus omega))
        | (refine co_wrap ⟨?_, ?_⟩ ?_ <;> (focus omega))
        | (with_reducible exact Co.refl _)
        | (with_reducible exact CoL.refl _)
        | (with_reducible exact CoLL.refl _)
        | (exact Co.refl _)
        | (exact CoL.refl _)
        | (exact CoLL.refl _)
        | (refine co_own ?_; (focus omega))
        | (refine co_int ?_; (focus omega))
        | (with_reducible refine coL_cons ?_ ?_)
        | (with_reducible exact coL_nilm)
        | (with_reducible refine coL_consm ?_ ?_))
    simp -implicitDefEqProofs [hP, resOf, resL, resV, one_]
  have hgr := fun q => pgreat_s p hp q
  have hck := fun q => call_gcheck p hp q
  have hown := fun h1 h2 q => call_ownp p h1 h2 q
  unfold c_gmore
  cases hg : greatB p
  rotate_left
  · rw [hg] at hgr
    obtain ⟨slots, tabs, code⟩ := p
    simp only [pcv] at hgr
    repeat' (first
        | (with_reducible refine swp_seq ?_)
        | ((with_reducible refine swp_reg ?_); (try rw [hP]); simp -implicitDefEqProofs [pcv, *])
        | ((with_reducible refine swp_regd (by rw [hP]; exact mixed) ?_); (try rw [hP]); simp -implicitDefEqProofs [pcv, *])
        | ((with_reducible refine swp_skip ?_); (try simp -implicitDefEqProofs [pcv, *]))
        | ((with_reducible refine swp_exit ?_); (try simp -implicitDefEqProofs [pcv, *]))
        | ((with_reducible refine swp_ret ?_); (try simp only [qseq_r, qblock_r, qloop_r]))
        | ((with_reducible refine swp_cond rfl (fun h => ?_) (fun h => ?_)) <;> have h' := h <;> (try simp at h') <;> (try subst h'))
        | ((with_reducible refine sopsg_cases (fun h => ?_) (fun h => ?_)) <;> have h' := h <;> (try simp at h') <;> (try subst h') <;> simp -implicitDefEqProofs [pcv, *])
        | ((with_reducible refine draw_ok ?_ ?_); (focus rfl))
        | ((with_reducible refine sopsk_rg ?_ ?_); (first | omega | (unfold maxLen; omega)); simp -implicitDefEqProofs [pcv, *])
        | (with_reducible refine swp_block1 ?_)
        | (with_reducible refine swp_block2 ?_)
        | ((with_reducible refine wk_self [] hm ?_ ?_ ?_ ?_) <;> (try simp only [SSt.turn, setSs, setS, putHs, puth, Nat.reduceEqDiff, reduceIte, Nat.reduceAdd]))
        | (with_reducible exact slotsM_nil)
        | (with_reducible refine slotsM_cons ?_ ?_)
        | (with_reducible exact objsM_nil)
        | (with_reducible refine objsM_cells (cs := ?_) ?_ ?_ ?_)
        | (with_reducible refine objsM_rowm (es := ?_) ?_ ?_ ?_)
        | (with_reducible refine objsM_rowc (es := ?_) ?_ ?_ ?_)
        | (with_reducible refine objsM_abs ?_ ?_)
        | (with_reducible exact subH_nil)
        | (with_reducible refine subH_cons ?_ ?_)
        | ((with_reducible show geth _ _ = some _); (focus rfl))
        | ((with_reducible show (_ : List (List SV)) = _); (focus (first | (with_reducible rfl) | rfl | (simp; done))))
        | ((with_reducible show okNames _ _ _ _ = true); (focus rfl))
        | ((with_reducible show (_ : Nat) ≤ _); (focus (first | omega | (simp; done))))
        | ((with_reducible show (_ : Nat) < _); (focus omega))
        | (refine co_wrap ⟨?_, ?_⟩ ?_ <;> (focus omega))
        | (with_reducible exact Co.refl _)
        | (with_reducible exact CoL.refl _)
        | (with_reducible exact CoLL.refl _)
        | (exact Co.refl _)
        | (exact CoL.refl _)
        | (exact CoLL.refl _)
        | (refine co_own ?_; (focus omega))
        | (refine co_int ?_; (focus omega))
        | (with_reducible refine coL_cons ?_ ?_)
        | (with_reducible exact coL_nilm)
        | (with_reducible refine coL_consm ?_ ?_)
        | (refine call_q (call_gbegun _) ?_; simp -implicitDefEqProofs [pcv, *])
        | (refine call_q (hgr _) ?_; simp -implicitDefEqProofs [pcv, *])
        | (exact fin _ _))
  rw [hg] at hgr
  by_cases h0 : (gF p).1 = 0
  rotate_left
  · obtain ⟨slots, tabs, code⟩ := p
    generalize gF ⟨slots, tabs, code⟩ = e at hck h0
    simp only [pcv, faultV] at hgr hck
    repeat' (first
        | (exact absurd (by assumption) h0)
        | (with_reducible refine swp_seq ?_)
        | ((with_reducible refine swp_reg ?_); (try rw [hP]); simp -implicitDefEqProofs [pcv, *])
        | ((with_reducible refine swp_regd (by rw [hP]; exact mixed) ?_); (try rw [hP]); simp -implicitDefEqProofs [pcv, *])
        | ((with_reducible refine swp_skip ?_); (try simp -implicitDefEqProofs [pcv, *]))
        | ((with_reducible refine swp_exit ?_); (try simp -implicitDefEqProofs [pcv, *]))
        | ((with_reducible refine swp_ret ?_); (try simp only [qseq_r, qblock_r, qloop_r]))
        | ((with_reducible refine swp_cond rfl (fun h => ?_) (fun h => ?_)) <;> have h' := h <;> (try simp at h') <;> (try subst h'))
        | ((with_reducible refine sopsg_cases (fun h => ?_) (fun h => ?_)) <;> have h' := h <;> (try simp at h') <;> (try subst h') <;> simp -implicitDefEqProofs [pcv, *])
        | ((with_reducible refine draw_ok ?_ ?_); (focus rfl))
        | ((with_reducible refine sopsk_rg ?_ ?_); (first | omega | (unfold maxLen; omega)); simp -implicitDefEqProofs [pcv, *])
        | (with_reducible refine swp_block1 ?_)
        | (with_reducible refine swp_block2 ?_)
        | ((with_reducible refine wk_self [] hm ?_ ?_ ?_ ?_) <;> (try simp only [SSt.turn, setSs, setS, putHs, puth, Nat.reduceEqDiff, reduceIte, Nat.reduceAdd]))
        | (with_reducible exact slotsM_nil)
        | (with_reducible refine slotsM_cons ?_ ?_)
        | (with_reducible exact objsM_nil)
        | (with_reducible refine objsM_cells (cs := ?_) ?_ ?_ ?_)
        | (with_reducible refine objsM_rowm (es := ?_) ?_ ?_ ?_)
        | (with_reducible refine objsM_rowc (es := ?_) ?_ ?_ ?_)
        | (with_reducible refine objsM_abs ?_ ?_)
        | (with_reducible exact subH_nil)
        | (with_reducible refine subH_cons ?_ ?_)
        | ((with_reducible show geth _ _ = some _); (focus rfl))
        | ((with_reducible show (_ : List (List SV)) = _); (focus (first | (with_reducible rfl) | rfl | (simp; done))))
        | ((with_reducible show okNames _ _ _ _ = true); (focus rfl))
        | ((with_reducible show (_ : Nat) ≤ _); (focus (first | omega | (simp; done))))
        | ((with_reducible show (_ : Nat) < _); (focus omega))
        | (refine co_wrap ⟨?_, ?_⟩ ?_ <;> (focus omega))
        | (with_reducible exact Co.refl _)
        | (with_reducible exact CoL.refl _)
        | (with_reducible exact CoLL.refl _)
        | (exact Co.refl _)
        | (exact CoL.refl _)
        | (exact CoLL.refl _)
        | (refine co_own ?_; (focus omega))
        | (refine co_int ?_; (focus omega))
        | (with_reducible refine coL_cons ?_ ?_)
        | (with_reducible exact coL_nilm)
        | (with_reducible refine coL_consm ?_ ?_)
        | (refine call_q (call_gbegun _) ?_; simp -implicitDefEqProofs [pcv, *])
        | (refine call_q (hgr _) ?_; simp -implicitDefEqProofs [pcv, *])
        | (refine call_q (hck _) ?_; simp -implicitDefEqProofs [pcv, *])
        | (exact fin _ _))
  have hpf : (progF p).1 = 0 := by
    unfold gF at h0
    split at h0
    · rename_i h; exact absurd h0 h
    · rename_i h; simpa using h
  obtain ⟨hv, _⟩ := progF_valid hp.c hpf
  have hins := fun i hi => (progF_ins_ok hp.c hpf i hi).1
  have hslots := hv.slots
  obtain ⟨K, hK⟩ : ∃ K : Nat, (IntKind.u64.wrap by_).tmod 700 = K := ⟨((IntKind.u64.wrap by_).tmod 700).toNat, by
    have : 0 ≤ IntKind.u64.wrap by_ := by simp [IntKind.wrap, IntKind.bits, IntKind.signed]; omega
    have := Int.tmod_nonneg 700 this; omega⟩
  have hK7 : K < 700 := by have := Int.tmod_lt_of_pos (IntKind.u64.wrap by_) (show (0 : Int) < 700 by decide); omega
  have hw1 : IntKind.i64.wrap (K : Int) = K := IntWalk.i64_in _ ⟨by omega, by omega⟩
  unfold greatB at hg
  simp only [Bool.or_eq_false_iff, decide_eq_false_iff_not] at hg
  have hown := fun q => hown (by have := hg.1; omega) (by have := hg.2; omega) q
  obtain ⟨slots, tabs, code⟩ := p
  have hfin : ∀ S : Int, S = (if 96 < slots + K then 96 else slots + K) → (gF ⟨S, tabs, bumpI K code code.length⟩).1 = 0 := fun S hS => by
    rw [bumpI_end]
    exact gF_bump (k := K) (by omega) hp rfl rfl (by dsimp only at hslots ⊢; rw [hS]; split <;> omega) (by dsimp only; rw [hS]; split <;> omega) h0
  have hck := fun q' (hq' : PWf q') q => call_gcheck q' hq' q
  generalize hgf : gF ⟨slots, tabs, code⟩ = e at h0
  have hckp := fun q => call_gcheck ⟨slots, tabs, code⟩ hp q
  rw [hgf] at hckp
  simp only [pcv, faultV] at hgr hckp
  simp only [progOwn, progRows, RowsL, pcv] at hown
  obtain ⟨e1, e2⟩ := e
  dsimp only at h0
  subst h0
  replace hck := Lib.hid hck
  replace hfin := Lib.hid hfin
  replace hv := Lib.hid hv
  repeat' (first
      | (with_reducible refine swp_seq ?_)
      | ((with_reducible refine swp_reg ?_); (try rw [hP]); simp -implicitDefEqProofs [pcv, *])
      | ((with_reducible refine swp_regd (by rw [hP]; exact mixed) ?_); (try rw [hP]); simp -implicitDefEqProofs [pcv, *])
      | ((with_reducible refine swp_skip ?_); (try simp -implicitDefEqProofs [pcv, *]))
      | ((with_reducible refine swp_exit ?_); (try simp -implicitDefEqProofs [pcv, *]))
      | ((with_reducible refine swp_ret ?_); (try simp only [qseq_r, qblock_r, qloop_r]))
      | ((with_reducible refine swp_cond rfl (fun h => ?_) (fun h => ?_)) <;> have h' := h <;> (try simp at h') <;> (try subst h'))
      | ((with_reducible refine sopsg_cases (fun h => ?_) (fun h => ?_)) <;> have h' := h <;> (try simp at h') <;> (try subst h') <;> simp -implicitDefEqProofs [pcv, *])
      | ((with_reducible refine draw_ok ?_ ?_); (focus rfl))
      | ((with_reducible refine sopsk_rg ?_ ?_); (first | omega | (unfold maxLen; omega)); simp -implicitDefEqProofs [pcv, *])
      | (with_reducible refine swp_block1 ?_)
      | (with_reducible refine swp_block2 ?_)
      | ((with_reducible refine wk_self [] hm ?_ ?_ ?_ ?_) <;> (try simp only [SSt.turn, setSs, setS, putHs, puth, Nat.reduceEqDiff, reduceIte, Nat.reduceAdd]))
      | (with_reducible exact slotsM_nil)
      | (with_reducible refine slotsM_cons ?_ ?_)
      | (with_reducible exact objsM_nil)
      | (with_reducible refine objsM_cells (cs := ?_) ?_ ?_ ?_)
      | (with_reducible refine objsM_rowm (es := ?_) ?_ ?_ ?_)
      | (with_reducible refine objsM_rowc (es := ?_) ?_ ?_ ?_)
      | (with_reducible refine objsM_abs ?_ ?_)
      | (with_reducible exact subH_nil)
      | (with_reducible refine subH_cons ?_ ?_)
      | ((with_reducible show geth _ _ = some _); (focus rfl))
      | ((with_reducible show (_ : List (List SV)) = _); (focus (first | (with_reducible rfl) | rfl | (simp; done))))
      | ((with_reducible show okNames _ _ _ _ = true); (focus rfl))
      | ((with_reducible show (_ : Nat) ≤ _); (focus (first | omega | (simp; done))))
      | ((with_reducible show (_ : Nat) < _); (focus omega))
      | (refine co_wrap ⟨?_, ?_⟩ ?_ <;> (focus omega))
      | (with_reducible exact Co.refl _)
      | (with_reducible exact CoL.refl _)
      | (with_reducible exact CoLL.refl _)
      | (exact Co.refl _)
      | (exact CoL.refl _)
      | (exact CoLL.refl _)
      | (refine co_own ?_; (focus omega))
      | (refine co_int ?_; (focus omega))
      | (with_reducible refine coL_cons ?_ ?_)
      | (with_reducible exact coL_nilm)
      | (with_reducible refine coL_consm ?_ ?_)
      | (refine call_q (call_gbegun _) ?_; simp -implicitDefEqProofs [pcv, *])
      | (refine call_q (hgr _) ?_; simp -implicitDefEqProofs [pcv, *])
      | (refine call_q (hckp _) ?_; simp -implicitDefEqProofs [pcv, *])
      | (refine call_h (hown _) trivial ⟨rfl, rfl, trivial⟩ ?_; simp -implicitDefEqProofs [pcv, *]))
  refine swp_block (swp_for (fun s (i : Nat) => s.turn [(7, .int .i64 i)] [(37, .row 56 6 ((bumpI K code i).map icv))]) (fun i => i ≤ code.length) (fun i => code.length - i) 0 ?_ (by simp) ?_)
  · repeat' (first
      | ((with_reducible refine wk_self [] hm ?_ ?_ ?_ ?_) <;> (try simp only [SSt.turn, setSs, setS, putHs, puth, Nat.reduceEqDiff, reduceIte, Nat.reduceAdd]))
      | (with_reducible exact slotsM_nil)
      | (with_reducible refine slotsM_cons ?_ ?_)
      | (with_reducible exact objsM_nil)
      | (with_reducible refine objsM_cells (cs := ?_) ?_ ?_ ?_)
      | (with_reducible refine objsM_rowm (es := ?_) ?_ ?_ ?_)
      | (with_reducible refine objsM_rowc (es := ?_) ?_ ?_ ?_)
      | (with_reducible refine objsM_abs ?_ ?_)
      | (with_reducible exact subH_nil)
      | (with_reducible refine subH_cons ?_ ?_)
      | ((with_reducible show geth _ _ = some _); (focus rfl))
      | ((with_reducible show (_ : List (List SV)) = _); (focus (first | (with_reducible rfl) | rfl | (simp; done))))
      | ((with_reducible show okNames _ _ _ _ = true); (focus rfl))
      | ((with_reducible show (_ : Nat) ≤ _); (focus (first | omega | (simp; done))))
      | ((with_reducible show (_ : Nat) < _); (focus omega))
      | (refine co_wrap ⟨?_, ?_⟩ ?_ <;> (focus omega))
      | (with_reducible exact Co.refl _)
      | (with_reducible exact CoL.refl _)
      | (with_reducible exact CoLL.refl _)
      | (exact Co.refl _)
      | (exact CoL.refl _)
      | (exact CoLL.refl _)
      | (refine co_own ?_; (focus omega))
      | (refine co_int ?_; (focus omega))
      | (with_reducible refine coL_cons ?_ ?_)
      | (with_reducible exact coL_nilm)
      | (with_reducible refine coL_consm ?_ ?_))
  rintro J hJ i hi
  unfold c_gmore_l1
  simp only [SSt.turn, setSs, setS, putHs, puth, Nat.reduceEqDiff, reduceIte, Nat.reduceAdd]
  have hbl := bumpI_len K hi
  have hcl : code.length ≤ 60000 := hv.out.code.2
  rcases Nat.lt_or_ge i code.length with hlt | hge
  · have g1 := bumpI_get K hlt
    have g2 := bumpI_set K hlt
    have g3 := bumpI_none (K : Int) hlt
    have hx := hins i hlt
    rw [nth_lt _ _ hlt] at hx
    have g4 : ∀ h : i < (bumpI K code i).length, (bumpI K code i)[i]'h = code[i] := fun h => by rw [List.getElem?_eq_getElem h] at g1; exact Option.some.inj g1
    generalize code[i] = x at g1 g2 g3 g4 hx
    have hn9 := hx.n9
    have hn0 := hx.n0
    have z1 : (i : Int) < code.length := by omega
    replace g2 := Lib.hid g2
    replace g3 := Lib.hid g3
    replace hx := Lib.hid hx
    cases k9 : (x.op == 9)
    · have e9 : x.op ≠ 9 := by simpa using k9
      have g3 := Lib.hid (g3.out e9)
      repeat' (first
          | (with_reducible refine swp_seq ?_)
          | ((with_reducible refine swp_reg ?_); (try rw [hP]); simp -implicitDefEqProofs [icv, *])
          | ((with_reducible refine swp_regd (by rw [hP]; exact mixed) ?_); (try rw [hP]); simp -implicitDefEqProofs [icv, *])
          | ((with_reducible refine swp_skip ?_); (try simp -implicitDefEqProofs [icv, *]))
          | ((with_reducible refine swp_exit ?_); (try simp -implicitDefEqProofs [icv, *]))
          | ((with_reducible refine swp_ret ?_); (try simp only [qseq_r, qblock_r, qloop_r]))
          | ((with_reducible refine swp_cond rfl (fun h => ?_) (fun h => ?_)) <;> have h' := h <;> (try simp at h') <;> (try subst h'))
          | ((with_reducible refine sopsg_cases (fun h => ?_) (fun h => ?_)) <;> have h' := h <;> (try simp at h') <;> (try subst h') <;> simp -implicitDefEqProofs [icv, *])
          | ((with_reducible refine draw_ok ?_ ?_); (focus rfl))
          | ((with_reducible refine sopsk_rg ?_ ?_); (first | omega | (unfold maxLen; omega)); simp -implicitDefEqProofs [icv, *])
          | (with_reducible refine swp_block1 ?_)
          | (with_reducible refine swp_block2 ?_)
          | ((with_reducible refine wk_self [] hm ?_ ?_ ?_ ?_) <;> (try simp only [SSt.turn, setSs, setS, putHs, puth, Nat.reduceEqDiff, reduceIte, Nat.reduceAdd]))
          | (with_reducible exact slotsM_nil)
          | (with_reducible refine slotsM_cons ?_ ?_)
          | (with_reducible exact objsM_nil)
          | (with_reducible refine objsM_cells (cs := ?_) ?_ ?_ ?_)
          | (with_reducible refine objsM_rowm (es := ?_) ?_ ?_ ?_)
          | (with_reducible refine objsM_rowc (es := ?_) ?_ ?_ ?_)
          | (with_reducible refine objsM_abs ?_ ?_)
          | (with_reducible exact subH_nil)
          | (with_reducible refine subH_cons ?_ ?_)
          | ((with_reducible show geth _ _ = some _); (focus rfl))
          | ((with_reducible show (_ : List (List SV)) = _); (focus (first | (with_reducible rfl) | rfl | (simp; done))))
          | ((with_reducible show okNames _ _ _ _ = true); (focus rfl))
          | ((with_reducible show (_ : Nat) ≤ _); (focus (first | omega | (simp; done))))
          | ((with_reducible show (_ : Nat) < _); (focus omega))
          | (refine co_wrap ⟨?_, ?_⟩ ?_ <;> (focus omega))
          | (with_reducible exact Co.refl _)
          | (with_reducible exact CoL.refl _)
          | (with_reducible exact CoLL.refl _)
          | (exact Co.refl _)
          | (exact CoL.refl _)
          | (exact CoLL.refl _)
          | (refine co_own ?_; (focus omega))
          | (refine co_int ?_; (focus omega))
          | (with_reducible refine coL_cons ?_ ?_)
          | (with_reducible exact coL_nilm)
          | (with_reducible refine coL_consm ?_ ?_)
          | ((refine qfor_next hJ (i + 1) ?_ ?_ ?_; (with_reducible refine wk_self [] hm ?_ ?_ ?_ ?_) <;> (try simp only [SSt.turn, setSs, setS, putHs, puth, Nat.reduceEqDiff, reduceIte, Nat.reduceAdd])))
          | ((rw [g3.out])))
    · have e9 : x.op = 9 := by simpa using k9
      have n9 := hn9 e9
      have hw : IntKind.u64.wrap (x.n + K) = x.n + K := u64_in_ (by omega) (by omega)
      repeat' (first
          | (with_reducible refine swp_seq ?_)
          | ((with_reducible refine swp_reg ?_); (try rw [hP]); simp -implicitDefEqProofs [icv, *])
          | ((with_reducible refine swp_regd (by rw [hP]; exact mixed) ?_); (try rw [hP]); simp -implicitDefEqProofs [icv, *])
          | ((with_reducible refine swp_skip ?_); (try simp -implicitDefEqProofs [icv, *]))
          | ((with_reducible refine swp_exit ?_); (try simp -implicitDefEqProofs [icv, *]))
          | ((with_reducible refine swp_ret ?_); (try simp only [qseq_r, qblock_r, qloop_r]))
          | ((with_reducible refine swp_cond rfl (fun h => ?_) (fun h => ?_)) <;> have h' := h <;> (try simp at h') <;> (try subst h'))
          | ((with_reducible refine sopsg_cases (fun h => ?_) (fun h => ?_)) <;> have h' := h <;> (try simp at h') <;> (try subst h') <;> simp -implicitDefEqProofs [icv, *])
          | ((with_reducible refine draw_ok ?_ ?_); (focus rfl))
          | ((with_reducible refine sopsk_rg ?_ ?_); (first | omega | (unfold maxLen; omega)); simp -implicitDefEqProofs [icv, *])
          | (with_reducible refine swp_block1 ?_)
          | (with_reducible refine swp_block2 ?_)
          | ((with_reducible refine wk_self [] hm ?_ ?_ ?_ ?_) <;> (try simp only [SSt.turn, setSs, setS, putHs, puth, Nat.reduceEqDiff, reduceIte, Nat.reduceAdd]))
          | (with_reducible exact slotsM_nil)
          | (with_reducible refine slotsM_cons ?_ ?_)
          | (with_reducible exact objsM_nil)
          | (with_reducible refine objsM_cells (cs := ?_) ?_ ?_ ?_)
          | (with_reducible refine objsM_rowm (es := ?_) ?_ ?_ ?_)
          | (with_reducible refine objsM_rowc (es := ?_) ?_ ?_ ?_)
          | (with_reducible refine objsM_abs ?_ ?_)
          | (with_reducible exact subH_nil)
          | (with_reducible refine subH_cons ?_ ?_)
          | ((with_reducible show geth _ _ = some _); (focus rfl))
          | ((with_reducible show (_ : List (List SV)) = _); (focus (first | (with_reducible rfl) | rfl | (simp; done))))
          | ((with_reducible show okNames _ _ _ _ = true); (focus rfl))
          | ((with_reducible show (_ : Nat) ≤ _); (focus (first | omega | (simp; done))))
          | ((with_reducible show (_ : Nat) < _); (focus omega))
          | (refine co_wrap ⟨?_, ?_⟩ ?_ <;> (focus omega))
          | (with_reducible exact Co.refl _)
          | (with_reducible exact CoL.refl _)
          | (with_reducible exact CoLL.refl _)
          | (exact Co.refl _)
          | (exact CoL.refl _)
          | (exact CoLL.refl _)
          | (refine co_own ?_; (focus omega))
          | (refine co_int ?_; (focus omega))
          | (with_reducible refine coL_cons ?_ ?_)
          | (with_reducible exact coL_nilm)
          | (with_reducible refine coL_consm ?_ ?_)
          | ((refine qfor_next hJ (i + 1) ?_ ?_ ?_; (with_reducible refine wk_self [] hm ?_ ?_ ?_ ?_) <;> (try simp only [SSt.turn, setSs, setS, putHs, puth, Nat.reduceEqDiff, reduceIte, Nat.reduceAdd]))))
      rw [← g2.out, List.map_set]
      have : icv (bump K x) = [.int .i64 9, .int .i64 x.r, .int .i64 x.s, .int .i64 x.k, .int .i64 x.to, .int .u64 (if 600 < x.n + K then 600 else x.n + K)] := by unfold bump icv; rw [if_pos e9]; simp [e9]
      rw [this]
  · obtain rfl : i = code.length := by omega
    repeat' (first
        | ((with_reducible refine swp_stop (c := .seq (.reg false c_gmore_r16 [4]) .ret) ?_))
        | (with_reducible refine swp_seq ?_)
        | ((with_reducible refine swp_reg ?_); (try rw [hP]); simp -implicitDefEqProofs [pcv, *])
        | ((with_reducible refine swp_regd (by rw [hP]; exact mixed) ?_); (try rw [hP]); simp -implicitDefEqProofs [pcv, *])
        | ((with_reducible refine swp_skip ?_); (try simp -implicitDefEqProofs [pcv, *]))
        | ((with_reducible refine swp_exit ?_); (try simp -implicitDefEqProofs [pcv, *]))
        | ((with_reducible refine swp_ret ?_); (try simp only [qseq_r, qblock_r, qloop_r]))
        | ((with_reducible refine swp_cond rfl (fun h => ?_) (fun h => ?_)) <;> have h' := h <;> (try simp at h') <;> (try subst h'))
        | ((with_reducible refine sopsg_cases (fun h => ?_) (fun h => ?_)) <;> have h' := h <;> (try simp at h') <;> (try subst h') <;> simp -implicitDefEqProofs [pcv, *])
        | ((with_reducible refine draw_ok ?_ ?_); (focus rfl))
        | ((with_reducible refine sopsk_rg ?_ ?_); (first | omega | (unfold maxLen; omega)); simp -implicitDefEqProofs [pcv, *])
        | (with_reducible refine swp_block1 ?_)
        | (with_reducible refine swp_block2 ?_)
        | ((with_reducible refine wk_self [] hm ?_ ?_ ?_ ?_) <;> (try simp only [SSt.turn, setSs, setS, putHs, puth, Nat.reduceEqDiff, reduceIte, Nat.reduceAdd]))
        | (with_reducible exact slotsM_nil)
        | (with_reducible refine slotsM_cons ?_ ?_)
        | (with_reducible exact objsM_nil)
        | (with_reducible refine objsM_cells (cs := ?_) ?_ ?_ ?_)
        | (with_reducible refine objsM_rowm (es := ?_) ?_ ?_ ?_)
        | (with_reducible refine objsM_rowc (es := ?_) ?_ ?_ ?_)
        | (with_reducible refine objsM_abs ?_ ?_)
        | (with_reducible exact subH_nil)
        | (with_reducible refine subH_cons ?_ ?_)
        | ((with_reducible show geth _ _ = some _); (focus rfl))
        | ((with_reducible show (_ : List (List SV)) = _); (focus (first | (with_reducible rfl) | rfl | (simp; done))))
        | ((with_reducible show okNames _ _ _ _ = true); (focus rfl))
        | ((with_reducible show (_ : Nat) ≤ _); (focus (first | omega | (simp; done))))
        | ((with_reducible show (_ : Nat) < _); (focus omega))
        | (refine co_wrap ⟨?_, ?_⟩ ?_ <;> (focus omega))
        | (with_reducible exact Co.refl _)
        | (with_reducible exact CoL.refl _)
        | (with_reducible exact CoLL.refl _)
        | (exact Co.refl _)
        | (exact CoL.refl _)
        | (exact CoLL.refl _)
        | (refine co_own ?_; (focus omega))
        | (refine co_int ?_; (focus omega))
        | (with_reducible refine coL_cons ?_ ?_)
        | (with_reducible exact coL_nilm)
        | (with_reducible refine coL_consm ?_ ?_))
    constructor
    have hslots : 0 ≤ slots ∧ slots ≤ 96 := hslots
    have hw2 : IntKind.i64.wrap (slots + K) = slots + K := i64_add_ (by omega) (by omega)
    rw [hw2]
    generalize hS : (if 96 < slots + (K : Int) then 96 else slots + (K : Int)) = S
    have hgn := hfin.out S hS.symm
    have hcn := fun q => hck.out ⟨S, tabs, bumpI K code code.length⟩ ⟨hp.t, fun x hx => by
      rw [bumpI_end] at hx
      obtain ⟨y, hy, rfl⟩ := List.mem_map.1 hx
      have hw := hp.c y hy
      unfold bump
      split
      · obtain ⟨w1, w2, w3, w4, w5, w6⟩ := hw
        have h0 := w6.u64.1
        refine ⟨w1, w2, w3, w4, w5, Fits.of_u64 ?_ ?_⟩ <;> (dsimp only; split <;> omega)
      · exact hw⟩ q
    have hlen : ((bumpI K code code.length).map icv).length = code.length := by rw [List.length_map, hbl]
    have htk : ((bumpI K code code.length).map icv).take code.length = (bumpI K code code.length).map icv := List.take_of_length_le (by omega)
    generalize gF ⟨S, tabs, bumpI K code code.length⟩ = e at hgn hcn
    refine swp_frz [36, 37] ?_ ?_
    · simp only [FrzOk, geth, Nat.reduceEqDiff, reduceIte, pureR_O, and_true]
    simp only [pcv, faultV] at hcn
    generalize (bumpI K code code.length).map icv = row at hlen htk hcn ⊢
    simp -implicitDefEqProofs [htk, scv_take, hlen, Nat.le_refl]
    repeat' (first
        | (with_reducible refine swp_seq ?_)
        | ((with_reducible refine swp_reg ?_); (try rw [hP]); simp -implicitDefEqProofs [*])
        | ((with_reducible refine swp_regd (by rw [hP]; exact mixed) ?_); (try rw [hP]); simp -implicitDefEqProofs [*])
        | ((with_reducible refine swp_skip ?_); (try simp -implicitDefEqProofs [*]))
        | ((with_reducible refine swp_exit ?_); (try simp -implicitDefEqProofs [*]))
        | ((with_reducible refine swp_ret ?_); (try simp only [qseq_r, qblock_r, qloop_r]))
        | ((with_reducible refine swp_cond rfl (fun h => ?_) (fun h => ?_)) <;> have h' := h <;> (try simp at h') <;> (try subst h'))
        | ((with_reducible refine sopsg_cases (fun h => ?_) (fun h => ?_)) <;> have h' := h <;> (try simp at h') <;> (try subst h') <;> simp -implicitDefEqProofs [*])
        | ((with_reducible refine draw_ok ?_ ?_); (focus rfl))
        | ((with_reducible refine sopsk_rg ?_ ?_); (first | omega | (unfold maxLen; omega)); simp -implicitDefEqProofs [*])
        | (with_reducible refine swp_block1 ?_)
        | (with_reducible refine swp_block2 ?_)
        | ((with_reducible refine wk_self [] hm ?_ ?_ ?_ ?_) <;> (try simp only [SSt.turn, setSs, setS, putHs, puth, Nat.reduceEqDiff, reduceIte, Nat.reduceAdd]))
        | (with_reducible exact slotsM_nil)
        | (with_reducible refine slotsM_cons ?_ ?_)
        | (with_reducible exact objsM_nil)
        | (with_reducible refine objsM_cells (cs := ?_) ?_ ?_ ?_)
        | (with_reducible refine objsM_rowm (es := ?_) ?_ ?_ ?_)
        | (with_reducible refine objsM_rowc (es := ?_) ?_ ?_ ?_)
        | (with_reducible refine objsM_abs ?_ ?_)
        | (with_reducible exact subH_nil)
        | (with_reducible refine subH_cons ?_ ?_)
        | ((with_reducible show geth _ _ = some _); (focus rfl))
        | ((with_reducible show (_ : List (List SV)) = _); (focus (first | (with_reducible rfl) | rfl | (simp; done))))
        | ((with_reducible show okNames _ _ _ _ = true); (focus rfl))
        | ((with_reducible show (_ : Nat) ≤ _); (focus (first | omega | (simp; done))))
        | ((with_reducible show (_ : Nat) < _); (focus omega))
        | (refine co_wrap ⟨?_, ?_⟩ ?_ <;> (focus omega))
        | (with_reducible exact Co.refl _)
        | (with_reducible exact CoL.refl _)
        | (with_reducible exact CoLL.refl _)
        | (exact Co.refl _)
        | (exact CoL.refl _)
        | (exact CoLL.refl _)
        | (refine co_own ?_; (focus omega))
        | (refine co_int ?_; (focus omega))
        | (with_reducible refine coL_cons ?_ ?_)
        | (with_reducible exact coL_nilm)
        | (with_reducible refine coL_consm ?_ ?_)
        | (refine call_q (hcn _) ?_; simp -implicitDefEqProofs [*])
        | (exact fin _ _))
theorem GuardMore_law (slots : Int) (to_ co : Option Addr) (tn tc cn cc : Nat) (tabs : List Shape) (code : List Ins) (by_ : Int) (w : World)
    (hsl : Fits .i64 slots) (ht : RdL shapeLay NoA w to_ tn tc tabs) (hc : RdL insLay NoA w co cn cc code) (_ : Fits .i64 by_) :
    Calls Try.prog 12 #[.agg #[.int .i64 slots, .slice to_ tn tc, .slice co cn cc], .int .i64 by_] w fun e w' => e = .returned (.bool true) ∧ Below w.heap.size w w' :=
  law_of (vs := [.agg #[.int .i64 slots, .slice to_ tn tc, .slice co cn cc], .int .i64 by_]) (gmore_s ⟨slots, tabs, code⟩ (pwf_of slots ht hc) hsl by_) (Reps.cons (rep_pcv slots ht hc) (Reps.cons .int Reps.nil))
end Go.Proofs.Ytfakdapglbgokaa
