/-
  Bytes as programs, plain; there and back. No program in sight. No condition.
-/
import Derived.Test.YtfakdapglbgokaaWordQ
import Derived.Test.YtfakdapglbgokaaLay
namespace Go.Proofs.Ytfakdapglbgokaa
set_option linter.all false
open Go.RowKit

instance : One insLay := ⟨fun h u hu => by
  rw [h.1] at hu
  simp [Ins.cells] at hu
  rcases hu with rfl | rfl | rfl | rfl | rfl | rfl <;> rfl⟩
instance : One shapeLay := ⟨fun h u hu => by
  rw [h.1] at hu
  simp [Shape.cells] at hu
  rcases hu with rfl | rfl | rfl <;> rfl⟩
instance : Flat insLay := ⟨fun h => h⟩
instance : Flat shapeLay := ⟨fun h => h⟩

/-- The first m values of a function, as a list. -/
def mkL {α : Type} (f : Nat → α) (m : Nat) : List α := (List.range m).map f
theorem mkL_length {α : Type} (f : Nat → α) (m : Nat) : (mkL f m).length = m := by simp [mkL]
theorem nth_mkL {α : Type} [Inhabited α] (f : Nat → α) (m k : Nat) (h : k < m) : nth (mkL f m) k = f k := by simp [nth, mkL, List.getD, h]
theorem mkL_succ {α : Type} (f : Nat → α) (m : Nat) : mkL f (m + 1) = mkL f m ++ [f m] := by simp [mkL, List.range_succ]
theorem mkL_zero {α : Type} (f : Nat → α) : mkL f 0 = [] := rfl
theorem mkL_nth {α : Type} [Inhabited α] (xs : List α) : mkL (nth xs) xs.length = xs :=
  ext_nth (mkL_length _ _) fun i hi => by rw [mkL_length] at hi; rw [nth_mkL _ _ _ hi]

/-- The number of n bytes, the highest first. -/
def numAt (b : List Int) (o : Nat) : Nat → Int
  | 0 => 0
  | n + 1 => 256 * numAt b o n + el b (o + n)
theorem numAt_range {b : List Int} (h : AllFit .u8 b) (o n : Nat) : 0 ≤ numAt b o n ∧ numAt b o n + 1 ≤ 256 ^ n := by
  induction n with
  | zero => simp [numAt]
  | succ n ih =>
    have := h.el_u8 (o + n)
    simp only [numAt, Int.pow_succ]
    generalize (256 : Int) ^ n = p at *
    omega
def shapeAt (b : List Int) (o : Nat) : Shape := ⟨el b o, el b (o + 1), el b (o + 2)⟩
def insAt (b : List Int) (o : Nat) : Ins := ⟨el b o, el b (o + 1), el b (o + 2), el b (o + 3), numAt b (o + 4) 2, numAt b (o + 6) 8⟩
def nTabs (b : List Int) : Nat := (el b 4).toNat
def nCode (b : List Int) : Nat := (numAt b (5 + 3 * nTabs b) 2).toNat
def progAt (b : List Int) : Prog := ⟨el b 3, mkL (fun i => shapeAt b (5 + 3 * i)) (nTabs b), mkL (fun i => insAt b (7 + 3 * nTabs b + 14 * i)) (nCode b)⟩
def noProg : Prog := ⟨0, [], []⟩
/-- Where bytes are no program: the code, and where. -/
def decE (b : List Int) : Int × Int :=
  if b.length < 5 then (3, b.length)
  else if ¬ (el b 0 = 83 ∧ el b 1 = 87 ∧ el b 2 = 1) then (4, 0)
  else if b.length < 7 + 3 * nTabs b then (3, b.length)
  else if b.length < 7 + 3 * nTabs b + 14 * nCode b then (3, b.length)
  else if 7 + 3 * nTabs b + 14 * nCode b < b.length then (4, (7 + 3 * nTabs b + 14 * nCode b : Nat))
  else progF (progAt b)
def decV (b : List Int) : Prog := if (decE b).1 = 0 then progAt b else noProg

theorem mem_nth {α : Type} [Inhabited α] {xs : List α} {x : α} (h : x ∈ xs) : ∃ i, i < xs.length ∧ nth xs i = x := by
  obtain ⟨i, hi, rfl⟩ := List.getElem_of_mem h
  exact ⟨i, hi, nth_lt _ _ hi⟩
theorem shapeAt_wf {b : List Int} (h : AllFit .u8 b) (o : Nat) : (shapeAt b o).wf := by
  have h0 := h.el_u8 o; have h1 := h.el_u8 (o + 1); have h2 := h.el_u8 (o + 2)
  exact ⟨Fits.of_i64 (by simp only [shapeAt]; omega) (by simp only [shapeAt]; omega), Fits.of_i64 (by simp only [shapeAt]; omega) (by simp only [shapeAt]; omega), Fits.of_i64 (by simp only [shapeAt]; omega) (by simp only [shapeAt]; omega)⟩
theorem insAt_wf {b : List Int} (h : AllFit .u8 b) (o : Nat) : (insAt b o).wf := by
  have h0 := h.el_u8 o; have h1 := h.el_u8 (o + 1); have h2 := h.el_u8 (o + 2); have h3 := h.el_u8 (o + 3)
  have h4 := numAt_range h (o + 4) 2
  have h5 := numAt_range h (o + 6) 8
  simp only [Int.reducePow] at h4 h5
  refine ⟨Fits.of_i64 ?_ ?_, Fits.of_i64 ?_ ?_, Fits.of_i64 ?_ ?_, Fits.of_i64 ?_ ?_, Fits.of_i64 ?_ ?_, Fits.of_u64 ?_ ?_⟩ <;> (simp only [insAt]; omega)
theorem nTabs_le {b : List Int} (h : AllFit .u8 b) : nTabs b ≤ 255 := by have := h.el_u8 4; unfold nTabs; omega
theorem nCode_le {b : List Int} (h : AllFit .u8 b) : nCode b ≤ 65535 := by
  have := numAt_range h (5 + 3 * nTabs b) 2
  simp only [Int.reducePow] at this
  unfold nCode; omega

theorem el_tabsTo (tabs : List Shape) (k i j : Nat) (hi : i < k) (hj : j < 3) : el (tabsTo tabs k) (3 * i + j) = el (shapeBytes (nth tabs i)) j := by
  induction k with
  | zero => omega
  | succ k ih =>
    simp only [tabsTo]
    rw [el_append, tabsTo_length]
    by_cases h : i < k
    · rw [if_pos (by omega), ih h]
    · obtain rfl : i = k := by omega
      rw [if_neg (by omega)]
      congr 1; omega
theorem el_codeTo (code : List Ins) (k i j : Nat) (hi : i < k) (hj : j < 14) : el (codeTo code k) (14 * i + j) = el (insBytes (nth code i)) j := by
  induction k with
  | zero => omega
  | succ k ih =>
    simp only [codeTo]
    rw [el_append, codeTo_length]
    by_cases h : i < k
    · rw [if_pos (by omega), ih h]
    · obtain rfl : i = k := by omega
      rw [if_neg (by omega)]
      congr 1; omega
/-- The bytes of a program, each by its place. -/
theorem el_prog_head (p : Prog) (i : Nat) (hi : i < 5) : el (progBytes p) i = el [83, 87, 1, p.slots, (p.tabs.length : Int)] i := by
  unfold progBytes
  rw [el_append, if_pos (by simp only [List.length_append, tabsTo_length, List.length_cons, List.length_nil]; omega), el_append, if_pos (by simp only [List.length_append, tabsTo_length, List.length_cons, List.length_nil]; omega), el_append, if_pos (by simpa using hi)]
theorem el_prog_tab (p : Prog) (i j : Nat) (hi : i < p.tabs.length) (hj : j < 3) : el (progBytes p) (5 + 3 * i + j) = el (shapeBytes (nth p.tabs i)) j := by
  unfold progBytes
  rw [el_append, if_pos (by simp only [List.length_append, tabsTo_length, List.length_cons, List.length_nil]; omega), el_append, if_pos (by simp only [List.length_append, tabsTo_length, List.length_cons, List.length_nil]; omega), el_append, if_neg (by simp only [List.length_cons, List.length_nil]; omega)]
  rw [show 5 + 3 * i + j - [83, 87, 1, p.slots, (p.tabs.length : Int)].length = 3 * i + j by simp only [List.length_cons, List.length_nil]; omega]
  exact el_tabsTo _ _ _ _ hi hj
theorem el_prog_n (p : Prog) (j : Nat) (hj : j < 2) : el (progBytes p) (5 + 3 * p.tabs.length + j) = el [(p.code.length : Int) / 256, (p.code.length : Int) % 256] j := by
  unfold progBytes
  rw [el_append, if_pos (by simp only [List.length_append, tabsTo_length, List.length_cons, List.length_nil]; omega), el_append, if_neg (by simp only [List.length_append, tabsTo_length, List.length_cons, List.length_nil]; omega)]
  congr 1
  simp only [List.length_append, tabsTo_length, List.length_cons, List.length_nil]; omega
theorem el_prog_ins (p : Prog) (i j : Nat) (hi : i < p.code.length) (hj : j < 14) : el (progBytes p) (7 + 3 * p.tabs.length + 14 * i + j) = el (insBytes (nth p.code i)) j := by
  unfold progBytes
  rw [el_append, if_neg (by simp only [List.length_append, tabsTo_length, List.length_cons, List.length_nil]; omega)]
  rw [show 7 + 3 * p.tabs.length + 14 * i + j - (([83, 87, 1, p.slots, (p.tabs.length : Int)] ++ tabsTo p.tabs p.tabs.length) ++ [(p.code.length : Int) / 256, (p.code.length : Int) % 256]).length = 14 * i + j by simp only [List.length_append, tabsTo_length, List.length_cons, List.length_nil]; omega]
  exact el_codeTo _ _ _ _ hi hj

theorem numAt_congr (b c : List Int) (o n : Nat) (h : ∀ i, i < n → el b (o + i) = el c (o + i)) : numAt b o n = numAt c o n := by
  induction n with
  | zero => rfl
  | succ n ih => simp only [numAt]; rw [ih fun i hi => h i (by omega), h n (by omega)]
theorem num8 (b : List Int) (o : Nat) (x : Int) (hx : 0 ≤ x ∧ x ≤ 18446744073709551615) (h : ∀ i, i < 8 → el b (o + i) = el (numBytes x) i) : numAt b o 8 = x := by
  simp only [numAt]
  rw [h 0 (by omega), h 1 (by omega), h 2 (by omega), h 3 (by omega), h 4 (by omega), h 5 (by omega), h 6 (by omega), h 7 (by omega)]
  simp only [numBytes, el, List.getD_cons_succ, List.getD_cons_zero]
  omega

/-- Bytes that begin as a program's. -/
theorem begins_as {p : Prog} (hv : Valid p) (hx : ∀ x ∈ p.code, x.wf) {b : List Int} (h : ∀ i, i < (progBytes p).length → el b i = el (progBytes p) i) (hl : (progBytes p).length ≤ b.length) : nTabs b = p.tabs.length ∧ nCode b = p.code.length ∧ progAt b = p ∧ el b 0 = 83 ∧ el b 1 = 87 ∧ el b 2 = 1 := by
  have hlen := progBytes_length p
  have e0 := (h 0 (by omega)).trans (el_prog_head p 0 (by omega))
  have e1 := (h 1 (by omega)).trans (el_prog_head p 1 (by omega))
  have e2 := (h 2 (by omega)).trans (el_prog_head p 2 (by omega))
  have e3 := (h 3 (by omega)).trans (el_prog_head p 3 (by omega))
  have e4 := (h 4 (by omega)).trans (el_prog_head p 4 (by omega))
  simp only [el, List.getD_cons_succ, List.getD_cons_zero] at e0 e1 e2 e3 e4
  have hT : nTabs b = p.tabs.length := by unfold nTabs el; rw [show b.getD 4 0 = (p.tabs.length : Int) from e4]; omega
  have f0 := (h (5 + 3 * p.tabs.length + 0) (by omega)).trans (el_prog_n p 0 (by omega))
  have f1 := (h (5 + 3 * p.tabs.length + 1) (by omega)).trans (el_prog_n p 1 (by omega))
  have hC : nCode b = p.code.length := by
    unfold nCode
    rw [hT]
    simp only [numAt]
    rw [f0, f1]
    simp only [el, List.getD_cons_succ, List.getD_cons_zero]
    omega
  refine ⟨hT, hC, ?_, e0, e1, e2⟩
  have hc6 := hv.code
  obtain ⟨slots, tabs, code⟩ := p
  simp only at *
  unfold progAt
  rw [hT, hC]
  have t1 : mkL (fun i => shapeAt b (5 + 3 * i)) tabs.length = tabs := by
    refine ext_nth (mkL_length _ _) fun i hi => ?_
    rw [mkL_length] at hi
    rw [nth_mkL _ _ _ hi]
    have g := fun j (hj : j < 3) => (h (5 + 3 * i + j) (by omega)).trans (el_prog_tab ⟨slots, tabs, code⟩ i j hi hj)
    have g0 := g 0 (by omega); have g1 := g 1 (by omega); have g2 := g 2 (by omega)
    simp only [shapeBytes, el, List.getD_cons_succ, List.getD_cons_zero, Nat.add_zero] at g0 g1 g2
    unfold shapeAt el
    rw [g0, g1, g2]
  have t2 : mkL (fun i => insAt b (7 + 3 * tabs.length + 14 * i)) code.length = code := by
    refine ext_nth (mkL_length _ _) fun i hi => ?_
    rw [mkL_length] at hi
    rw [nth_mkL _ _ _ hi]
    have g := fun j (hj : j < 14) => (h (7 + 3 * tabs.length + 14 * i + j) (by omega)).trans (el_prog_ins ⟨slots, tabs, code⟩ i j hi hj)
    have hsm := hv.ins i hi
    have hn := (hx (nth code i) (by rw [nth_lt _ _ hi]; exact List.getElem_mem _)).2.2.2.2.2.u64
    have hto := hsm.to
    simp only at hto
    generalize nth code i = x at *
    generalize 7 + 3 * tabs.length + 14 * i = o at *
    have q8 : numAt b (o + 6) 8 = x.n := num8 b (o + 6) x.n hn fun j hj => by
      rw [show o + 6 + j = o + (6 + j) by omega, g (6 + j) (by omega)]
      simp only [insBytes]
      rw [show 6 + j = [x.op, x.r, x.s, x.k, x.to / 256, x.to % 256].length + j from rfl, el_append_right]
    have g0 := g 0 (by omega); have g1 := g 1 (by omega); have g2 := g 2 (by omega); have g3 := g 3 (by omega); have g4 := g 4 (by omega); have g5 := g 5 (by omega)
    simp only [insBytes, el, List.cons_append, List.getD_cons_succ, List.getD_cons_zero, Nat.add_zero] at g0 g1 g2 g3 g4 g5
    have q2 : numAt b (o + 4) 2 = x.to := by
      simp only [numAt, el, Nat.add_zero]
      rw [show o + 4 + 1 = o + 5 by omega, g4, g5]
      omega
    unfold insAt
    rw [q8, q2]
    simp only [el]
    rw [g0, g1, g2, g3]
  rw [t1, t2]
  unfold el
  rw [e3]

/-- What was encoded is decoded as it was. -/
theorem dec_enc {p : Prog} (hx : ∀ x ∈ p.code, x.wf) (h : (progF p).1 = 0) : decE (progBytes p) = (0, 0) ∧ decV (progBytes p) = p := by
  obtain ⟨hv, h2⟩ := progF_valid hx h
  obtain ⟨b1, b2, b3, b4, b5, b6⟩ := begins_as hv hx (b := progBytes p) (fun _ _ => rfl) (Nat.le_refl _)
  have hl := progBytes_length p
  have e : decE (progBytes p) = (0, 0) := by
    unfold decE
    rw [if_neg (by omega), if_neg (by simp [b4, b5, b6]), b1, b2, if_neg (by omega), if_neg (by omega), if_neg (by omega), b3]
    exact Prod.ext h h2
  refine ⟨e, ?_⟩
  unfold decV
  rw [e, b3]; rfl

theorem numBytes_at {b : List Int} (hb : AllFit .u8 b) (o : Nat) : numBytes (numAt b o 8) = [el b o, el b (o + 1), el b (o + 2), el b (o + 3), el b (o + 4), el b (o + 5), el b (o + 6), el b (o + 7)] := by
  have h0 := hb.el_u8 o; have h1 := hb.el_u8 (o + 1); have h2 := hb.el_u8 (o + 2); have h3 := hb.el_u8 (o + 3); have h4 := hb.el_u8 (o + 4); have h5 := hb.el_u8 (o + 5); have h6 := hb.el_u8 (o + 6); have h7 := hb.el_u8 (o + 7)
  simp only [numAt, numBytes, Nat.add_zero]
  generalize el b o = a0 at *
  generalize el b (o + 1) = a1 at *
  generalize el b (o + 2) = a2 at *
  generalize el b (o + 3) = a3 at *
  generalize el b (o + 4) = a4 at *
  generalize el b (o + 5) = a5 at *
  generalize el b (o + 6) = a6 at *
  generalize el b (o + 7) = a7 at *
  simp only [List.cons.injEq, and_true]
  refine ⟨?_, ?_, ?_, ?_, ?_, ?_, ?_, ?_⟩ <;> omega

theorem el_shapeAt (b : List Int) (o j : Nat) (hj : j < 3) : el (shapeBytes (shapeAt b o)) j = el b (o + j) := by
  match j, hj with
  | 0, _ => rfl
  | 1, _ => rfl
  | 2, _ => rfl
theorem el_insAt {b : List Int} (hb : AllFit .u8 b) (o j : Nat) (hj14 : j < 14) : el (insBytes (insAt b o)) j = el b (o + j) := by
  have t0 := hb.el_u8 (o + 4)
  have t1 := hb.el_u8 (o + 4 + 1)
  have hto : numAt b (o + 4) 2 = 256 * el b (o + 4) + el b (o + 4 + 1) := by simp only [numAt, Nat.add_zero]; omega
  have h14 : insBytes (insAt b o) = [el b o, el b (o + 1), el b (o + 2), el b (o + 3), el b (o + 4), el b (o + 4 + 1), el b (o + 6), el b (o + 7), el b (o + 8), el b (o + 9), el b (o + 10), el b (o + 11), el b (o + 12), el b (o + 13)] := by
    unfold insBytes insAt
    simp only [numBytes_at hb, hto]
    rw [show (256 * el b (o + 4) + el b (o + 4 + 1)) / 256 = el b (o + 4) by omega, show (256 * el b (o + 4) + el b (o + 4 + 1)) % 256 = el b (o + 4 + 1) by omega]
    rfl
  rw [h14]
  match j, hj14 with
  | 0, _ => rfl
  | 1, _ => rfl
  | 2, _ => rfl
  | 3, _ => rfl
  | 4, _ => rfl
  | 5, _ => rfl
  | 6, _ => rfl
  | 7, _ => rfl
  | 8, _ => rfl
  | 9, _ => rfl
  | 10, _ => rfl
  | 11, _ => rfl
  | 12, _ => rfl
  | 13, _ => rfl
/-- What is decoded is encoded to the same bytes. -/
theorem enc_dec {b : List Int} (hb : AllFit .u8 b) (h : (decE b).1 = 0) : decE b = (0, 0) ∧ progF (progAt b) = (0, 0) ∧ progBytes (progAt b) = b := by
  unfold decE at h ⊢
  by_cases h1 : b.length < 5
  · rw [if_pos h1] at h; cases h
  rw [if_neg h1] at h ⊢
  by_cases h2 : ¬ (el b 0 = 83 ∧ el b 1 = 87 ∧ el b 2 = 1)
  · rw [if_pos h2] at h; cases h
  rw [if_neg h2] at h ⊢
  by_cases h3 : b.length < 7 + 3 * nTabs b
  · rw [if_pos h3] at h; cases h
  rw [if_neg h3] at h ⊢
  by_cases h4 : b.length < 7 + 3 * nTabs b + 14 * nCode b
  · rw [if_pos h4] at h; cases h
  rw [if_neg h4] at h ⊢
  by_cases h5 : 7 + 3 * nTabs b + 14 * nCode b < b.length
  · rw [if_pos h5] at h; cases h
  rw [if_neg h5] at h ⊢
  have hwf : ∀ x ∈ (progAt b).code, x.wf := fun x hx => by
    obtain ⟨i, hi, rfl⟩ := mem_nth hx
    simp only [progAt, mkL_length] at hi
    simp only [progAt]
    rw [nth_mkL _ _ _ hi]
    exact insAt_wf hb _
  obtain ⟨hv, h6⟩ := progF_valid hwf h
  have hp : progF (progAt b) = (0, 0) := Prod.ext h h6
  refine ⟨hp, hp, ?_⟩
  simp only [Classical.not_not] at h2
  have ht : (progAt b).tabs.length = nTabs b := mkL_length _ _
  have hc : (progAt b).code.length = nCode b := mkL_length _ _
  have hlen := progBytes_length (progAt b)
  rw [ht, hc] at hlen
  have e4 := hb.el_u8 4
  have hT4 : ((nTabs b : Nat) : Int) = el b 4 := by unfold nTabs; omega
  refine ext_el (by omega) fun i hi => ?_
  by_cases g1 : i < 5
  · rw [el_prog_head _ i g1]
    match i, g1 with
    | 0, _ => exact h2.1.symm
    | 1, _ => exact h2.2.1.symm
    | 2, _ => exact h2.2.2.symm
    | 3, _ => rfl
    | 4, _ => show ((progAt b).tabs.length : Int) = _; rw [ht]; exact hT4
  by_cases g2 : i < 5 + 3 * nTabs b
  · have := el_prog_tab (progAt b) ((i - 5) / 3) ((i - 5) % 3) (by rw [ht]; omega) (by omega)
    rw [show 5 + 3 * ((i - 5) / 3) + (i - 5) % 3 = i by omega] at this
    rw [this]
    have hn : nth (progAt b).tabs ((i - 5) / 3) = shapeAt b (5 + 3 * ((i - 5) / 3)) := nth_mkL _ _ _ (by omega)
    rw [hn, el_shapeAt _ _ _ (by omega)]
    congr 1; omega
  by_cases g3 : i < 7 + 3 * nTabs b
  · have := el_prog_n (progAt b) (i - 5 - 3 * nTabs b) (by omega)
    rw [ht, hc, show 5 + 3 * nTabs b + (i - 5 - 3 * nTabs b) = i by omega] at this
    rw [this]
    have q0 := hb.el_u8 (5 + 3 * nTabs b)
    have q1 := hb.el_u8 (5 + 3 * nTabs b + 1)
    have hC : ((nCode b : Nat) : Int) = 256 * el b (5 + 3 * nTabs b) + el b (5 + 3 * nTabs b + 1) := by unfold nCode; simp only [numAt, Nat.add_zero]; omega
    have hi2 : i = 5 + 3 * nTabs b ∨ i = 5 + 3 * nTabs b + 1 := by omega
    rw [hC]
    rcases hi2 with rfl | rfl
    · rw [show 5 + 3 * nTabs b - 5 - 3 * nTabs b = 0 by omega]
      simp only [el, List.getD_cons_zero] at *
      omega
    · rw [show 5 + 3 * nTabs b + 1 - 5 - 3 * nTabs b = 1 by omega]
      simp only [el, List.getD_cons_succ, List.getD_cons_zero] at *
      omega
  · have := el_prog_ins (progAt b) ((i - 7 - 3 * nTabs b) / 14) ((i - 7 - 3 * nTabs b) % 14) (by rw [hc]; omega) (by omega)
    rw [ht, show 7 + 3 * nTabs b + 14 * ((i - 7 - 3 * nTabs b) / 14) + (i - 7 - 3 * nTabs b) % 14 = i by omega] at this
    rw [this]
    have hn : nth (progAt b).code ((i - 7 - 3 * nTabs b) / 14) = insAt b (7 + 3 * nTabs b + 14 * ((i - 7 - 3 * nTabs b) / 14)) := nth_mkL _ _ _ (by omega)
    rw [hn, el_insAt hb _ _ (by omega)]
    congr 1; omega

/-- What is cut off is told. -/
theorem dec_cut {p : Prog} (hx : ∀ x ∈ p.code, x.wf) (h : (progF p).1 = 0) (k : Nat) (hk : k < (progBytes p).length) : decE ((progBytes p).take k) = (3, (k : Int)) := by
  obtain ⟨hv, h2⟩ := progF_valid hx h
  obtain ⟨b1, b2, b3, b4, b5, b6⟩ := begins_as hv hx (b := progBytes p) (fun _ _ => rfl) (Nat.le_refl _)
  have hl := progBytes_length p
  have hlk : ((progBytes p).take k).length = k := by rw [List.length_take]; omega
  have hel : ∀ i, i < k → el ((progBytes p).take k) i = el (progBytes p) i := fun i hi => by rw [el_take, if_pos hi]
  unfold decE
  rw [hlk]
  by_cases g1 : k < 5
  · rw [if_pos g1]
  rw [if_neg g1, if_neg (by rw [hel 0 (by omega), hel 1 (by omega), hel 2 (by omega), b4, b5, b6]; simp)]
  have hT : nTabs ((progBytes p).take k) = p.tabs.length := by rw [← b1]; unfold nTabs; rw [hel 4 (by omega)]
  rw [hT]
  by_cases g2 : k < 7 + 3 * p.tabs.length
  · rw [if_pos g2]
  rw [if_neg g2]
  have hC : nCode ((progBytes p).take k) = p.code.length := by
    rw [← b2]
    unfold nCode
    rw [hT, b1, numAt_congr _ (progBytes p) _ _ fun i hi => hel _ (by omega)]
  rw [hC, if_pos (by omega)]
theorem dec_more {p : Prog} (hx : ∀ x ∈ p.code, x.wf) (h : (progF p).1 = 0) (x : Int) : decE (progBytes p ++ [x]) = (4, ((progBytes p).length : Int)) := by
  obtain ⟨hv, h2⟩ := progF_valid hx h
  have hl := progBytes_length p
  obtain ⟨b1, b2, b3, b4, b5, b6⟩ := begins_as hv hx (b := progBytes p ++ [x]) (fun i hi => el_append_left _ _ _ hi) (by simp)
  unfold decE
  rw [List.length_append, b1, b2, if_neg (by omega), if_neg (by simp [b4, b5, b6]), if_neg (by omega), if_neg (by omega), if_pos (by simp only [List.length_cons, List.length_nil]; omega), hl]
end Go.Proofs.Ytfakdapglbgokaa
