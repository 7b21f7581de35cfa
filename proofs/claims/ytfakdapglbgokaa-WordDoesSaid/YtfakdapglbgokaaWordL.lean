/-
  The references' ProgramOf. No condition.
-/
import Derived.Test.YtfakdapglbgokaaWordN
import Derived.Test.YtfakdapglbgokaaWordD
namespace Go.Proofs.Ytfakdapglbgokaa
set_option linter.all false
open Go.RowKit
attribute [local go_sem ↓] Go.wp_at_zero Go.wp_at_succ

/-- Eight bits more. -/
theorem acc_byte (b : List Int) (hb : AllFit .u8 b) (n : Nat) : acc (bitAt b) (8 * n + 8) = 256 * acc (bitAt b) (8 * n) + el b n := by
  have hx := hb.el_u8 n
  have hbit : ∀ t, t < 8 → bitAt b (8 * n + t) = bit (el b n) t := fun t ht => by unfold bitAt; rw [show (8 * n + t) / 8 = n from by omega, show (8 * n + t) % 8 = t from by omega]
  simp only [acc]
  have h0 := hbit 0 (by omega)
  rw [Nat.add_zero] at h0
  rw [h0, hbit 1 (by omega), hbit 2 (by omega), hbit 3 (by omega), hbit 4 (by omega), hbit 5 (by omega), hbit 6 (by omega), hbit 7 (by omega)]
  generalize el b n = x at *
  generalize acc (bitAt b) (8 * n) = y
  simp only [bit]
  have e0 : x / 2 ^ (7 - 0) % 2 = x / 128 % 2 := rfl
  have e1 : x / 2 ^ (7 - 1) % 2 = x / 64 % 2 := rfl
  have e2 : x / 2 ^ (7 - 2) % 2 = x / 32 % 2 := rfl
  have e3 : x / 2 ^ (7 - 3) % 2 = x / 16 % 2 := rfl
  have e4 : x / 2 ^ (7 - 4) % 2 = x / 8 % 2 := rfl
  have e5 : x / 2 ^ (7 - 5) % 2 = x / 4 % 2 := rfl
  have e6 : x / 2 ^ (7 - 6) % 2 = x / 2 % 2 := rfl
  have e7 : x / 2 ^ (7 - 7) % 2 = x % 2 := by simp
  rw [e0, e1, e2, e3, e4, e5, e6, e7]
  omega
theorem acc_numAt (b : List Int) (hb : AllFit .u8 b) (n : Nat) : acc (bitAt b) (8 * n) = numAt b 0 n := by
  induction n with
  | zero => rfl
  | succ n ih => rw [show 8 * (n + 1) = 8 * n + 8 by omega, acc_byte b hb, ih]; simp [numAt]
theorem numAt_cut (b : List Int) (o m n : Nat) (h : n ≤ m) : numAt ((b.drop o).take m) 0 n = numAt b o n := by
  induction n with
  | zero => rfl
  | succ n ih =>
    simp only [numAt]
    rw [ih (by omega), el_take, if_pos (by omega), el_drop]
    simp
theorem bitsNum_cut (b : List Int) (hb : AllFit .u8 b) (o : Nat) (h : o + 8 ≤ b.length) : acc (el (bitsL ((b.drop o).take 8))) 64 = numAt b o 8 := by
  have hl : ((b.drop o).take 8).length = 8 := by simp; omega
  have hf : AllFit .u8 ((b.drop o).take 8) := fun x hx => hb x (List.mem_of_mem_drop (List.mem_of_mem_take hx))
  have h1 : acc (el (bitsL ((b.drop o).take 8))) 64 = acc (bitAt ((b.drop o).take 8)) 64 := acc_congr _ _ _ fun k hk => by
    unfold bitsL
    rw [hl, el_mk _ _ _ (by omega)]
  rw [h1, show (64 : Nat) = 8 * 8 from rfl, acc_numAt _ hf, numAt_cut _ _ _ _ (Nat.le_refl _)]
theorem numAt_two (b : List Int) (o : Nat) : numAt b o 2 = 256 * el b o + el b (o + 1) := by simp [numAt]

/-- ProgramOf's blocks: its results. -/
structure EB (w : World) (w' : World) : Prop where
  below : Below w.heap.size w w'
  b0 : Blk w' w.heap.size 63 #[.int .i64 0, .slice none 0 0, .slice none 0 0]
  b1 : Blk w' (w.heap.size + 1) 65 #[.int .i64 0, .int .i64 0]
theorem EB.step {w : World} {w1 w2 : World} (h : EB w w1) {S : Nat → Prop} (hs : Step S w1 w2) (hS : ∀ k, S k → w.heap.size + 1 + 1 ≤ k) : EB w w2 := by
  refine ⟨h.below.trans (hs.below h.below.size fun k hk => ?_), h.b0.step hs fun hk => ?_, h.b1.step hs fun hk => ?_⟩
  all_goals (have := hS _ hk; omega)
theorem EB.grow {w : World} {B : Nat} {w1 w2 : World} (h : EB w w1) (hb : Below B w1 w2) (hB : w.heap.size + 1 < B) : EB w w2 :=
  h.step (S := fun k => B ≤ k) (.ofBelow hb fun _ h => h) fun k hk => Nat.le_trans hB hk
theorem EB.mono {w : World} {w1 w2 : World} (h : EB w w1) (hb : Below w1.heap.size w1 w2) : EB w w2 :=
  ⟨ov h.below hb, h.b0.below hb h.b0.lt, h.b1.below hb h.b1.lt⟩

set_option maxRecDepth 100000 in
set_option maxHeartbeats 16000000 in
theorem ProgramOf_any (ao : Option Addr) (n cap : Nat) (xs : List Int) (w : World) (hr : Rd w .u8 ao n cap xs) (hn : n ≤ 1000000) :
    Calls Try.prog 51 #[.slice ao n cap] w (DecPost w xs) := by
  obtain rfl := hr.len
  have hlt := hr.lt
  have H0 : EB w ((w.alloc (.cells #[.int .i64 0, .slice none 0 0, .slice none 0 0] 63)).alloc (.cells #[.int .i64 0, .int .i64 0] 65)) := by
    obtain ⟨a, b, c⟩ := blk2 (rf ((w.alloc (.cells #[.int .i64 0, .slice none 0 0, .slice none 0 0] 63)).alloc (.cells #[.int .i64 0, .int .i64 0] 65)))
    exact ⟨a, b, c⟩
  by_cases h5 : xs.length < 5
  · have hE : Hid (decE xs = (3, (xs.length : Int))) := by show _ = _; unfold decE; rw [if_pos h5]
    go_enter Try.func51, Try.ntmps51
    go_wp2_with (go_at_call 90; refine (F_any _ _ _).mono ?_; rintro e w' ⟨rfl, rfl⟩)
    exact bodyPost_ret (v := .tuple #[.agg #[.int .i64 0, .slice none 0 0, .slice none 0 0], .agg #[.int .i64 3, .int .i64 (xs.length : Int)]]) (by simp [results, Try.results51, go_sem]) rfl (DecPost.bad hE.out (by decide) (by go_grown))
  have h5' : (5 : Int) ≤ xs.length := by omega
  have HE : Hid (decE xs = if ¬ (el xs 0 = 83 ∧ el xs 1 = 87 ∧ el xs 2 = 1) then (4, 0)
    else if xs.length < 7 + 3 * nTabs xs then (3, (xs.length : Int))
    else if xs.length < 7 + 3 * nTabs xs + 14 * nCode xs then (3, (xs.length : Int))
    else if 7 + 3 * nTabs xs + 14 * nCode xs < xs.length then (4, ((7 + 3 * nTabs xs + 14 * nCode xs : Nat) : Int))
    else progF (progAt xs)) := by show _ = _; unfold decE; rw [if_neg h5]
  clear h5
  obtain ⟨b, off, rfl, hcs⟩ := hr.here (by omega)
  have hbw : b < w.heap.size := block_lt_of_cell (hcs 0 (by omega))
  have hbn0 : ¬ b = w.heap.size := by omega
  have hbn1 : ¬ b = w.heap.size + 1 := by omega
  have hbl1 : b < w.heap.size + 1 := by omega
  have hbl2 : b < w.heap.size + 1 + 1 := by omega
  have hbn2 : ¬ b = w.heap.size + 1 + 1 := by omega
  have hc00 := hcs 0 (by omega)
  have hc01 := hcs 1 (by omega)
  have hc02 := hcs 2 (by omega)
  have hc03 := hcs 3 (by omega)
  have hc04 := hcs 4 (by omega)
  simp only [Nat.add_zero] at hc00
  clear hcs
  by_cases hH : el xs 0 = 83 ∧ el xs 1 = 87 ∧ el xs 2 = 1
  case neg =>
    have hE : Hid (decE xs = (4, 0)) := by show _ = _; rw [HE.out, if_pos hH]
    have h3 : (el xs 0 != 83) = true ∨ ((el xs 0 != 83) = false ∧ (el xs 1 != 87) = true) ∨ ((el xs 0 != 83) = false ∧ (el xs 1 != 87) = false ∧ (el xs 2 != 1) = true) := by
      by_cases q0 : el xs 0 = 83
      · by_cases q1 : el xs 1 = 87
        · have q2 : el xs 2 ≠ 1 := fun h => hH ⟨q0, q1, h⟩
          exact .inr (.inr ⟨by simp [q0], by simp [q1], by simpa using q2⟩)
        · exact .inr (.inl ⟨by simp [q0], by simpa using q1⟩)
      · exact .inl (by simpa using q0)
    clear hH
    rcases h3 with h | ⟨h, h'⟩ | ⟨h, h', h''⟩
    all_goals
      go_enter Try.func51, Try.ntmps51
      go_wp2_with (go_at_call 90; refine (F_any _ _ _).mono ?_; rintro e w' ⟨rfl, rfl⟩)
      exact bodyPost_ret (v := .tuple #[.agg #[.int .i64 0, .slice none 0 0, .slice none 0 0], .agg #[.int .i64 4, .int .i64 0]]) (by simp [results, Try.results51, go_sem]) rfl (DecPost.bad hE.out (by decide) (by go_grown))
  have q0 : (el xs 0 != 83) = false := by simp [hH.1]
  have q1 : (el xs 1 != 87) = false := by simp [hH.2.1]
  have q2 : (el xs 2 != 1) = false := by simp [hH.2.2]
  replace HE : Hid (decE xs = if xs.length < 7 + 3 * nTabs xs then (3, (xs.length : Int))
    else if xs.length < 7 + 3 * nTabs xs + 14 * nCode xs then (3, (xs.length : Int))
    else if 7 + 3 * nTabs xs + 14 * nCode xs < xs.length then (4, ((7 + 3 * nTabs xs + 14 * nCode xs : Nat) : Int))
    else progF (progAt xs)) := by show _ = _; rw [HE.out, if_neg (by simpa using hH)]
  clear hH
  have hT := hr.fit.el_u8 4
  have hTn : el xs 4 = ((nTabs xs : Nat) : Int) := by unfold nTabs; omega
  have hTl := nTabs_le hr.fit
  have HT := Lib.hid hTn
  have hTa : el xs 4 ≤ (nTabs xs : Int) := by omega
  have hTb : (nTabs xs : Int) ≤ el xs 4 := by omega
  have hx3 := hr.fit.el_u8 3
  clear hTn
  by_cases h7 : xs.length < 7 + 3 * nTabs xs
  · have hE : Hid (decE xs = (3, (xs.length : Int))) := by show _ = _; rw [HE.out, if_pos h7]
    go_enter Try.func51, Try.ntmps51
    go_wp2_with (go_at_call 90; refine (F_any _ _ _).mono ?_; rintro e w' ⟨rfl, rfl⟩)
    exact bodyPost_ret (v := .tuple #[.agg #[.int .i64 0, .slice none 0 0, .slice none 0 0], .agg #[.int .i64 3, .int .i64 (xs.length : Int)]]) (by simp [results, Try.results51, go_sem]) rfl (DecPost.bad hE.out (by decide) (by go_grown))
  replace HE : Hid (decE xs = if xs.length < 7 + 3 * nTabs xs + 14 * nCode xs then (3, (xs.length : Int))
    else if 7 + 3 * nTabs xs + 14 * nCode xs < xs.length then (4, ((7 + 3 * nTabs xs + 14 * nCode xs : Nat) : Int))
    else progF (progAt xs)) := by show _ = _; rw [HE.out, if_neg h7]
  have h7' : 7 + 3 * nTabs xs ≤ xs.length := by omega
  have h7i : 7 + 3 * (nTabs xs : Int) ≤ xs.length := by omega
  clear h7
  obtain ⟨P, hP⟩ : ∃ P, P = w.heap.size + 1 + 1 := ⟨_, rfl⟩
  have B0 := Blk.new ((w.alloc (.cells #[.int .i64 0, .slice none 0 0, .slice none 0 0] 63)).alloc (.cells #[.int .i64 0, .int .i64 0] 65)) 63 #[.int .i64 (el xs 3), .slice none 0 0, .slice none 0 0]
  replace H0 := H0.mono (al (rf _) (.cells #[.int .i64 (el xs 3), .slice none 0 0, .slice none 0 0] 63))
  simp only [World.size_alloc] at B0
  go_enter Try.func51, Try.ntmps51
  go_wp2_with fail
  generalize ((w.alloc (.cells #[.int .i64 0, .slice none 0 0, .slice none 0 0] 63)).alloc (.cells #[.int .i64 0, .int .i64 0] 65)).alloc (.cells #[.int .i64 (el xs 3), .slice none 0 0, .slice none 0 0] 63) = w1 at *
  rw [← hP] at B0 ⊢
  have HP := Lib.hid hP
  have hwP : w.heap.size + 1 < P := by omega
  have hbP : b < P := by omega
  clear hP q0 q1 q2 hc00 hc01 hc02 hc03 hc04
  have M0 : MineL shapeLay AnyA w1 (P + 1) 123 (.slice none 0 0) (mkL (fun i => shapeAt xs (5 + 3 * i)) 0) := MineL.nil _ _ _ _ _
  rw [HT.out]
  clear hTa hTb hT
  go_loopw [6, 7] (fun at_ i wr => ∃ k : Nat, k ≤ nTabs xs ∧ at_ = .int .i64 (5 + 3 * (k : Int)) ∧ i = .int .i64 k ∧ EB w wr ∧ ∃ a c, Blk wr P 63 #[.int .i64 (el xs 3), .slice a k c, .slice none 0 0] ∧ MineL shapeLay AnyA wr (P + 1) 123 (.slice a k c) (mkL (fun i => shapeAt xs (5 + 3 * i)) k)) (fun _ i _ => nTabs xs - (intOf i).toNat)
  case atStart => exact ⟨0, Nat.zero_le _, rfl, rfl, H0, none, 0, B0, M0⟩
  case round =>
    clear H0 B0 M0
    obtain ⟨k, hk, rfl, rfl, H4, a, c, B4, M4⟩ := hrel
    by_cases hlt2 : k < nTabs xs
    · obtain ⟨b', off', e, hcs⟩ := (hr.below H4.below).here (by omega)
      cases e
      have hy0 := hcs (5 + 3 * k) (by omega)
      have hy1 := hcs (5 + 3 * k + 1) (by omega)
      have hy2 := hcs (5 + 3 * k + 1 + 1) (by omega)
      clear hcs
      have hwf := shapeAt_wf hr.fit (5 + 3 * k)
      have hc4 := B4.cell 1
      simp at hc4
      have hf4 := B4.frozen 1
      have hz4 := B4.lt
      have hbr : b < wr.heap.size := by omega
      have hnb1 : ¬ b = wr.heap.size := by omega
      have hnb2 : ¬ b = P := by omega
      have hnP : ¬ P = wr.heap.size := by omega
      have hlk : Hid ((mkL (fun i => shapeAt xs (5 + 3 * i)) k).length = k) := mkL_length _ _
      have hml : Hid ((mkL (fun i => shapeAt xs (5 + 3 * i)) k).length + 1 ≤ maxLen) := by show _ ≤ _; rw [hlk.out]; simp [maxLen]; omega
      have hms : Hid (((mkL (fun i => shapeAt xs (5 + 3 * i)) k).length + 1) * 24 ≤ 140737488355328) := by show _ ≤ _; rw [hlk.out]; omega
      have s1 : IntKind.i64.wrap (5 + 3 * (k : Int) + 1) = 5 + 3 * (k : Int) + 1 := IntWalk.i64_in _ (by omega)
      have s2 : IntKind.i64.wrap (5 + 3 * (k : Int) + 2) = 5 + 3 * (k : Int) + 2 := IntWalk.i64_in _ (by omega)
      have i0 : (0 : Int) ≤ 5 + 3 * (k : Int) := by omega
      have j1 : (0 : Int) ≤ 5 + 3 * (k : Int) + 1 := by omega
      have j2 : (0 : Int) ≤ 5 + 3 * (k : Int) + 2 := by omega
      have i1 : 5 + 3 * (k : Int) < xs.length := by omega
      have i2 : 5 + 3 * (k : Int) + 1 < xs.length := by omega
      have i3 : 5 + 3 * (k : Int) + 2 < xs.length := by omega
      have t0 : (5 + 3 * (k : Int)).toNat = 5 + 3 * k := by omega
      have t1 : (5 + 3 * (k : Int) + 1).toNat = 5 + 3 * k + 1 := by omega
      have t2 : (5 + 3 * (k : Int) + 2).toNat = 5 + 3 * k + 1 + 1 := by omega
      have hBn : Blk (wr.alloc (.cells (shapeAt xs (5 + 3 * k)).cells.toArray 123)).drew wr.heap.size 123 (shapeAt xs (5 + 3 * k)).cells.toArray := Blk.new wr _ _
      have hMn : MineL shapeLay AnyA (wr.alloc (.cells (shapeAt xs (5 + 3 * k)).cells.toArray 123)).drew (P + 1) 123 (.slice a k c) (mkL (fun i => shapeAt xs (5 + 3 * i)) k) := (M4.below (al (rf _) _)).drew
      have hbz : Hid (P + 1 ≤ (wr.alloc (.cells (shapeAt xs (5 + 3 * k)).cells.toArray 123)).drew.heap.size) := by show P + 1 ≤ (wr.alloc _).heap.size; rw [World.size_alloc]; omega
      have u0 := hr.fit.el_u8 (5 + 3 * k)
      have u1 := hr.fit.el_u8 (5 + 3 * k + 1)
      have u2 := hr.fit.el_u8 (5 + 3 * k + 1 + 1)
      have v0 : IntKind.i64.wrap (el xs (5 + 3 * k)) = el xs (5 + 3 * k) := IntWalk.i64_in _ (by omega)
      have v1 : IntKind.i64.wrap (el xs (5 + 3 * k + 1)) = el xs (5 + 3 * k + 1) := IntWalk.i64_in _ (by omega)
      have v2 : IntKind.i64.wrap (el xs (5 + 3 * k + 1 + 1)) = el xs (5 + 3 * k + 1 + 1) := IntWalk.i64_in _ (by omega)
      go_wp2_with fail
      go_region_law
        ((refine step_append_lay (L := shapeLay) (A := AnyA) (by rfl) _ _ 47 (by rfl) sty_shapes (P + 1) (by rfl) hMn (fun _ _ => trivial) (by rfl) (Src.lit1 (x := shapeAt xs (5 + 3 * k)) (cs := (shapeAt xs (5 + 3 * k)).cells) hBn ⟨rfl, hwf⟩) hml.out hms.out hbz.out ?_; intro v9 w9 hm9 hb9; have M9 : MineL shapeLay AnyA w9 (P + 1) 123 v9 (mkL (fun i => shapeAt xs (5 + 3 * i)) (k + 1)) := (by rw [mkL_succ]; exact hm9); obtain ⟨a9, c9, rfl⟩ := M9.formN (mkL_length _ _); have B9 : Blk w9 P 63 #[.int .i64 (el xs 3), .slice a k c, .slice none 0 0] := Blk.below (w := (wr.alloc (.cells (shapeAt xs (5 + 3 * k)).cells.toArray 123)).drew) (B4.alloc _) hb9 (Nat.lt_succ_self P); have hc9 : w9.cell? ⟨P, 1, none⟩ = some (.slice a k c) := B9.cell 1; have hf9 := B9.frozen 1; have hz9 := B9.lt; have hz0 := (hb9.cell (p := ⟨b, off + (5 + 3 * k), none⟩) (Nat.lt_succ_of_lt hbP)).trans ((Below.cell (al (rf wr) (.cells (shapeAt xs (5 + 3 * k)).cells.toArray 123)) (p := ⟨b, off + (5 + 3 * k), none⟩) hbr).trans hy0); have hz1 := (hb9.cell (p := ⟨b, off + (5 + 3 * k + 1), none⟩) (Nat.lt_succ_of_lt hbP)).trans ((Below.cell (al (rf wr) (.cells (shapeAt xs (5 + 3 * k)).cells.toArray 123)) (p := ⟨b, off + (5 + 3 * k + 1), none⟩) hbr).trans hy1); have hz2 := (hb9.cell (p := ⟨b, off + (5 + 3 * k + 1 + 1), none⟩) (Nat.lt_succ_of_lt hbP)).trans ((Below.cell (al (rf wr) (.cells (shapeAt xs (5 + 3 * k)).cells.toArray 123)) (p := ⟨b, off + (5 + 3 * k + 1 + 1), none⟩) hbr).trans hy2)))
      all_goals
        have H9 := EB.grow (w1 := (wr.alloc (.cells (shapeAt xs (5 + 3 * k)).cells.toArray 123)).drew) (H4.mono (Below.drew (al (rf wr) (.cells (shapeAt xs (5 + 3 * k)).cells.toArray 123)))) hb9 (by omega)
        have H10 := H9.step (Step.set (fun x => x = P) w9 ⟨P, 1, none⟩ rfl (.slice a9 (k + 1) c9)) fun x hx => by omega
        have B10 : Blk (w9.setCell ⟨P, 1, none⟩ (.slice a9 (k + 1) c9)) P 63 #[.int .i64 (el xs 3), .slice a9 (k + 1) c9, .slice none 0 0] := B9.set_ 1 _
        have M10 := M9.far (Step.set (fun x => x = P) w9 ⟨P, 1, none⟩ rfl (.slice a9 (k + 1) c9)) fun x hx => by omega
        clear H9 B9 M9 hc9 hf9 hz9 hb9 hm9 hz0 hz1 hz2 H4 B4 M4 hy0 hy1 hy2 hc4 hf4 hz4 hBn hMn u0 u1 u2 v0 v1 v2 s1 s2 i0 i1 i2 i3 j1 j2 t0 t1 t2 hml hms hbz
        go_wp2_with fail
        go_roundw
        case rel => exact ⟨k + 1, by omega, by go_num, by go_num, H10, a9, c9, B10, M10⟩
        case measure => simp [intOf]; omega
    · obtain rfl : k = nTabs xs := by omega
      clear hlt2 hk
      obtain ⟨b', off', e, hcs⟩ := (hr.below H4.below).here (by omega)
      cases e
      have hy0 := hcs (5 + 3 * nTabs xs) (by omega)
      have hy1 := hcs (5 + 3 * nTabs xs + 1) (by omega)
      clear hcs
      have s1 : IntKind.i64.wrap (5 + 3 * (nTabs xs : Int) + 1) = 5 + 3 * (nTabs xs : Int) + 1 := IntWalk.i64_in _ (by omega)
      have i0 : (0 : Int) ≤ 5 + 3 * (nTabs xs : Int) := by omega
      have j1 : (0 : Int) ≤ 5 + 3 * (nTabs xs : Int) + 1 := by omega
      have i1 : 5 + 3 * (nTabs xs : Int) < xs.length := by omega
      have i2 : 5 + 3 * (nTabs xs : Int) + 1 < xs.length := by omega
      have t0 : (5 + 3 * (nTabs xs : Int)).toNat = 5 + 3 * nTabs xs := by omega
      have t1 : (5 + 3 * (nTabs xs : Int) + 1).toNat = 5 + 3 * nTabs xs + 1 := by omega
      have u0 := hr.fit.el_u8 (5 + 3 * nTabs xs)
      have u1 := hr.fit.el_u8 (5 + 3 * nTabs xs + 1)
      have v0 : IntKind.i64.wrap (el xs (5 + 3 * nTabs xs)) = el xs (5 + 3 * nTabs xs) := IntWalk.i64_in _ (by omega)
      have v1 : IntKind.i64.wrap (el xs (5 + 3 * nTabs xs + 1)) = el xs (5 + 3 * nTabs xs + 1) := IntWalk.i64_in _ (by omega)
      have v2 : IntKind.i64.wrap (256 * el xs (5 + 3 * nTabs xs)) = 256 * el xs (5 + 3 * nTabs xs) := IntWalk.i64_in _ (by omega)
      have v3 : IntKind.i64.wrap (256 * el xs (5 + 3 * nTabs xs) + el xs (5 + 3 * nTabs xs + 1)) = 256 * el xs (5 + 3 * nTabs xs) + el xs (5 + 3 * nTabs xs + 1) := IntWalk.i64_in _ (by omega)
      have hCn : Hid (256 * el xs (5 + 3 * nTabs xs) + el xs (5 + 3 * nTabs xs + 1) = ((nCode xs : Nat) : Int)) := by show _ = _; unfold nCode; rw [numAt_two]; omega
      have hCl := nCode_le hr.fit
      go_wp2_with fail
      go_quiet (fail)
      rw [hCn.out]
      clear v0 v1 v2 v3 u0 u1 t0 t1 i0 i1 i2 j1 s1 hy0 hy1 hCn
      replace H4 := H4.mono (below_drewN_ (rf wr) nq)
      replace B4 : Blk (wr.drewN nq) P 63 _ := B4
      replace M4 := M4.below (below_drewN_ (rf wr) nq)
      generalize wr.drewN nq = w7 at *
      have hz0 := H4.b0.lt
      have hz1 := H4.b1.lt
      have hf0 := H4.b1.frozen 0
      have hf1 := H4.b1.frozen 1
      have hg0 := H4.b0.frozen 0
      have hg1 := H4.b0.frozen 1
      have hg2 := H4.b0.frozen 2
      obtain ⟨hc0, hc1⟩ := H4.b1.two
      have he0 := H4.b0.cell 0
      have he1 := H4.b0.cell 1
      have he2 := H4.b0.cell 2
      simp at he0 he1 he2
      have hBr := H4.below
      have hcI : (nCode xs : Int) ≤ 65535 := by omega
      by_cases h8 : xs.length < 7 + 3 * nTabs xs + 14 * nCode xs
      · have hE : Hid (decE xs = (3, (xs.length : Int))) := by show _ = _; rw [HE.out, if_pos h8]
        go_wp2_with (go_at_call 90; refine (F_any _ _ _).mono ?_; rintro e w' ⟨rfl, rfl⟩)
        exact bodyPost_ret (v := .tuple #[.agg #[.int .i64 0, .slice none 0 0, .slice none 0 0], .agg #[.int .i64 3, .int .i64 (xs.length : Int)]]) (by simp [results, Try.results51, go_sem, hc0, hc1, he0, he1, he2, hf0, hf1, hg0, hg1, hg2, hz0, hz1]) rfl (DecPost.bad hE.out (by decide) (by go_grown))
      replace HE : Hid (decE xs = if 7 + 3 * nTabs xs + 14 * nCode xs < xs.length then (4, ((7 + 3 * nTabs xs + 14 * nCode xs : Nat) : Int))
        else progF (progAt xs)) := by show _ = _; rw [HE.out, if_neg h8]
      have h8' : 7 + 3 * nTabs xs + 14 * nCode xs ≤ xs.length := by omega
      clear h8 hz0 hz1 hf0 hf1 hg0 hg1 hg2 hc0 hc1 he0 he1 he2 hBr
      go_wp2_with fail
      obtain ⟨C, hC⟩ : ∃ C, C = w7.heap.size := ⟨_, rfl⟩
      have hPC : P < C := by rw [hC]; exact B4.lt
      have hCw : C ≤ w7.heap.size := Nat.le_of_eq hC
      have N6 : MineL insLay AnyA w7 C 56 (.slice none 0 0) (mkL (fun i => insAt xs (7 + 3 * nTabs xs + 14 * i)) 0) := MineL.nil _ _ _ _ _
      obtain ⟨_, _, e, hT6, _⟩ := M4.rd (A' := fun b => b ≤ P ∨ C ≤ b) (fun _ _ _ => trivial) (fun b h1 h2 h3 => by omega)
      rw [mkL_length] at e hT6
      cases e
      have S6 : Step (fun b => b ≤ P ∨ C ≤ b) w7 w7 := .refl _ _
      obtain ⟨wq, hwq⟩ : ∃ wq, wq = w7 := ⟨_, rfl⟩
      rw [← hwq] at hT6
      replace S6 : Step (fun b => b ≤ P ∨ C ≤ b) wq w7 := by rw [hwq]; exact S6
      clear hC hwq M4
      go_loopw [6, 8, 9] (fun at_ i _ wr => ∃ k : Nat, k ≤ nCode xs ∧ at_ = .int .i64 ((7 + 3 * nTabs xs + 14 * k : Nat) : Int) ∧ i = .int .i64 k ∧ EB w wr ∧ Step (fun b => b ≤ P ∨ C ≤ b) wq wr ∧ C ≤ wr.heap.size ∧ ∃ a' c', Blk wr P 63 #[.int .i64 (el xs 3), .slice a (nTabs xs) c, .slice a' k c'] ∧ MineL insLay AnyA wr C 56 (.slice a' k c') (mkL (fun i => insAt xs (7 + 3 * nTabs xs + 14 * i)) k)) (fun _ i _ _ => nCode xs - (intOf i).toNat)
      case atStart => exact ⟨0, Nat.zero_le _, by go_num, rfl, H4, S6, hCw, none, 0, B4, N6⟩
      case round =>
        clear H4 S6 B4 N6 hCw
        obtain ⟨k, hk, rfl, rfl, H6, S6, hCw, a', c', B6, N6⟩ := hrel
        by_cases hlt2 : k < nCode xs
        · obtain ⟨o, ho⟩ : ∃ o, o = 7 + 3 * nTabs xs + 14 * k := ⟨_, rfl⟩
          rw [← ho]
          have hoL : o + 14 ≤ xs.length := by omega
          have HO := Lib.hid ho
          clear ho
          obtain ⟨b', off', e, hcs⟩ := (hr.below H6.below).here (by omega)
          cases e
          have hy0 := hcs (o + 0) (by omega)
          have hy1 := hcs (o + 1) (by omega)
          have hy2 := hcs (o + 2) (by omega)
          have hy3 := hcs (o + 3) (by omega)
          have hy4 := hcs (o + 4) (by omega)
          have hy5 := hcs (o + 5) (by omega)
          rw [Nat.add_zero] at hy0
          clear hcs
          have u0 := hr.fit.el_u8 o
          have v0 : IntKind.i64.wrap (el xs o) = el xs o := IntWalk.i64_in _ (by omega)
          have i0 : (o : Int) < xs.length := by omega
          have j0 : (0 : Int) ≤ (o : Int) := by omega
          have u1 := hr.fit.el_u8 (o + 1)
          have v1 : IntKind.i64.wrap (el xs (o + 1)) = el xs (o + 1) := IntWalk.i64_in _ (by omega)
          have i1 : (o : Int) + 1 < xs.length := by omega
          have j1 : (0 : Int) ≤ (o : Int) + 1 := by omega
          have t1 : ((o : Int) + 1).toNat = o + 1 := by omega
          have s1 : IntKind.i64.wrap ((o : Int) + 1) = (o : Int) + 1 := IntWalk.i64_in _ (by omega)
          have u2 := hr.fit.el_u8 (o + 2)
          have v2 : IntKind.i64.wrap (el xs (o + 2)) = el xs (o + 2) := IntWalk.i64_in _ (by omega)
          have i2 : (o : Int) + 2 < xs.length := by omega
          have j2 : (0 : Int) ≤ (o : Int) + 2 := by omega
          have t2 : ((o : Int) + 2).toNat = o + 2 := by omega
          have s2 : IntKind.i64.wrap ((o : Int) + 2) = (o : Int) + 2 := IntWalk.i64_in _ (by omega)
          have u3 := hr.fit.el_u8 (o + 3)
          have v3 : IntKind.i64.wrap (el xs (o + 3)) = el xs (o + 3) := IntWalk.i64_in _ (by omega)
          have i3 : (o : Int) + 3 < xs.length := by omega
          have j3 : (0 : Int) ≤ (o : Int) + 3 := by omega
          have t3 : ((o : Int) + 3).toNat = o + 3 := by omega
          have s3 : IntKind.i64.wrap ((o : Int) + 3) = (o : Int) + 3 := IntWalk.i64_in _ (by omega)
          have u4 := hr.fit.el_u8 (o + 4)
          have v4 : IntKind.i64.wrap (el xs (o + 4)) = el xs (o + 4) := IntWalk.i64_in _ (by omega)
          have i4 : (o : Int) + 4 < xs.length := by omega
          have j4 : (0 : Int) ≤ (o : Int) + 4 := by omega
          have t4 : ((o : Int) + 4).toNat = o + 4 := by omega
          have s4 : IntKind.i64.wrap ((o : Int) + 4) = (o : Int) + 4 := IntWalk.i64_in _ (by omega)
          have u5 := hr.fit.el_u8 (o + 5)
          have v5 : IntKind.i64.wrap (el xs (o + 5)) = el xs (o + 5) := IntWalk.i64_in _ (by omega)
          have i5 : (o : Int) + 5 < xs.length := by omega
          have j5 : (0 : Int) ≤ (o : Int) + 5 := by omega
          have t5 : ((o : Int) + 5).toNat = o + 5 := by omega
          have s5 : IntKind.i64.wrap ((o : Int) + 5) = (o : Int) + 5 := IntWalk.i64_in _ (by omega)
          have v6 : IntKind.i64.wrap (256 * el xs (o + 4)) = 256 * el xs (o + 4) := IntWalk.i64_in _ (by omega)
          have v7 : IntKind.i64.wrap (256 * el xs (o + 4) + el xs (o + 5)) = 256 * el xs (o + 4) + el xs (o + 5) := IntWalk.i64_in _ (by omega)
          have hbr : b < wr.heap.size := by omega
          have hnb1 : ¬ b = wr.heap.size := by omega
          go_wp2_with fail
          go_region_held3 (fun w' => w'.cell? ⟨b, off + o, none⟩ = some (.int .u8 (el xs o)) ∧ w'.cell? ⟨b, off + (o + 1), none⟩ = some (.int .u8 (el xs (o + 1))) ∧ w'.cell? ⟨b, off + (o + 2), none⟩ = some (.int .u8 (el xs (o + 2))) ∧ w'.cell? ⟨b, off + (o + 3), none⟩ = some (.int .u8 (el xs (o + 3))) ∧ w'.cell? ⟨b, off + (o + 4), none⟩ = some (.int .u8 (el xs (o + 4))) ∧ w'.cell? ⟨b, off + (o + 5), none⟩ = some (.int .u8 (el xs (o + 5))))
            (go_keep) (fail)
          obtain ⟨X, hX⟩ : ∃ X, X = wr.heap.size := ⟨_, rfl⟩
          have BX : Blk (wr.alloc (.cells #[.int .i64 (el xs o), .int .i64 (el xs (o + 1)), .int .i64 (el xs (o + 2)), .int .i64 (el xs (o + 3)), .int .i64 (256 * el xs (o + 4) + el xs (o + 5)), .int .u64 0] 56)).drew X 56 #[.int .i64 (el xs o), .int .i64 (el xs (o + 1)), .int .i64 (el xs (o + 2)), .int .i64 (el xs (o + 3)), .int .i64 (256 * el xs (o + 4) + el xs (o + 5)), .int .u64 0] := by rw [hX]; exact Blk.new wr _ _
          have hXg : ∀ g, (Value.slice a' k c').ownBlock = some g → g < X := fun g hg => by rw [hX]; exact (N6.lt g hg).2
          have hCX : C ≤ X := by rw [hX]; exact hCw
          have hal := Below.drew (al (rf wr) (.cells #[.int .i64 (el xs o), .int .i64 (el xs (o + 1)), .int .i64 (el xs (o + 2)), .int .i64 (el xs (o + 3)), .int .i64 (256 * el xs (o + 4) + el xs (o + 5)), .int .u64 0] 56))
          have H13 := H6.mono hal
          have B13 := B6.below hal B6.lt
          have N13 := N6.below hal
          have S13 := S6.trans (.of hal)
          have hCw13 := Nat.le_trans hCw hal.size
          have hXG := Lib.hid hXg
          rw [← hX]
          clear hX hXg
          clear u0 u1 u2 u3 u4 u5 v0 v1 v2 v3 v4 v5 v6 v7 i0 i1 i2 i3 i4 i5 j0 j1 j2 j3 j4 j5 t1 t2 t3 t4 t5 s1 s2 s3 s4 s5 hy0 hy1 hy2 hy3 hy4 hy5 H6 B6 N6 S6 hCw hal hbr hnb1
          generalize (wr.alloc (.cells #[.int .i64 (el xs o), .int .i64 (el xs (o + 1)), .int .i64 (el xs (o + 2)), .int .i64 (el xs (o + 3)), .int .i64 (256 * el xs (o + 4) + el xs (o + 5)), .int .u64 0] 56)).drew = w13 at *
          obtain ⟨ac, hcut, hrc⟩ := (hr.below H13.below).cut sty_bytes (o + 6) (o + 14) (by omega) (by omega)
          rw [show o + 14 - (o + 6) = 8 from by omega] at hcut hrc
          have hcut8 := fun w' : World => hcut w' .i64 .i64 ((o : Int) + 6) ((o : Int) + 14) (by omega) (by omega)
          clear hcut
          have s6 : (0 : Int) ≤ (o : Int) + 6 := by omega
          have s7 : (o : Int) + 14 ≤ 1000000 := by omega
          go_wp2_with fail
          clear hcut8
          refine (bitsOf_any _ _ _ _ _ hrc (by omega)).mono ?_
          rintro e w14 ⟨r14, rfl, hm14, hb14⟩
          have hl64 : (bitsL ((xs.drop (o + 6)).take 8)).length = 64 := by rw [bitsL_length, hrc.len]
          obtain ⟨a14, c14, rfl, hr14, _⟩ := hm14.rd
          have hbn := bitsNum_any a14 _ c14 _ w14 hr14 (by omega) (bitsL_bits _)
          rw [hl64] at hbn ⊢
          rw [bitsNum_cut xs hr.fit (o + 6) (by omega)] at hbn
          have H14 := H13.mono hb14
          have B14 := B13.below hb14 B13.lt
          have BX14 := BX.below hb14 BX.lt
          have N14 := N13.below hb14
          have S14 := S13.trans (.of hb14)
          have hCw14 := Nat.le_trans hCw13 hb14.size
          have HBN := Lib.hid hbn
          clear hbn hl64 hr14 hm14 hb14 H13 B13 BX N13 S13 hCw13 hrc
          have x0 := BX14.cell 0; have x1 := BX14.cell 1; have x2 := BX14.cell 2; have x3 := BX14.cell 3; have x4 := BX14.cell 4; have x5 := BX14.cell 5
          simp at x0 x1 x2 x3 x4 x5
          have xf := BX14.frozen 5
          have xz := BX14.lt
          have p2 := B14.cell 2
          simp at p2
          have hlk : Hid ((mkL (fun i => insAt xs (7 + 3 * nTabs xs + 14 * i)) k).length = k) := mkL_length _ _
          have hml : Hid ((mkL (fun i => insAt xs (7 + 3 * nTabs xs + 14 * i)) k).length + 1 ≤ maxLen) := by show _ ≤ _; rw [hlk.out]; simp [maxLen]; omega
          have hms : Hid (((mkL (fun i => insAt xs (7 + 3 * nTabs xs + 14 * i)) k).length + 1) * 48 ≤ 140737488355328) := by show _ ≤ _; rw [hlk.out]; omega
          have N15 : MineL insLay AnyA (w14.setCell ⟨X, 5, none⟩ (.int .u64 (numAt xs (o + 6) 8))) C 56 (.slice a' k c') (mkL (fun i => insAt xs (7 + 3 * nTabs xs + 14 * i)) k) :=
            N14.step (Step.set (fun b => b = X) w14 ⟨X, 5, none⟩ rfl _) (fun g hg hb => by have := hXG.out g hg; omega) fun _ _ => trivial
          have hiw := insAt_wf hr.fit o
          have hic : Hid ((insAt xs o).cells = #[.int .i64 (el xs o), .int .i64 (el xs (o + 1)), .int .i64 (el xs (o + 2)), .int .i64 (el xs (o + 3)), .int .i64 (256 * el xs (o + 4) + el xs (o + 5)), .int .u64 (numAt xs (o + 6) 8)].toList) := by show _ = _; unfold insAt Ins.cells; rw [numAt_two]
          have hiv : Hid ((fun i => insAt xs (7 + 3 * nTabs xs + 14 * i)) k = insAt xs o) := by show insAt xs (7 + 3 * nTabs xs + 14 * k) = _; rw [HO.out]
          have B15 : Blk (w14.setCell ⟨X, 5, none⟩ (.int .u64 (numAt xs (o + 6) 8))) P 63 #[.int .i64 (el xs 3), .slice a (nTabs xs) c, .slice a' k c'] := B14.far (p := ⟨X, 5, none⟩) (by show P ≠ X; omega) _
          have hBN : Blk ((w14.setCell ⟨X, 5, none⟩ (.int .u64 (numAt xs (o + 6) 8))).alloc (.cells #[.int .i64 (el xs o), .int .i64 (el xs (o + 1)), .int .i64 (el xs (o + 2)), .int .i64 (el xs (o + 3)), .int .i64 (256 * el xs (o + 4) + el xs (o + 5)), .int .u64 (numAt xs (o + 6) 8)] 56)) w14.heap.size 56 #[.int .i64 (el xs o), .int .i64 (el xs (o + 1)), .int .i64 (el xs (o + 2)), .int .i64 (el xs (o + 3)), .int .i64 (256 * el xs (o + 4) + el xs (o + 5)), .int .u64 (numAt xs (o + 6) 8)] := by
            have := Blk.new (w14.setCell ⟨X, 5, none⟩ (.int .u64 (numAt xs (o + 6) 8))) 56 #[.int .i64 (el xs o), .int .i64 (el xs (o + 1)), .int .i64 (el xs (o + 2)), .int .i64 (el xs (o + 3)), .int .i64 (256 * el xs (o + 4) + el xs (o + 5)), .int .u64 (numAt xs (o + 6) 8)]
            simp only [World.size_setCell] at this
            exact this
          have hRp : Hid (insLay.rep AnyA ((w14.setCell ⟨X, 5, none⟩ (.int .u64 (numAt xs (o + 6) 8))).alloc (.cells #[.int .i64 (el xs o), .int .i64 (el xs (o + 1)), .int .i64 (el xs (o + 2)), .int .i64 (el xs (o + 3)), .int .i64 (256 * el xs (o + 4) + el xs (o + 5)), .int .u64 (numAt xs (o + 6) 8)] 56)) (insAt xs o) #[.int .i64 (el xs o), .int .i64 (el xs (o + 1)), .int .i64 (el xs (o + 2)), .int .i64 (el xs (o + 3)), .int .i64 (256 * el xs (o + 4) + el xs (o + 5)), .int .u64 (numAt xs (o + 6) 8)].toList) := ⟨hic.out.symm, hiw⟩
          clear B14 BX14 N14
          go_wp2_with fail
          refine HBN.out.mono ?_
          rintro e w15 ⟨rfl, rfl⟩
          go_wp2_with (at_builtin; refine wpList_append_lay (L := insLay) (A := AnyA) rfl _ _ 51 rfl sty_ins C rfl (N15.below (al (rf _) _)) (fun _ _ => trivial) rfl (Src.lit1 (x := insAt xs o) hBN hRp.out) hml.out hms.out ?c9 ?_; rotate_left 1; intro v9 w9 hm9 hb9; have M9 : MineL insLay AnyA w9 C 56 v9 (mkL (fun i => insAt xs (7 + 3 * nTabs xs + 14 * i)) (k + 1)) := (by rw [mkL_succ, hiv.out]; exact hm9); obtain ⟨a9, c9, rfl⟩ := M9.formN (mkL_length _ _); have B9 := Blk.below (B15.alloc _) hb9 hPC; have hc9 : w9.cell? ⟨P, 2, none⟩ = some (.slice a' k c') := B9.cell 2; have hf9 := B9.frozen 2; have hz9 := B9.lt)
          case c9 => simp; omega
          have H15 := (H14.step (Step.set (fun b => b = X) w14 ⟨X, 5, none⟩ rfl (.int .u64 (numAt xs (o + 6) 8))) fun x hx => by omega).mono (al (rf _) (.cells #[.int .i64 (el xs o), .int .i64 (el xs (o + 1)), .int .i64 (el xs (o + 2)), .int .i64 (el xs (o + 3)), .int .i64 (256 * el xs (o + 4) + el xs (o + 5)), .int .u64 (numAt xs (o + 6) 8)] 56))
          have H9 := H15.grow hb9 (by omega)
          have H17 := H9.step (Step.set (fun b => b = P) w9 ⟨P, 2, none⟩ rfl (.slice a9 (k + 1) c9)) fun x hx => by omega
          have S17 := (((S14.trans (Step.set (fun b => b ≤ P ∨ C ≤ b) w14 ⟨X, 5, none⟩ (.inr hCX) (.int .u64 (numAt xs (o + 6) 8)))).trans (Step.alloc _ _ _)).trans (.ofBelow hb9 fun b h => .inr h)).trans (Step.set (fun b => b ≤ P ∨ C ≤ b) w9 ⟨P, 2, none⟩ (.inl (Nat.le_refl _)) (.slice a9 (k + 1) c9))
          have B17 : Blk (w9.setCell ⟨P, 2, none⟩ (.slice a9 (k + 1) c9)) P 63 #[.int .i64 (el xs 3), .slice a (nTabs xs) c, .slice a9 (k + 1) c9] := B9.set_ 2 _
          have N17 := M9.far (Step.set (fun b => b = P) w9 ⟨P, 2, none⟩ rfl (.slice a9 (k + 1) c9)) fun b hb => by omega
          have hC9 : C ≤ (w9.setCell ⟨P, 2, none⟩ (.slice a9 (k + 1) c9)).heap.size := by
            rw [World.size_setCell]
            exact Nat.le_trans (by simp; omega) hb9.size
          have hat : (o : Int) + 14 = ((7 + 3 * nTabs xs + 14 * (k + 1) : Nat) : Int) := by have := HO.out; omega
          go_roundw
          case rel => exact ⟨k + 1, by omega, by rw [hat], by go_num, H17, S17, hC9, a9, c9, B17, N17⟩
          case measure => simp [intOf]; omega
        · obtain rfl : k = nCode xs := by omega
          clear hlt2 hk
          obtain ⟨_, _, e, hN6, _⟩ := N6.rd (A' := fun b => b < C) (fun _ _ _ => trivial) (fun b h1 h2 h3 => by omega)
          rw [mkL_length] at e hN6
          cases e
          have hT7 := hT6.step S6
          have hN7 := hN6
          clear N6 hN6 hT6 S6
          obtain ⟨E, hEE⟩ : ∃ E, E = 7 + 3 * nTabs xs + 14 * nCode xs := ⟨_, rfl⟩
          rw [← hEE]
          have HEE := Lib.hid hEE
          have hEl : E ≤ xs.length := by omega
          clear hEE
          have hz0 := H6.b0.lt
          have hz1 := H6.b1.lt
          have hf0 := H6.b1.frozen 0
          have hf1 := H6.b1.frozen 1
          have hg0 := H6.b0.frozen 0
          have hg1 := H6.b0.frozen 1
          have hg2 := H6.b0.frozen 2
          obtain ⟨hc0, hc1⟩ := H6.b1.two
          have he0 := H6.b0.cell 0
          have he1 := H6.b0.cell 1
          have he2 := H6.b0.cell 2
          simp at he0 he1 he2
          have hBr := H6.below
          by_cases h9 : E < xs.length
          · have hE : Hid (decE xs = (4, (E : Int))) := by show _ = _; rw [HE.out, if_pos (by rw [← HEE.out]; exact h9), ← HEE.out]
            have h9' : (E : Int) < xs.length := by omega
            go_wp2_with (go_at_call 90; refine (F_any _ _ _).mono ?_; rintro e w' ⟨rfl, rfl⟩)
            exact bodyPost_ret (v := .tuple #[.agg #[.int .i64 0, .slice none 0 0, .slice none 0 0], .agg #[.int .i64 4, .int .i64 (E : Int)]]) (by simp [results, Try.results51, go_sem, hc0, hc1, he0, he1, he2, hf0, hf1, hg0, hg1, hg2, hz0, hz1]) rfl (DecPost.bad hE.out (by decide) (by go_grown))
          replace HE : Hid (decE xs = progF (progAt xs)) := by show _ = _; rw [HE.out, if_neg (by rw [← HEE.out]; exact h9)]
          have h9' : (xs.length : Int) ≤ (E : Int) := by omega
          clear h9
          have p0 := B6.cell 0
          have p1 := B6.cell 1
          have p2 := B6.cell 2
          simp at p0 p1 p2
          have hz2 := B6.lt
          have hCk := ProgramFault_any (el xs 3) a _ c _ (progAt xs).tabs (progAt xs).code NoA wr (by rw [show (progAt xs).tabs.length = nTabs xs from mkL_length _ _]; exact hT7.no) (by rw [show (progAt xs).code.length = nCode xs from mkL_length _ _]; exact hN7.no)
          rw [show (progAt xs).tabs.length = nTabs xs from mkL_length _ _, show (progAt xs).code.length = nCode xs from mkL_length _ _] at hCk
          replace hCk := Lib.hid hCk
          clear hz0 hz1 hf0 hf1 hg0 hg1 hg2 hc0 hc1 he0 he1 he2 hBr
          go_wp2_with fail
          refine hCk.out.mono ?_
          rintro e w9 ⟨rfl, hb9⟩
          obtain ⟨F, hF⟩ : ∃ F, progF ⟨el xs 3, (progAt xs).tabs, (progAt xs).code⟩ = F := ⟨_, rfl⟩
          rw [hF]
          replace HE : Hid (decE xs = F) := by show _ = _; rw [HE.out, ← hF]; rfl
          have hF0 : Hid (F.1 = 0 → F.2 = 0) := fun h => by
            have hwf : ∀ x ∈ (progAt xs).code, x.wf := fun x hx => by
              obtain ⟨i, hi, rfl⟩ := mem_nth hx
              simp only [progAt, mkL_length] at hi
              simp only [progAt]
              rw [nth_mkL _ _ _ hi]
              exact insAt_wf hr.fit _
            have := (progF_valid hwf (by rw [show progF (progAt xs) = F from hF]; exact h)).2
            rw [show progF (progAt xs) = F from hF] at this
            exact this
          replace H6 := H6.mono hb9
          replace B6 := B6.below hb9 B6.lt
          replace hT7 := hT7.below hb9
          replace hN7 := hN7.below hb9
          clear hb9 hF p0 p1 p2 hz2 hCk
          have hz0 := H6.b0.lt
          have hz1 := H6.b1.lt
          have hf0 := H6.b1.frozen 0
          have hf1 := H6.b1.frozen 1
          have hg0 := H6.b0.frozen 0
          have hg1 := H6.b0.frozen 1
          have hg2 := H6.b0.frozen 2
          obtain ⟨hc0, hc1⟩ := H6.b1.two
          have he0 := H6.b0.cell 0
          have he1 := H6.b0.cell 1
          have he2 := H6.b0.cell 2
          simp at he0 he1 he2
          have hBr := H6.below
          by_cases hc : F.1 = 0
          case neg =>
            have hE : Hid (decE xs = (F.1, F.2)) := HE.out
            have hq : (F.1 != 0) = true := by rw [bne_iff_ne]; exact hc
            have HC := Lib.hid hc
            clear hc
            go_wp2_with fail
            go_region
            go_wp2_with fail
            exact bodyPost_ret (v := .tuple #[.agg #[.int .i64 0, .slice none 0 0, .slice none 0 0], .agg #[.int .i64 F.1, .int .i64 F.2]]) (by simp [results, Try.results51, go_sem, hc0, hc1, he0, he1, he2, hf0, hf1, hg0, hg1, hg2, hz0, hz1]) rfl (DecPost.bad hE.out HC.out (by go_grown))
          have hq : (F.1 != 0) = false := by rw [hc]; rfl
          have p0 := B6.cell 0
          have p1 := B6.cell 1
          have p2 := B6.cell 2
          simp at p0 p1 p2
          have hz2 := B6.lt
          have HC := Lib.hid hc
          clear hc
          go_wp2_with fail
          have a0 : w.heap.size ≤ P := by omega
          have a1 : w.heap.size + 1 ≤ P := by omega
          have b0 : w.heap.size < C := by omega
          have b1 : w.heap.size + 1 < C := by omega
          refine bodyPost_ret (v := .tuple #[.agg #[.int .i64 (el xs 3), .slice a (nTabs xs) c, .slice a' (nCode xs) c'], .agg #[.int .i64 0, .int .i64 0]]) (by simp [results, Try.results51, go_sem, hc0, hc1, he0, he1, he2, hf0, hf1, hg0, hg1, hg2, hz0, hz1]) rfl (DecPost.good HE.out HC.out (hF0.out HC.out) ?_ ?_ (by go_grown))
          · exact ((((((hT7.set (p := ⟨w.heap.size, 0, none⟩) (.inl a0) _).set (p := ⟨w.heap.size, 1, none⟩) (.inl a0) _).set (p := ⟨w.heap.size, 2, none⟩) (.inl a0) _).set (p := ⟨w.heap.size + 1, 0, none⟩) (.inl a1) _).set (p := ⟨w.heap.size + 1, 1, none⟩) (.inl a1) _).below (al (rf _) _)).no
          · exact ((((((hN7.set (p := ⟨w.heap.size, 0, none⟩) b0 _).set (p := ⟨w.heap.size, 1, none⟩) b0 _).set (p := ⟨w.heap.size, 2, none⟩) b0 _).set (p := ⟨w.heap.size + 1, 0, none⟩) b1 _).set (p := ⟨w.heap.size + 1, 1, none⟩) b1 _).below (al (rf _) _)).no
end Go.Proofs.Ytfakdapglbgokaa
