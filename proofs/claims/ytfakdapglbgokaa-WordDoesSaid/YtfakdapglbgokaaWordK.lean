/-
  Package word's Decode. No condition.
-/
import Derived.Test.YtfakdapglbgokaaWordN
namespace Go.Proofs.Ytfakdapglbgokaa
set_option linter.all false
open Go.RowKit
attribute [local go_sem ↓] Go.wp_at_zero Go.wp_at_succ

/-- Decode's blocks: its results, the fault of what is too short, the reader. -/
structure DB (w : World) (R : Nat) (ao : Option Addr) (n cap at_ : Nat) (w' : World) : Prop where
  hR : R = w.heap.size + 1 + 1 + 1
  below : Below w.heap.size w w'
  b0 : Blk w' w.heap.size 63 #[.int .i64 0, .slice none 0 0, .slice none 0 0]
  b1 : Blk w' (w.heap.size + 1) 65 #[.int .i64 0, .int .i64 0]
  b2 : Blk w' (w.heap.size + 1 + 1) 65 #[.int .i64 3, .int .i64 (n : Int)]
  rdr : Rdr w' R ao n cap at_
theorem DB.step {w : World} {R : Nat} {ao : Option Addr} {n cap at_ at2 : Nat} {w1 w2 : World} (h : DB w R ao n cap at_ w1) (hr : Rdr w2 R ao n cap at2) {S : Nat → Prop} (hs : Step S w1 w2) (hS : ∀ k, S k → R ≤ k) : DB w R ao n cap at2 w2 := by
  have hR := h.hR
  refine ⟨hR, h.below.trans (hs.below h.below.size fun k hk => ?_), h.b0.step hs fun hk => ?_, h.b1.step hs fun hk => ?_, h.b2.step hs fun hk => ?_, hr⟩
  all_goals (have := hS _ hk; omega)
theorem DB.mono {w : World} {R : Nat} {ao : Option Addr} {n cap at_ : Nat} {w1 w2 : World} (h : DB w R ao n cap at_ w1) (hb : Below w1.heap.size w1 w2) : DB w R ao n cap at_ w2 :=
  ⟨h.hR, ov h.below hb, h.b0.below hb h.b0.lt, h.b1.below hb h.b1.lt, h.b2.below hb h.b2.lt, Blk.below h.rdr hb (Blk.lt h.rdr)⟩
theorem DB.set {w : World} {R : Nat} {ao : Option Addr} {n cap at_ : Nat} {w1 : World} (h : DB w R ao n cap at_ w1) (at2 : Nat) : DB w R ao n cap at2 (w1.setCell ⟨R, 1, none⟩ (.int .i64 (at2 : Int))) :=
  h.step (S := fun k => k = R) (Blk.set_ h.rdr 1 _) (Step.set (fun k => k = R) _ ⟨R, 1, none⟩ rfl _) fun k hk => Nat.le_of_eq hk.symm
theorem DB.far {w : World} {R : Nat} {ao : Option Addr} {n cap at_ : Nat} {w1 : World} (h : DB w R ao n cap at_ w1) {p : Addr} (hp : R < p.block) (u : Value) : DB w R ao n cap at_ (w1.setCell p u) :=
  h.step (S := fun k => k = p.block) (Blk.far h.rdr (Nat.ne_of_lt hp) u) (Step.set (fun k => k = p.block) _ p rfl u) fun k hk => by rw [hk]; exact Nat.le_of_lt hp
theorem DB.grow {w : World} {R : Nat} {ao : Option Addr} {n cap at_ B : Nat} {w1 w2 : World} (h : DB w R ao n cap at_ w1) (hb : Below B w1 w2) (hB : R < B) : DB w R ao n cap at_ w2 :=
  h.step (S := fun k => B ≤ k) (Blk.below h.rdr hb hB) (.ofBelow hb fun _ h => h) fun k hk => Nat.le_trans (Nat.le_of_lt hB) hk
theorem head_str : (strOfNums [83, 87, 1]).toList = [83, 87, 1] := by decide +kernel
theorem take3 {xs : List Int} (h : 5 ≤ xs.length) : xs.take 3 = [el xs 0, el xs 1, el xs 2] := by
  refine ext_el (by simp; omega) fun i hi => ?_
  have hi : i < 3 := by simp at hi; omega
  rw [el_take, if_pos hi]
  match i, hi with
  | 0, _ => rfl
  | 1, _ => rfl
  | 2, _ => rfl
theorem head_is {xs : List Int} (hf : AllFit .u8 xs) (h : 5 ≤ xs.length) : ((strOfNums (xs.take 3)).toList == [83, 87, 1]) = decide (el xs 0 = 83 ∧ el xs 1 = 87 ∧ el xs 2 = 1) := by
  rw [← head_str, strOfNums_inj (fun x hx => hf x (List.mem_of_mem_take hx)) (AllFit.u8s fun x hx => by simp at hx; omega), take3 h]
  simp
theorem head_no {xs : List Int} (hf : AllFit .u8 xs) (h : 5 ≤ xs.length) (hH : ¬ (el xs 0 = 83 ∧ el xs 1 = 87 ∧ el xs 2 = 1)) : ((strOfNums (xs.take 3)).toList == [83, 87, 1]) = false := by rw [head_is hf h]; exact decide_eq_false hH
theorem head_yes {xs : List Int} (hf : AllFit .u8 xs) (h : 5 ≤ xs.length) (hH : (el xs 0 = 83 ∧ el xs 1 = 87 ∧ el xs 2 = 1)) : ((strOfNums (xs.take 3)).toList == [83, 87, 1]) = true := by rw [head_is hf h]; exact decide_eq_true hH
set_option maxRecDepth 100000 in
set_option maxHeartbeats 16000000 in
theorem Decode_any (ao : Option Addr) (n cap : Nat) (xs : List Int) (w : World) (hr : Rd w .u8 ao n cap xs) (hn : n ≤ 1000000) :
    Calls Try.prog 50 #[.slice ao n cap] w (DecPost w xs) := by
  obtain rfl := hr.len
  have hlt := hr.lt
  have H0 : DB w (w.heap.size + 1 + 1 + 1) ao xs.length cap 0
      ((((w.alloc (.cells #[.int .i64 0, .slice none 0 0, .slice none 0 0] 63)).alloc (.cells #[.int .i64 0, .int .i64 0] 65)).alloc (.cells #[.int .i64 3, .int .i64 (xs.length : Int)] 65)).alloc (.cells #[.slice ao xs.length cap, .int .i64 0] 133)) := by
    obtain ⟨a, b, c, d⟩ := blk3 (rf (((w.alloc (.cells #[.int .i64 0, .slice none 0 0, .slice none 0 0] 63)).alloc (.cells #[.int .i64 0, .int .i64 0] 65)).alloc (.cells #[.int .i64 3, .int .i64 (xs.length : Int)] 65)))
    exact ⟨rfl, al a _, b.alloc _, c.alloc _, d.alloc _, by have := Blk.new (((w.alloc (.cells #[.int .i64 0, .slice none 0 0, .slice none 0 0] 63)).alloc (.cells #[.int .i64 0, .int .i64 0] 65)).alloc (.cells #[.int .i64 3, .int .i64 (xs.length : Int)] 65)) 133 #[.slice ao xs.length cap, .int .i64 0]; simp at this; exact this⟩
  go_enter Try.func50, Try.ntmps50
  go_wp2_with fail
  generalize ((((w.alloc (.cells #[.int .i64 0, .slice none 0 0, .slice none 0 0] 63)).alloc (.cells #[.int .i64 0, .int .i64 0] 65)).alloc (.cells #[.int .i64 3, .int .i64 (xs.length : Int)] 65)).alloc (.cells #[.slice ao xs.length cap, .int .i64 0] 133)) = w1 at *
  obtain ⟨R, hR⟩ : ∃ R, R = w.heap.size + 1 + 1 + 1 := ⟨_, rfl⟩
  rw [← hR] at H0 ⊢
  clear hR
  refine (left_any R ao xs.length cap 0 5 w1 H0.rdr hn (by omega) (by omega)).mono ?_
  rintro e w1' ⟨rfl, q, rfl⟩
  replace H0 := H0.mono (below_drewN_ (rf w1) q)
  generalize w1.drewN q = w1 at *
  have hz0 := H0.b0.lt
  have hz1 := H0.b1.lt
  have hf0 := H0.b1.frozen 0
  have hf1 := H0.b1.frozen 1
  have hg0 := H0.b0.frozen 0
  have hg1 := H0.b0.frozen 1
  have hg2 := H0.b0.frozen 2
  obtain ⟨hc0, hc1⟩ := H0.b1.two
  obtain ⟨hd0, hd1⟩ := H0.b2.two
  have he0 := H0.b0.cell 0
  have he1 := H0.b0.cell 1
  have he2 := H0.b0.cell 2
  simp at he0 he1 he2
  have hBr := H0.below
  by_cases h5 : xs.length < 5
  · have hE : Hid (decE xs = (3, (xs.length : Int))) := by show _ = _; unfold decE; rw [if_pos h5]
    have q5 : decide ((5 : Int) ≤ (xs.length : Int) - ((0 : Nat) : Int)) = false := decide_eq_false (by omega)
    rw [q5]
    clear q5
    go_wp2_with fail
    go_region
    go_wp2_with fail
    exact bodyPost_ret (v := .tuple #[.agg #[.int .i64 0, .slice none 0 0, .slice none 0 0], .agg #[.int .i64 3, .int .i64 (xs.length : Int)]]) (by simp [results, Try.results50, go_sem, hc0, hc1, hd0, hd1, he0, he1, he2, hf0, hf1, hg0, hg1, hg2, hz0, hz1]) rfl (DecPost.bad hE.out (by decide) (by go_grown))
  have q5 : decide ((5 : Int) ≤ (xs.length : Int) - ((0 : Nat) : Int)) = true := decide_eq_true (by omega)
  rw [q5]
  clear q5
  have h5' : 5 ≤ xs.length := by omega
  have HE : Hid (decE xs = if ¬ (el xs 0 = 83 ∧ el xs 1 = 87 ∧ el xs 2 = 1) then (4, 0)
    else if xs.length < 7 + 3 * nTabs xs then (3, (xs.length : Int))
    else if xs.length < 7 + 3 * nTabs xs + 14 * nCode xs then (3, (xs.length : Int))
    else if 7 + 3 * nTabs xs + 14 * nCode xs < xs.length then (4, ((7 + 3 * nTabs xs + 14 * nCode xs : Nat) : Int))
    else progF (progAt xs)) := by show _ = _; unfold decE; rw [if_neg h5]
  clear h5
  have hr1 := hr.below (w' := w1) hBr
  obtain ⟨ac, hcut, hrc⟩ := hr1.cut_to sty_bytes 3 (by omega)
  have hcut3 := fun w' : World => hcut w' .i64 3 rfl
  have hstr := hrc.str (P := Try.prog) 77 9 5 Try.underlying77 Try.underlying5 Try.underlying9
  by_cases hH : el xs 0 = 83 ∧ el xs 1 = 87 ∧ el xs 2 = 1
  case neg =>
    have hE : Hid (decE xs = (4, 0)) := by show _ = _; rw [HE.out, if_pos hH]
    have hs : ((strOfNums (xs.take 3)).toList == [83, 87, 1]) = false := head_no hr.fit h5' hH
    clear hH hrc
    go_wp2_with fail
    exact bodyPost_ret (v := .tuple #[.agg #[.int .i64 0, .slice none 0 0, .slice none 0 0], .agg #[.int .i64 4, .int .i64 0]]) (by simp [results, Try.results50, go_sem, hc0, hc1, hd0, hd1, he0, he1, he2, hf0, hf1, hg0, hg1, hg2, hz0, hz1]) rfl (DecPost.bad hE.out (by decide) (by go_grown))
  have hs : ((strOfNums (xs.take 3)).toList == [83, 87, 1]) = true := head_yes hr.fit h5' hH
  replace HE : Hid (decE xs = if xs.length < 7 + 3 * nTabs xs then (3, (xs.length : Int))
    else if xs.length < 7 + 3 * nTabs xs + 14 * nCode xs then (3, (xs.length : Int))
    else if 7 + 3 * nTabs xs + 14 * nCode xs < xs.length then (4, ((7 + 3 * nTabs xs + 14 * nCode xs : Nat) : Int))
    else progF (progAt xs)) := by show _ = _; rw [HE.out, if_neg (by simpa using hH)]
  have hq0 := Blk.cell H0.rdr 0
  have hq1 := Blk.cell H0.rdr 1
  have hqf := Blk.frozen H0.rdr 1
  have hqz := Blk.lt H0.rdr
  simp at hq0 hq1
  clear hH hrc
  have hr2 := hr1.step (A := fun k => k = R) (Step.set (fun k => k = R) w1 ⟨R, 1, none⟩ rfl (.int .i64 3)) (H0.rdr.apart hr1)
  have H1 := H0.set 3
  clear H0 hz0 hz1 hf0 hf1 hg0 hg1 hg2 hc0 hc1 hd0 hd1 he0 he1 he2 hBr
  go_wp2_with fail
  clear hr1 hstr hcut hcut3
  refine (int1_any R ao xs.length cap 3 xs _ hr2 H1.rdr (by omega)).mono ?_
  rintro e w2 ⟨rfl, hq2, hs2⟩
  have H2 := H1.step hq2 hs2 fun k hk => Nat.le_of_eq hk.symm
  replace hr2 := hr2.step hs2 (H1.rdr.apart hr2)
  clear H1 hq2 hs2 hs hqf hqz hq0 hq1
  go_wp2_with fail
  obtain ⟨P, hP⟩ : ∃ P, P = w2.heap.size := ⟨_, rfl⟩
  have B3 : Blk (w2.alloc (.cells #[.int .i64 (el xs 3), .slice none 0 0, .slice none 0 0] 63)) P 63 #[.int .i64 (el xs 3), .slice none 0 0, .slice none 0 0] := by rw [hP]; exact Blk.new _ _ _
  have H3 := H2.mono (al (rf w2) (.cells #[.int .i64 (el xs 3), .slice none 0 0, .slice none 0 0] 63))
  have hr3 := hr2.below (al (rf w2) (.cells #[.int .i64 (el xs 3), .slice none 0 0, .slice none 0 0] 63))
  have hRP : R < P := by rw [hP]; exact Blk.lt H2.rdr
  rw [← hP]
  clear hP H2 hr2
  generalize w2.alloc (.cells #[.int .i64 (el xs 3), .slice none 0 0, .slice none 0 0] 63) = w3 at *
  refine (int1_any R ao xs.length cap 4 xs _ hr3 H3.rdr (by omega)).mono ?_
  rintro e w4 ⟨rfl, hq4, hs4⟩
  have H4 := H3.step hq4 hs4 fun k hk => Nat.le_of_eq hk.symm
  have B4 := B3.step hs4 (by omega)
  have hr4 := hr3.step hs4 (H3.rdr.apart hr3)
  clear H3 B3 hr3 hq4 hs4
  have hT := hr.fit.el_u8 4
  have hTn : ((nTabs xs : Nat) : Int) = el xs 4 := by unfold nTabs; omega
  have hTl := nTabs_le hr.fit
  rw [← hTn]
  clear hTn hT
  go_wp2_with fail
  refine (left_any R ao xs.length cap _ _ w4 H4.rdr hn (by omega) (by omega)).mono ?_
  rintro e w5 ⟨rfl, q, rfl⟩
  replace H4 := H4.mono (below_drewN_ (rf w4) q)
  replace hr4 := hr4.below (below_drewN_ (rf w4) q)
  replace B4 : Blk (w4.drewN q) P _ _ := B4
  generalize w4.drewN q = w5 at *
  have hz0 := H4.b0.lt
  have hz1 := H4.b1.lt
  have hf0 := H4.b1.frozen 0
  have hf1 := H4.b1.frozen 1
  have hg0 := H4.b0.frozen 0
  have hg1 := H4.b0.frozen 1
  have hg2 := H4.b0.frozen 2
  obtain ⟨hc0, hc1⟩ := H4.b1.two
  obtain ⟨hd0, hd1⟩ := H4.b2.two
  have he0 := H4.b0.cell 0
  have he1 := H4.b0.cell 1
  have he2 := H4.b0.cell 2
  simp at he0 he1 he2
  have hBr := H4.below
  by_cases h7 : xs.length < 7 + 3 * nTabs xs
  · have hE : Hid (decE xs = (3, (xs.length : Int))) := by show _ = _; rw [HE.out, if_pos h7]
    rw [decide_eq_false (by omega)]
    go_wp2_with fail
    go_region
    go_wp2_with fail
    exact bodyPost_ret (v := .tuple #[.agg #[.int .i64 0, .slice none 0 0, .slice none 0 0], .agg #[.int .i64 3, .int .i64 (xs.length : Int)]]) (by simp [results, Try.results50, go_sem, hc0, hc1, hd0, hd1, he0, he1, he2, hf0, hf1, hg0, hg1, hg2, hz0, hz1]) rfl (DecPost.bad hE.out (by decide) (by go_grown))
  rw [decide_eq_true (by omega)]
  replace HE : Hid (decE xs = if xs.length < 7 + 3 * nTabs xs + 14 * nCode xs then (3, (xs.length : Int))
    else if 7 + 3 * nTabs xs + 14 * nCode xs < xs.length then (4, ((7 + 3 * nTabs xs + 14 * nCode xs : Nat) : Int))
    else progF (progAt xs)) := by show _ = _; rw [HE.out, if_neg h7]
  have h7' : 7 + 3 * nTabs xs ≤ xs.length := by omega
  clear h7 hz0 hz1 hf0 hf1 hg0 hg1 hg2 hc0 hc1 hd0 hd1 he0 he1 he2 hBr
  go_wp2_with fail
  have M5 : MineL shapeLay AnyA w5 (P + 1) 123 (.slice none 0 0) (mkL (fun i => shapeAt xs (5 + 3 * i)) 0) := MineL.nil _ _ _ _ _
  have hx3 := hr.fit.el_u8 3
  go_loopw [44] (fun i wr => ∃ k : Nat, k ≤ nTabs xs ∧ i = .int .i64 k ∧ DB w R ao xs.length cap (5 + 3 * k) wr ∧ ∃ a c, Blk wr P 63 #[.int .i64 (el xs 3), .slice a k c, .slice none 0 0] ∧ MineL shapeLay AnyA wr (P + 1) 123 (.slice a k c) (mkL (fun i => shapeAt xs (5 + 3 * i)) k)) (fun i _ => nTabs xs - (intOf i).toNat)
  case atStart => exact ⟨0, Nat.zero_le _, rfl, H4, none, 0, B4, M5⟩
  case round =>
    clear H4 B4 M5 hr4
    obtain ⟨k, hk, rfl, H4, a, c, B4, M4⟩ := hrel
    have hr4 := hr.below H4.below
    by_cases hlt2 : k < nTabs xs
    · have Hd := H4.mono (below_drewN_ (rf wr) 1)
      have hrd : Rd wr.drew .u8 ao xs.length cap xs := hr4.below (below_drewN_ (rf wr) 1)
      have Bd : Blk wr.drew P 63 #[.int .i64 (el xs 3), .slice a k c, .slice none 0 0] := B4
      have Md : MineL shapeLay AnyA wr.drew (P + 1) 123 (.slice a k c) (mkL (fun i => shapeAt xs (5 + 3 * i)) k) := M4.drew
      replace Hd : DB w R ao xs.length cap (5 + 3 * k) wr.drew := Hd
      have hwf := shapeAt_wf hr.fit (5 + 3 * k)
      have hc4 := B4.cell 1
      simp at hc4
      have hlk : Hid ((mkL (fun i => shapeAt xs (5 + 3 * i)) k).length = k) := mkL_length _ _
      have hml : Hid ((mkL (fun i => shapeAt xs (5 + 3 * i)) k).length + 1 ≤ maxLen) := by show _ ≤ _; rw [hlk.out]; simp [maxLen]; omega
      have hms : Hid (((mkL (fun i => shapeAt xs (5 + 3 * i)) k).length + 1) * 24 ≤ 140737488355328) := by show _ ≤ _; rw [hlk.out]; omega
      have hPR : ¬ P = R := by omega
      go_wp2_with fail
      go_region_law
        ((first
          | (go_simp; go_at_call 100; refine (int1_any R ao xs.length cap (5 + 3 * k) xs wr.drew hrd Hd.rdr (by omega)).mono ?_; rintro e w6 ⟨rfl, hq6, hs6⟩; have H6 := Hd.step hq6 hs6 fun k hk => Nat.le_of_eq hk.symm; have hr6 := hrd.step hs6 (Hd.rdr.apart hrd); have B6 := Bd.step hs6 hPR; have M6 := Md.far hs6 (fun k hk => by omega); have hc6 : w6.cell? ⟨P, 1, none⟩ = some (.slice a k c) := B6.cell 1)
          | (go_simp; go_at_call 100; refine (int1_any R ao xs.length cap (5 + 3 * k + 1) xs w6 hr6 H6.rdr (by omega)).mono ?_; rintro e w7 ⟨rfl, hq7, hs7⟩; have H7 := H6.step hq7 hs7 fun k hk => Nat.le_of_eq hk.symm; have hr7 := hr6.step hs7 (H6.rdr.apart hr6); have B7 := B6.step hs7 hPR; have M7 := M6.far hs7 (fun k hk => by omega); have hc7 : w7.cell? ⟨P, 1, none⟩ = some (.slice a k c) := B7.cell 1)
          | (go_simp; go_at_call 100; refine (int1_any R ao xs.length cap (5 + 3 * k + 1 + 1) xs w7 hr7 H7.rdr (by omega)).mono ?_; rintro e w8 ⟨rfl, hq8, hs8⟩; have H8 := H7.step hq8 hs8 fun k hk => Nat.le_of_eq hk.symm; have hr8 := hr7.step hs8 (H7.rdr.apart hr7); have B8 := B7.step hs8 hPR; have M8 := M7.far hs8 (fun k hk => by omega); have hc8 : w8.cell? ⟨P, 1, none⟩ = some (.slice a k c) := B8.cell 1; have hc8b : (w8.alloc (.cells #[.int .i64 (el xs (5 + 3 * k)), .int .i64 (el xs (5 + 3 * k + 1)), .int .i64 (el xs (5 + 3 * k + 1 + 1))] 123)).cell? ⟨P, 1, none⟩ = some (.slice a k c) := (B8.alloc _).cell 1)
          | (refine step_append_lay (L := shapeLay) (A := AnyA) (by rfl) _ _ 47 (by rfl) sty_shapes (P + 1) (by rfl) (M8.below (al (rf w8) _)) (fun _ _ => trivial) (by rfl) (Src.lit1 (x := shapeAt xs (5 + 3 * k)) (cs := (shapeAt xs (5 + 3 * k)).cells) (Blk.new w8 123 (shapeAt xs (5 + 3 * k)).cells.toArray) ⟨rfl, hwf⟩) hml.out hms.out (by simp; have := B8.lt; omega) ?_; intro v9 w9 hm9 hb9; have M9 : MineL shapeLay AnyA w9 (P + 1) 123 v9 (mkL (fun i => shapeAt xs (5 + 3 * i)) (k + 1)) := (by rw [mkL_succ]; exact hm9); obtain ⟨a9, c9, rfl⟩ := M9.formN (mkL_length _ _); have B9 : Blk w9 P 63 #[.int .i64 (el xs 3), .slice a k c, .slice none 0 0] := Blk.below (B8.alloc _) hb9 (Nat.lt_succ_self P); have hc9 : w9.cell? ⟨P, 1, none⟩ = some (.slice a k c) := B9.cell 1; have hf9 := B9.frozen 1; have hz9 := B9.lt)))
      all_goals
        have H9 := (H8.mono (al (rf w8) (.cells (shapeAt xs (5 + 3 * k)).cells.toArray 123))).grow hb9 (by omega)
        have H10 := H9.far (p := ⟨P, 1, none⟩) hRP (.slice a9 (k + 1) c9)
        have B10 : Blk (w9.setCell ⟨P, 1, none⟩ (.slice a9 (k + 1) c9)) P 63 #[.int .i64 (el xs 3), .slice a9 (k + 1) c9, .slice none 0 0] := B9.set_ 1 _
        have M10 := M9.far (Step.set (fun b => b = P) w9 ⟨P, 1, none⟩ rfl (.slice a9 (k + 1) c9)) fun b hb => by omega
        replace H10 : DB w R ao xs.length cap (5 + 3 * (k + 1)) _ := H10
        clear H9 B9 M9 hc9 hf9 hz9 hb9 hm9 H8 B8 M8 hc8 hc8b hr8 hs8 hq8 H7 B7 M7 hc7 hr7 hs7 hq7 H6 B6 M6 hc6 hr6 hs6 hq6 hml hms
        go_wp2_with fail
        go_roundw
        case rel => exact ⟨k + 1, by omega, by go_num, H10, a9, c9, B10, M10⟩
        case measure => simp [intOf]; omega
    · obtain rfl : k = nTabs xs := by omega
      clear hlt2 hk
      go_wp2_with fail
      refine (int_any R ao xs.length cap (5 + 3 * nTabs xs) 2 xs _ hr4 H4.rdr (by omega) (by omega)).mono ?_
      rintro e w6 ⟨rfl, hq6, hs6⟩
      have H6 := H4.step hq6 hs6 fun k hk => Nat.le_of_eq hk.symm
      rw [show 5 + 3 * nTabs xs + 2 = 7 + 3 * nTabs xs from by omega] at H6
      have hr6 := hr4.step hs6 (H4.rdr.apart hr4)
      have B6 := B4.step hs6 (by omega)
      have M6 := M4.far hs6 fun k hk => by omega
      clear H4 B4 M4 hr4 hq6 hs6
      have hC := numAt_range hr.fit (5 + 3 * nTabs xs) 2
      have hCn : ((nCode xs : Nat) : Int) = numAt xs (5 + 3 * nTabs xs) 2 := by unfold nCode; omega
      have hCl := nCode_le hr.fit
      rw [← hCn]
      clear hCn hC
      go_wp2_with fail
      refine (left_any R ao xs.length cap (7 + 3 * nTabs xs) _ w6 H6.rdr hn (by omega) (by omega)).mono ?_
      rintro e w7 ⟨rfl, q, rfl⟩
      replace H6 := H6.mono (below_drewN_ (rf w6) q)
      replace B6 : Blk (w6.drewN q) P 63 _ := B6
      replace M6 := M6.below (below_drewN_ (rf w6) q)
      generalize w6.drewN q = w7 at *
      clear hr6
      have hz0 := H6.b0.lt
      have hz1 := H6.b1.lt
      have hf0 := H6.b1.frozen 0
      have hf1 := H6.b1.frozen 1
      have hg0 := H6.b0.frozen 0
      have hg1 := H6.b0.frozen 1
      have hg2 := H6.b0.frozen 2
      obtain ⟨hc0, hc1⟩ := H6.b1.two
      obtain ⟨hd0, hd1⟩ := H6.b2.two
      have he0 := H6.b0.cell 0
      have he1 := H6.b0.cell 1
      have he2 := H6.b0.cell 2
      simp at he0 he1 he2
      have hBr := H6.below
      by_cases h8 : xs.length < 7 + 3 * nTabs xs + 14 * nCode xs
      · have hE : Hid (decE xs = (3, (xs.length : Int))) := by show _ = _; rw [HE.out, if_pos h8]
        rw [decide_eq_false (by omega)]
        go_wp2_with fail
        go_region
        go_wp2_with fail
        exact bodyPost_ret (v := .tuple #[.agg #[.int .i64 0, .slice none 0 0, .slice none 0 0], .agg #[.int .i64 3, .int .i64 (xs.length : Int)]]) (by simp [results, Try.results50, go_sem, hc0, hc1, hd0, hd1, he0, he1, he2, hf0, hf1, hg0, hg1, hg2, hz0, hz1]) rfl (DecPost.bad hE.out (by decide) (by go_grown))
      rw [decide_eq_true (by omega)]
      replace HE : Hid (decE xs = if 7 + 3 * nTabs xs + 14 * nCode xs < xs.length then (4, ((7 + 3 * nTabs xs + 14 * nCode xs : Nat) : Int))
        else progF (progAt xs)) := by show _ = _; rw [HE.out, if_neg h8]
      have h8' : 7 + 3 * nTabs xs + 14 * nCode xs ≤ xs.length := by omega
      clear h8 hz0 hz1 hf0 hf1 hg0 hg1 hg2 hc0 hc1 hd0 hd1 he0 he1 he2 hBr
      go_wp2_with fail
      obtain ⟨C, hC⟩ : ∃ C, C = w7.heap.size := ⟨_, rfl⟩
      have hPC : P < C := by rw [hC]; exact B6.lt
      have hCw : C ≤ w7.heap.size := Nat.le_of_eq hC
      have N6 : MineL insLay AnyA w7 C 56 (.slice none 0 0) (mkL (fun i => insAt xs (7 + 3 * nTabs xs + 14 * i)) 0) := MineL.nil _ _ _ _ _
      obtain ⟨_, _, e, hT6, _⟩ := M6.rd (A' := fun b => b ≤ P ∨ C ≤ b) (fun _ _ _ => trivial) (fun b h1 h2 h3 => by omega)
      rw [mkL_length] at e hT6
      cases e
      have S6 : Step (fun b => b ≤ P ∨ C ≤ b) w7 w7 := .refl _ _
      obtain ⟨wq, hwq⟩ : ∃ wq, wq = w7 := ⟨_, rfl⟩
      rw [← hwq] at hT6
      replace S6 : Step (fun b => b ≤ P ∨ C ≤ b) wq w7 := by rw [hwq]; exact S6
      clear hC hwq M6
      go_loopw [8, 69] (fun _ i wr => ∃ k : Nat, k ≤ nCode xs ∧ i = .int .i64 k ∧ DB w R ao xs.length cap (7 + 3 * nTabs xs + 14 * k) wr ∧ Step (fun b => b ≤ P ∨ C ≤ b) wq wr ∧ C ≤ wr.heap.size ∧ ∃ a' c', Blk wr P 63 #[.int .i64 (el xs 3), .slice a (nTabs xs) c, .slice a' k c'] ∧ MineL insLay AnyA wr C 56 (.slice a' k c') (mkL (fun i => insAt xs (7 + 3 * nTabs xs + 14 * i)) k)) (fun _ i _ => nCode xs - (intOf i).toNat)
      case atStart => exact ⟨0, Nat.zero_le _, rfl, H6, S6, hCw, none, 0, B6, N6⟩
      case round =>
        clear H6 S6 B6 N6 hCw
        obtain ⟨k, hk, rfl, H6, S6, hCw, a', c', B6, N6⟩ := hrel
        have hr6 := hr.below H6.below
        by_cases hlt2 : k < nCode xs
        · obtain ⟨o, ho⟩ : ∃ o, o = 7 + 3 * nTabs xs + 14 * k := ⟨_, rfl⟩
          rw [← ho] at H6
          have hoL : o + 14 ≤ xs.length := by omega
          have HO := Lib.hid ho
          clear ho
          have hnPR : ¬ P = R := by omega
          have hSR : ∀ b, b = R → b ≤ P ∨ C ≤ b := fun b hb => .inl (by omega)
          have HS := Lib.hid hSR
          clear hSR
          have hlk : Hid ((mkL (fun i => insAt xs (7 + 3 * nTabs xs + 14 * i)) k).length = k) := mkL_length _ _
          have hml : Hid ((mkL (fun i => insAt xs (7 + 3 * nTabs xs + 14 * i)) k).length + 1 ≤ maxLen) := by show _ ≤ _; rw [hlk.out]; simp [maxLen]; omega
          have hms : Hid (((mkL (fun i => insAt xs (7 + 3 * nTabs xs + 14 * i)) k).length + 1) * 48 ≤ 140737488355328) := by show _ ≤ _; rw [hlk.out]; omega
          go_wp2_with fail
          refine (int1_any R ao xs.length cap (o) xs _ hr6 H6.rdr (by omega)).mono ?_
          rintro e w8 ⟨rfl, hq8, hs8⟩
          have H8 := H6.step hq8 hs8 fun k hk => Nat.le_of_eq hk.symm
          have hr8 := hr6.step hs8 (H6.rdr.apart hr6)
          have B8 := B6.step hs8 hnPR
          have N8 := N6.far hs8 fun k hk => by omega
          have S8 := S6.trans (hs8.mono HS.out)
          have hCw8 : C ≤ w8.heap.size := Nat.le_trans hCw hs8.size
          clear H6 hr6 S6 B6 N6 hCw hq8 hs8
          go_wp2_with fail
          refine (int1_any R ao xs.length cap (o + 1) xs _ hr8 H8.rdr (by omega)).mono ?_
          rintro e w9 ⟨rfl, hq9, hs9⟩
          have H9 := H8.step hq9 hs9 fun k hk => Nat.le_of_eq hk.symm
          have hr9 := hr8.step hs9 (H8.rdr.apart hr8)
          have B9 := B8.step hs9 hnPR
          have N9 := N8.far hs9 fun k hk => by omega
          have S9 := S8.trans (hs9.mono HS.out)
          have hCw9 : C ≤ w9.heap.size := Nat.le_trans hCw8 hs9.size
          clear H8 hr8 S8 B8 N8 hCw8 hq9 hs9
          go_wp2_with fail
          refine (int1_any R ao xs.length cap (o + 1 + 1) xs _ hr9 H9.rdr (by omega)).mono ?_
          rintro e w10 ⟨rfl, hq10, hs10⟩
          have H10 := H9.step hq10 hs10 fun k hk => Nat.le_of_eq hk.symm
          have hr10 := hr9.step hs10 (H9.rdr.apart hr9)
          have B10 := B9.step hs10 hnPR
          have N10 := N9.far hs10 fun k hk => by omega
          have S10 := S9.trans (hs10.mono HS.out)
          have hCw10 : C ≤ w10.heap.size := Nat.le_trans hCw9 hs10.size
          clear H9 hr9 S9 B9 N9 hCw9 hq10 hs10
          go_wp2_with fail
          refine (int1_any R ao xs.length cap (o + 1 + 1 + 1) xs _ hr10 H10.rdr (by omega)).mono ?_
          rintro e w11 ⟨rfl, hq11, hs11⟩
          have H11 := H10.step hq11 hs11 fun k hk => Nat.le_of_eq hk.symm
          have hr11 := hr10.step hs11 (H10.rdr.apart hr10)
          have B11 := B10.step hs11 hnPR
          have N11 := N10.far hs11 fun k hk => by omega
          have S11 := S10.trans (hs11.mono HS.out)
          have hCw11 : C ≤ w11.heap.size := Nat.le_trans hCw10 hs11.size
          clear H10 hr10 S10 B10 N10 hCw10 hq11 hs11
          go_wp2_with fail
          refine (int_any R ao xs.length cap (o + 1 + 1 + 1 + 1) 2 xs _ hr11 H11.rdr (by omega) (by omega)).mono ?_
          rintro e w12 ⟨rfl, hq12, hs12⟩
          have H12 := H11.step hq12 hs12 fun k hk => Nat.le_of_eq hk.symm
          have hr12 := hr11.step hs12 (H11.rdr.apart hr11)
          have B12 := B11.step hs12 hnPR
          have N12 := N11.far hs12 fun k hk => by omega
          have S12 := S11.trans (hs12.mono HS.out)
          have hCw12 : C ≤ w12.heap.size := Nat.le_trans hCw11 hs12.size
          clear H11 hr11 S11 B11 N11 hCw11 hq12 hs12
          go_wp2_with fail
          obtain ⟨X, hX⟩ : ∃ X, X = w12.heap.size := ⟨_, rfl⟩
          have BX : Blk (w12.alloc (.cells #[.int .i64 (el xs o), .int .i64 (el xs (o + 1)), .int .i64 (el xs (o + 1 + 1)), .int .i64 (el xs (o + 1 + 1 + 1)), .int .i64 (numAt xs (o + 1 + 1 + 1 + 1) 2), .int .u64 0] 56)) X 56 #[.int .i64 (el xs o), .int .i64 (el xs (o + 1)), .int .i64 (el xs (o + 1 + 1)), .int .i64 (el xs (o + 1 + 1 + 1)), .int .i64 (numAt xs (o + 1 + 1 + 1 + 1) 2), .int .u64 0] := by rw [hX]; exact Blk.new _ _ _
          have hXg : ∀ g, (Value.slice a' k c').ownBlock = some g → g < X := fun g hg => by rw [hX]; exact (N12.lt g hg).2
          have hCX : C ≤ X := by rw [hX]; exact hCw12
          have hal := al (rf w12) (.cells #[.int .i64 (el xs o), .int .i64 (el xs (o + 1)), .int .i64 (el xs (o + 1 + 1)), .int .i64 (el xs (o + 1 + 1 + 1)), .int .i64 (numAt xs (o + 1 + 1 + 1 + 1) 2), .int .u64 0] 56)
          have H13 := H12.mono hal
          have hr13 := hr12.below hal
          have B13 := B12.below hal B12.lt
          have N13 := N12.below hal
          have S13 := S12.trans (.of hal)
          have hCw13 := Nat.le_trans hCw12 hal.size
          rw [← hX]
          clear H12 hr12 B12 N12 S12 hCw12 hal hX
          generalize w12.alloc (.cells #[.int .i64 (el xs o), .int .i64 (el xs (o + 1)), .int .i64 (el xs (o + 1 + 1)), .int .i64 (el xs (o + 1 + 1 + 1)), .int .i64 (numAt xs (o + 1 + 1 + 1 + 1) 2), .int .u64 0] 56) = w13 at *
          have hXG := Lib.hid hXg
          clear hXg
          refine (num_any R ao xs.length cap (o + 1 + 1 + 1 + 1 + 2) 8 xs _ hr13 H13.rdr (by omega) (by omega)).mono ?_
          rintro e w14 ⟨rfl, hq14, hs14⟩
          have H14 := H13.step hq14 hs14 fun k hk => Nat.le_of_eq hk.symm
          have B14 := B13.step hs14 hnPR
          have BX14 := BX.step hs14 (by omega)
          have N14 := N13.far hs14 fun k hk => by omega
          have S14 := S13.trans (hs14.mono HS.out)
          have hCw14 : C ≤ w14.heap.size := Nat.le_trans hCw13 hs14.size
          clear H13 hr13 B13 BX N13 S13 hCw13 hq14 hs14
          have x0 := BX14.cell 0; have x1 := BX14.cell 1; have x2 := BX14.cell 2; have x3 := BX14.cell 3; have x4 := BX14.cell 4; have x5 := BX14.cell 5
          simp at x0 x1 x2 x3 x4 x5
          have xf := BX14.frozen 5
          have xz := BX14.lt
          have p2 := B14.cell 2
          simp at p2
          have N15 : MineL insLay AnyA (w14.setCell ⟨X, 5, none⟩ (.int .u64 (numAt xs (o + 1 + 1 + 1 + 1 + 2) 8))) C 56 (.slice a' k c') (mkL (fun i => insAt xs (7 + 3 * nTabs xs + 14 * i)) k) :=
            N14.step (Step.set (fun b => b = X) w14 ⟨X, 5, none⟩ rfl _) (fun g hg hb => by have := hXG.out g hg; omega) fun _ _ => trivial
          have hiw := insAt_wf hr.fit o
          have hiv : Hid ((fun i => insAt xs (7 + 3 * nTabs xs + 14 * i)) k = insAt xs o) := by show insAt xs (7 + 3 * nTabs xs + 14 * k) = _; rw [HO.out]
          have B15 : Blk (w14.setCell ⟨X, 5, none⟩ (.int .u64 (numAt xs (o + 1 + 1 + 1 + 1 + 2) 8))) P 63 #[.int .i64 (el xs 3), .slice a (nTabs xs) c, .slice a' k c'] := B14.far (p := ⟨X, 5, none⟩) (by show P ≠ X; omega) _
          clear B14 BX14 N14
          have hBN : Blk ((w14.setCell ⟨X, 5, none⟩ (.int .u64 (numAt xs (o + 1 + 1 + 1 + 1 + 2) 8))).alloc (.cells #[.int .i64 (el xs o), .int .i64 (el xs (o + 1)), .int .i64 (el xs (o + 1 + 1)), .int .i64 (el xs (o + 1 + 1 + 1)), .int .i64 (numAt xs (o + 1 + 1 + 1 + 1) 2), .int .u64 (numAt xs (o + 1 + 1 + 1 + 1 + 2) 8)] 56)) w14.heap.size 56 #[.int .i64 (el xs o), .int .i64 (el xs (o + 1)), .int .i64 (el xs (o + 1 + 1)), .int .i64 (el xs (o + 1 + 1 + 1)), .int .i64 (numAt xs (o + 1 + 1 + 1 + 1) 2), .int .u64 (numAt xs (o + 1 + 1 + 1 + 1 + 2) 8)] := by
            have := Blk.new (w14.setCell ⟨X, 5, none⟩ (.int .u64 (numAt xs (o + 1 + 1 + 1 + 1 + 2) 8))) 56 #[.int .i64 (el xs o), .int .i64 (el xs (o + 1)), .int .i64 (el xs (o + 1 + 1)), .int .i64 (el xs (o + 1 + 1 + 1)), .int .i64 (numAt xs (o + 1 + 1 + 1 + 1) 2), .int .u64 (numAt xs (o + 1 + 1 + 1 + 1 + 2) 8)]
            simp only [World.size_setCell] at this
            exact this
          go_wp2_with (at_builtin; refine wpList_append_lay (L := insLay) (A := AnyA) rfl _ _ 51 rfl sty_ins C rfl (N15.below (al (rf _) _)) (fun _ _ => trivial) rfl (Src.lit1 (x := insAt xs o) (cs := (insAt xs o).cells) hBN ⟨rfl, hiw⟩) hml.out hms.out ?c9 ?_; rotate_left 1; intro v9 w9 hm9 hb9; have M9 : MineL insLay AnyA w9 C 56 v9 (mkL (fun i => insAt xs (7 + 3 * nTabs xs + 14 * i)) (k + 1)) := (by rw [mkL_succ, hiv.out]; exact hm9); obtain ⟨a9, c9, rfl⟩ := M9.formN (mkL_length _ _); have B9 := Blk.below (B15.alloc _) hb9 hPC; have hc9 : w9.cell? ⟨P, 2, none⟩ = some (.slice a' k c') := B9.cell 2; have hf9 := B9.frozen 2; have hz9 := B9.lt)
          case c9 => simp; omega
          have H15 := (H14.far (p := ⟨X, 5, none⟩) (by show R < X; omega) (.int .u64 (numAt xs (o + 1 + 1 + 1 + 1 + 2) 8))).mono (al (rf _) (.cells #[.int .i64 (el xs o), .int .i64 (el xs (o + 1)), .int .i64 (el xs (o + 1 + 1)), .int .i64 (el xs (o + 1 + 1 + 1)), .int .i64 (numAt xs (o + 1 + 1 + 1 + 1) 2), .int .u64 (numAt xs (o + 1 + 1 + 1 + 1 + 2) 8)] 56))
          have H9 := H15.grow hb9 (by omega)
          have H17 := H9.far (p := ⟨P, 2, none⟩) hRP (.slice a9 (k + 1) c9)
          have S17 := (((S14.trans (Step.set (fun b => b ≤ P ∨ C ≤ b) w14 ⟨X, 5, none⟩ (.inr hCX) (.int .u64 (numAt xs (o + 1 + 1 + 1 + 1 + 2) 8)))).trans (Step.alloc _ _ _)).trans (.ofBelow hb9 fun b h => .inr h)).trans (Step.set (fun b => b ≤ P ∨ C ≤ b) w9 ⟨P, 2, none⟩ (.inl (Nat.le_refl _)) (.slice a9 (k + 1) c9))
          have B17 : Blk (w9.setCell ⟨P, 2, none⟩ (.slice a9 (k + 1) c9)) P 63 #[.int .i64 (el xs 3), .slice a (nTabs xs) c, .slice a9 (k + 1) c9] := B9.set_ 2 _
          have N17 := M9.far (Step.set (fun b => b = P) w9 ⟨P, 2, none⟩ rfl (.slice a9 (k + 1) c9)) fun b hb => by omega
          have hC9 : C ≤ (w9.setCell ⟨P, 2, none⟩ (.slice a9 (k + 1) c9)).heap.size := by
            rw [World.size_setCell]
            exact Nat.le_trans (by simp; omega) hb9.size
          rw [show o + 1 + 1 + 1 + 1 + 2 + 8 = 7 + 3 * nTabs xs + 14 * (k + 1) by have := HO.out; omega] at H17
          go_roundw
          case rel => exact ⟨k + 1, by omega, by go_num, H17, S17, hC9, a9, c9, B17, N17⟩
          case measure => simp [intOf]; omega
        · obtain rfl : k = nCode xs := by omega
          clear hlt2 hk
          obtain ⟨_, _, e, hN6, _⟩ := N6.rd (A' := fun b => b < C) (fun _ _ _ => trivial) (fun b h1 h2 h3 => by omega)
          rw [mkL_length] at e hN6
          cases e
          have hT7 := hT6.step S6
          have hN7 := hN6
          clear N6 hN6 hT6 S6 hr6
          go_wp2_with fail
          refine (left_any R ao xs.length cap (7 + 3 * nTabs xs + 14 * nCode xs) 1 wr H6.rdr hn (by omega) (by omega)).mono ?_
          rintro e w8 ⟨rfl, q, rfl⟩
          replace H6 := H6.mono (below_drewN_ (rf wr) q)
          replace B6 : Blk (wr.drewN q) P 63 _ := B6
          replace hT7 := hT7.below (below_drewN_ (rf wr) q)
          replace hN7 := hN7.below (below_drewN_ (rf wr) q)
          generalize wr.drewN q = w8 at *
          have hz0 := H6.b0.lt
          have hz1 := H6.b1.lt
          have hf0 := H6.b1.frozen 0
          have hf1 := H6.b1.frozen 1
          have hg0 := H6.b0.frozen 0
          have hg1 := H6.b0.frozen 1
          have hg2 := H6.b0.frozen 2
          obtain ⟨hc0, hc1⟩ := H6.b1.two
          have he0 := H6.b0.cell 0
          have he1 := H6.b0.cell 1
          have he2 := H6.b0.cell 2
          simp at he0 he1 he2
          have hBr := H6.below
          by_cases h9 : 7 + 3 * nTabs xs + 14 * nCode xs < xs.length
          · have hE : Hid (decE xs = (4, ((7 + 3 * nTabs xs + 14 * nCode xs : Nat) : Int))) := by show _ = _; rw [HE.out, if_pos h9]
            rw [decide_eq_true (by omega)]
            have hq0 := Blk.cell H6.rdr 0
            have hq1 := Blk.cell H6.rdr 1
            have hqz := Blk.lt H6.rdr
            simp at hq0 hq1
            have hRe := H6.hR
            have hne1 : ¬ R = w.heap.size := by omega
            have hne2 : ¬ w.heap.size = R := by omega
            have hne3 : ¬ R = w.heap.size + 1 := by omega
            have hne4 : ¬ w.heap.size + 1 = R := by omega
            clear hRe
            go_wp2_with fail
            go_region_held3 (fun w' => w'.cell? ⟨R, 1, none⟩ = some (.int .i64 (7 + 3 * (nTabs xs : Int) + 14 * (nCode xs : Int)))) (go_keep) (fail)
            all_goals
              go_wp2_with fail
              exact bodyPost_ret (v := .tuple #[.agg #[.int .i64 0, .slice none 0 0, .slice none 0 0], .agg #[.int .i64 4, .int .i64 ((7 + 3 * nTabs xs + 14 * nCode xs : Nat) : Int)]]) (by simp [results, Try.results50, go_sem, hc0, hc1, he0, he1, he2, hf0, hf1, hg0, hg1, hg2, hz0, hz1]) rfl (DecPost.bad hE.out (by decide) (by go_grown))
          rw [decide_eq_false (by omega)]
          replace HE : Hid (decE xs = progF (progAt xs)) := by show _ = _; rw [HE.out, if_neg h9]
          clear h9
          have p0 := B6.cell 0
          have p1 := B6.cell 1
          have p2 := B6.cell 2
          simp at p0 p1 p2
          have hz2 := B6.lt
          have hCk := Check_any (el xs 3) a _ c _ (progAt xs).tabs (progAt xs).code NoA w8 (by rw [show (progAt xs).tabs.length = nTabs xs from mkL_length _ _]; exact hT7.no) (by rw [show (progAt xs).code.length = nCode xs from mkL_length _ _]; exact hN7.no)
          rw [show (progAt xs).tabs.length = nTabs xs from mkL_length _ _, show (progAt xs).code.length = nCode xs from mkL_length _ _] at hCk
          replace hCk := Lib.hid hCk
          clear hz0 hz1 hf0 hf1 hg0 hg1 hg2 hc0 hc1 he0 he1 he2 hBr
          go_wp2_with fail
          refine hCk.out.mono ?_
          rintro e w9 ⟨rfl, hb9⟩
          obtain ⟨F, hF⟩ : ∃ F, progF ⟨el xs 3, (progAt xs).tabs, (progAt xs).code⟩ = F := ⟨_, rfl⟩
          rw [hF]
          replace HE : Hid (decE xs = F) := by show _ = _; rw [HE.out, ← hF]; rfl
          have hF0 : Hid (F.1 = 0 → F.2 = 0) := fun h => by
            have hwf : ∀ x ∈ (progAt xs).code, x.wf := fun x hx => by
              obtain ⟨i, hi, rfl⟩ := mem_nth hx
              simp only [progAt, mkL_length] at hi
              simp only [progAt]
              rw [nth_mkL _ _ _ hi]
              exact insAt_wf hr.fit _
            have := (progF_valid hwf (by rw [show progF (progAt xs) = F from hF]; exact h)).2
            rw [show progF (progAt xs) = F from hF] at this
            exact this
          replace H6 := H6.mono hb9
          replace B6 := B6.below hb9 B6.lt
          replace hT7 := hT7.below hb9
          replace hN7 := hN7.below hb9
          clear hb9 hF p0 p1 p2 hz2 hCk
          have hz0 := H6.b0.lt
          have hz1 := H6.b1.lt
          have hf0 := H6.b1.frozen 0
          have hf1 := H6.b1.frozen 1
          have hg0 := H6.b0.frozen 0
          have hg1 := H6.b0.frozen 1
          have hg2 := H6.b0.frozen 2
          obtain ⟨hc0, hc1⟩ := H6.b1.two
          have he0 := H6.b0.cell 0
          have he1 := H6.b0.cell 1
          have he2 := H6.b0.cell 2
          simp at he0 he1 he2
          have hBr := H6.below
          by_cases hc : F.1 = 0
          case neg =>
            have hE : Hid (decE xs = (F.1, F.2)) := HE.out
            have hq : (F.1 != 0) = true := by rw [bne_iff_ne]; exact hc
            have HC := Lib.hid hc
            clear hc
            go_wp2_with fail
            go_region
            go_wp2_with fail
            exact bodyPost_ret (v := .tuple #[.agg #[.int .i64 0, .slice none 0 0, .slice none 0 0], .agg #[.int .i64 F.1, .int .i64 F.2]]) (by simp [results, Try.results50, go_sem, hc0, hc1, he0, he1, he2, hf0, hf1, hg0, hg1, hg2, hz0, hz1]) rfl (DecPost.bad hE.out HC.out (by go_grown))
          have hq : (F.1 != 0) = false := by rw [hc]; rfl
          have p0 := B6.cell 0
          have p1 := B6.cell 1
          have p2 := B6.cell 2
          simp at p0 p1 p2
          have hz2 := B6.lt
          have HC := Lib.hid hc
          clear hc
          go_wp2_with fail
          have hRe := H6.hR
          have a0 : w.heap.size ≤ P := by omega
          have a1 : w.heap.size + 1 ≤ P := by omega
          have b0 : w.heap.size < C := by omega
          have b1 : w.heap.size + 1 < C := by omega
          refine bodyPost_ret (v := .tuple #[.agg #[.int .i64 (el xs 3), .slice a (nTabs xs) c, .slice a' (nCode xs) c'], .agg #[.int .i64 0, .int .i64 0]]) (by simp [results, Try.results50, go_sem, hc0, hc1, he0, he1, he2, hf0, hf1, hg0, hg1, hg2, hz0, hz1]) rfl (DecPost.good HE.out HC.out (hF0.out HC.out) ?_ ?_ (by go_grown))
          · exact ((((((hT7.set (p := ⟨w.heap.size, 0, none⟩) (.inl a0) _).set (p := ⟨w.heap.size, 1, none⟩) (.inl a0) _).set (p := ⟨w.heap.size, 2, none⟩) (.inl a0) _).set (p := ⟨w.heap.size + 1, 0, none⟩) (.inl a1) _).set (p := ⟨w.heap.size + 1, 1, none⟩) (.inl a1) _).below (al (rf _) _)).no
          · exact ((((((hN7.set (p := ⟨w.heap.size, 0, none⟩) b0 _).set (p := ⟨w.heap.size, 1, none⟩) b0 _).set (p := ⟨w.heap.size, 2, none⟩) b0 _).set (p := ⟨w.heap.size + 1, 0, none⟩) b1 _).set (p := ⟨w.heap.size + 1, 1, none⟩) b1 _).below (al (rf _) _)).no
end Go.Proofs.Ytfakdapglbgokaa
