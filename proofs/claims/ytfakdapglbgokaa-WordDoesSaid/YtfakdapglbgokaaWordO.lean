/-
  The law WordDoes. No condition.
-/
import Derived.Test.YtfakdapglbgokaaWordA
import Derived.Test.YtfakdapglbgokaaWordK
import Derived.Test.YtfakdapglbgokaaWordL
import Derived.Test.YtfakdapglbgokaaWordJ
import Derived.Test.YtfakdapglbgokaaWordF
import Derived.Test.YtfakdapglbgokaaWordE
import Derived.Test.YtfakdapglbgokaaBitsD
import Derived.Deep.RegionHeld3
namespace Go.Proofs.Ytfakdapglbgokaa
set_option linter.all false
open Go.RowKit
attribute [local go_sem ↓] Go.wp_at_zero Go.wp_at_succ

set_option maxRecDepth 100000 in
set_option maxHeartbeats 16000000 in
theorem WordDoes_law (slots : Int) (to_ co : Option Addr) (tn tc cn cc : Nat) (tabs : List Shape) (code : List Ins) (bo : Option Addr) (bn bc : Nat) (bs : List Int) (op : Int) (w : World)
    (hsl : Fits .i64 slots) (ht : RdL shapeLay NoA w to_ tn tc tabs) (hc : RdL insLay NoA w co cn cc code) (hb : Rd w .u8 bo bn bc bs) (hop : Fits .i64 op) :
    Calls Try.prog 6 #[.agg #[.int .i64 slots, .slice to_ tn tc, .slice co cn cc], .slice bo bn bc, .int .i64 op] w fun e w' => e = .returned (.bool true) ∧ Below w.heap.size w w' := by
  obtain rfl := ht.len
  obtain rfl := hc.len
  obtain rfl := hb.len
  have hbl := hb.lt
  have hal := al (rf w) (.cells #[.int .i64 slots, .slice to_ tabs.length tc, .slice co code.length cc] 63)
  have H : Kept (fun w' => Below w.heap.size w w' ∧ Blk w' w.heap.size 63 #[.int .i64 slots, .slice to_ tabs.length tc, .slice co code.length cc]) (w.alloc (.cells #[.int .i64 slots, .slice to_ tabs.length tc, .slice co code.length cc] 63)) := ⟨hal, Blk.new _ _ _⟩
  clear hal
  go_enter Try.func6, Try.ntmps6
  go_wp2_with fail
  refine (wordBegun_any _).mono ?_
  rintro e w1 ⟨rfl, hb1⟩
  replace H := H.to hb1
  clear hb1
  obtain ⟨hd0, hd1, hd2⟩ := H.out.2.three
  have hz := H.out.2.lt
  have hg := fun w' => GreatProgram_any slots to_ co tabs.length code.length tc cc w' ht.lt hc.lt
  have hGP := Lib.hid hg
  clear hg
  by_cases hg : 300 < tabs.length ∨ 65000 < code.length
  · have hgt : Hid ((decide (300 < tabs.length) || decide (65000 < code.length)) = true) := by show _ = _; simpa using hg
    clear hg
    go_wp2_with fail
    refine (hGP.out _).mono ?_
    rintro e w2 ⟨rfl, hb2⟩
    rw [hgt.out]
    have hB := (H.to hb2).out.1
    clear hd0 hd1 hd2 hz hb2
    go_wp2_with fail
    go_ret
    exact ⟨rfl, hB⟩
  have hgt : Hid ((decide (300 < tabs.length) || decide (65000 < code.length)) = false) := by show _ = _; simp; omega
  have hT5 : tabs.length ≤ 300 := by omega
  have hC6 : code.length ≤ 65000 := by omega
  clear hg
  go_wp2_with fail
  refine (hGP.out _).mono ?_
  rintro e w2 ⟨rfl, hb2⟩
  rw [hgt.out]
  clear hd0 hd1 hd2 hz hGP hgt
  replace H := H.to hb2
  clear hb2
  have hB := H.out.1
  by_cases hL : 50000 < bs.length
  · have hL' : (50000 : Int) < bs.length := by omega
    go_wp2_with fail
    go_ret
    exact ⟨rfl, hB⟩
  have hL' : (bs.length : Int) ≤ 50000 := by omega
  obtain ⟨hd0, hd1, hd2⟩ := H.out.2.three
  have hz := H.out.2.lt
  clear hB
  go_wp2_with fail
  refine (OwnProgram_any slots to_ co tc cc tabs code NoA w2 (ht.below H.out.1) (hc.below H.out.1) hT5 hC6).mono ?_
  rintro e w3 ⟨to3, co3, tc3, cc3, rfl, ht3, hc3, hb3⟩
  replace H := H.to hb3
  have H3 : Kept (fun w' => (Below w3.heap.size w3 w' ∧ RdL shapeLay NoA w' to3 tabs.length tc3 tabs) ∧ RdL insLay NoA w' co3 code.length cc3 code) w3 := ⟨⟨rf _, ht3⟩, hc3⟩
  clear hb3 ht3 hc3
  replace H := H.al (.cells #[.int .i64 slots, .slice to3 tabs.length tc3, .slice co3 code.length cc3] 63)
  have H4 := H3.new #[.int .i64 slots, .slice to3 tabs.length tc3, .slice co3 code.length cc3] 63
  clear hd0 hd1 hd2 hz H3
  go_wp2_with (at_builtin; refine wpList_clone rfl _ _ 77 rfl sty_bytes rfl rfl (hb.below H.out.1) (by omega) Nat.one_pos ?_; intro a4 c4 w4 hm4 hb4; have H5 := H4.to hb4; replace H := H.to hb4; obtain ⟨hd0, hd1, hd2⟩ := H.out.2.three; have hz := H.out.2.lt)
  replace H5 := Kept.mine H5 (hm4.base_le (base' := w3.heap.size) (by simp))
  obtain ⟨F, hF⟩ : ∃ F, progF ⟨slots, tabs, code⟩ = F := ⟨_, rfl⟩
  have HF := Lib.hid hF
  clear H4 hm4 hb4 hd0 hd1 hd2 hz hF
  refine (ProgramFault_any slots to_ co tc cc tabs code NoA w4 (ht.below H.out.1) (hc.below H.out.1)).mono ?_
  rintro e w5 ⟨rfl, hb5⟩
  rw [HF.out]
  replace H := (H.to hb5).al (.cells #[.int .i64 F.1, .int .i64 F.2] 65)
  have H6 := (H5.to hb5).new #[.int .i64 F.1, .int .i64 F.2] 65
  obtain ⟨hd0, hd1, hd2⟩ := H6.out.1.1.2.three
  have hz := H6.out.1.1.2.lt
  clear H5 hb5
  go_wp2_with fail
  refine (Encode_any slots to3 co3 tc3 cc3 tabs code NoA _ H6.out.1.1.1.1.2 H6.out.1.1.1.2).mono ?_
  rintro e w6 ⟨r6, rfl, hm6, hb6⟩
  rw [HF.out]
  obtain ⟨V, hV⟩ : ∃ V, encV ⟨slots, tabs, code⟩ = V := ⟨_, rfl⟩
  rw [hV] at hm6
  have HV := Lib.hid hV
  obtain ⟨a6, c6, rfl, hr6, _⟩ := hm6.rd
  replace H := (H.to hb6).al (.cells #[.int .i64 F.1, .int .i64 F.2] 65)
  have H7 := (((H6.to hb6).rd hr6).new #[.int .i64 F.1, .int .i64 F.2] 65)
  clear hd0 hd1 hd2 hz H6 hb6 hm6 hr6 hV
  go_wp2_with fail
  refine (Decode_any _ _ _ bs _ H7.out.1.1.1.2.rd_ (by omega)).mono ?_
  rintro e w7 ⟨to7, tc7, co7, cc7, rfl, ht7, hc7, hb7⟩
  obtain ⟨D, hD⟩ : ∃ D, decV bs = D := ⟨_, rfl⟩
  obtain ⟨E, hE⟩ : ∃ E, decE bs = E := ⟨_, rfl⟩
  rw [hD] at ht7 hc7 ⊢
  rw [hE]
  have HD := Lib.hid hD
  have HE := Lib.hid hE
  replace H := (H.to hb7).al (.cells #[.int .i64 D.slots, .slice to7 D.tabs.length tc7, .slice co7 D.code.length cc7] 63)
  replace H := H.al (.cells #[.int .i64 E.1, .int .i64 E.2] 65)
  have G7 : Kept (fun w' => RdL shapeLay NoA w' to7 D.tabs.length tc7 D.tabs ∧ RdL insLay NoA w' co7 D.code.length cc7 D.code) w7 := ⟨ht7, hc7⟩
  have H8 := (H7.to hb7).new #[.int .i64 D.slots, .slice to7 D.tabs.length tc7, .slice co7 D.code.length cc7] 63
  replace H8 := H8.new #[.int .i64 E.1, .int .i64 E.2] 65
  replace G7 := (G7.al (.cells #[.int .i64 D.slots, .slice to7 D.tabs.length tc7, .slice co7 D.code.length cc7] 63)).al (.cells #[.int .i64 E.1, .int .i64 E.2] 65)
  clear H7 hb7 ht7 hc7 hD hE
  go_wp2_with fail
  refine (ProgramOf_any _ _ _ bs _ (hb.below H.out.1) (by omega)).mono ?_
  rintro e w8 ⟨to8, tc8, co8, cc8, rfl, ht8, hc8, hb8⟩
  rw [HD.out] at ht8 hc8 ⊢
  rw [HE.out]
  replace H := (H.to hb8).al (.cells #[.int .i64 D.slots, .slice to8 D.tabs.length tc8, .slice co8 D.code.length cc8] 63)
  replace H := H.al (.cells #[.int .i64 E.1, .int .i64 E.2] 65)
  have G8 : Kept (fun w' => RdL shapeLay NoA w' to8 D.tabs.length tc8 D.tabs ∧ RdL insLay NoA w' co8 D.code.length cc8 D.code) w8 := ⟨ht8, hc8⟩
  have H9 := (H8.to hb8).new #[.int .i64 D.slots, .slice to8 D.tabs.length tc8, .slice co8 D.code.length cc8] 63
  replace H9 := H9.new #[.int .i64 E.1, .int .i64 E.2] 65
  replace G7 := ((G7.to hb8).al (.cells #[.int .i64 D.slots, .slice to8 D.tabs.length tc8, .slice co8 D.code.length cc8] 63)).al (.cells #[.int .i64 E.1, .int .i64 E.2] 65)
  replace G8 := (G8.al (.cells #[.int .i64 D.slots, .slice to8 D.tabs.length tc8, .slice co8 D.code.length cc8] 63)).al (.cells #[.int .i64 E.1, .int .i64 E.2] 65)
  clear H8 hb8 ht8 hc8
  go_wp2_with fail
  have K := (H.and H9).and (G7.and G8)
  have hfit7 : w7.heap.size + 1 = w7.heap.size + 1 := rfl
  rw [show (w7.alloc (.cells #[.int .i64 D.slots, .slice to7 D.tabs.length tc7, .slice co7 D.code.length cc7] 63)).heap.size = w7.heap.size + 1 by simp, show (w8.alloc (.cells #[.int .i64 D.slots, .slice to8 D.tabs.length tc8, .slice co8 D.code.length cc8] 63)).heap.size = w8.heap.size + 1 by simp] at K
  clear H H9 G7 G8 hfit7
  generalize (w8.alloc (.cells #[.int .i64 D.slots, .slice to8 D.tabs.length tc8, .slice co8 D.code.length cc8] 63)).alloc (.cells #[.int .i64 E.1, .int .i64 E.2] 65) = w9 at *
  have hKP : ∃ KP : World → Prop, Mono KP ∧ KP w9 ∧ (∀ w', KP w' → Below w.heap.size w w') ∧
      (∀ w', KP w' → Rd w' .u8 a6 V.length c6 V) ∧ (∀ w', KP w' → Rd w' .u8 a4 bs.length c4 bs) ∧
      (∀ w', KP w' → w'.cell? ⟨w3.heap.size, 0, none⟩ = some (.int .i64 slots) ∧ w'.cell? ⟨w3.heap.size, 1, none⟩ = some (.slice to3 tabs.length tc3) ∧ w'.cell? ⟨w3.heap.size, 2, none⟩ = some (.slice co3 code.length cc3) ∧ w'.cell? ⟨w5.heap.size, 0, none⟩ = some (.int .i64 F.1) ∧ w'.cell? ⟨w5.heap.size, 1, none⟩ = some (.int .i64 F.2) ∧ w'.cell? ⟨w6.heap.size, 0, none⟩ = some (.int .i64 F.1) ∧ w'.cell? ⟨w6.heap.size, 1, none⟩ = some (.int .i64 F.2) ∧ w'.cell? ⟨w7.heap.size, 0, none⟩ = some (.int .i64 D.slots) ∧ w'.cell? ⟨w7.heap.size, 1, none⟩ = some (.slice to7 D.tabs.length tc7) ∧ w'.cell? ⟨w7.heap.size, 2, none⟩ = some (.slice co7 D.code.length cc7) ∧ w'.cell? ⟨w7.heap.size + 1, 0, none⟩ = some (.int .i64 E.1) ∧ w'.cell? ⟨w7.heap.size + 1, 1, none⟩ = some (.int .i64 E.2) ∧ w'.cell? ⟨w8.heap.size, 0, none⟩ = some (.int .i64 D.slots) ∧ w'.cell? ⟨w8.heap.size, 1, none⟩ = some (.slice to8 D.tabs.length tc8) ∧ w'.cell? ⟨w8.heap.size, 2, none⟩ = some (.slice co8 D.code.length cc8) ∧ w'.cell? ⟨w8.heap.size + 1, 0, none⟩ = some (.int .i64 E.1) ∧ w'.cell? ⟨w8.heap.size + 1, 1, none⟩ = some (.int .i64 E.2) ∧ w'.cell? ⟨w.heap.size, 0, none⟩ = some (.int .i64 slots) ∧ w'.cell? ⟨w.heap.size, 1, none⟩ = some (.slice to_ tabs.length tc) ∧ w'.cell? ⟨w.heap.size, 2, none⟩ = some (.slice co code.length cc)) ∧
      (∀ w', KP w' → Calls Try.prog 52 #[.agg #[.int .i64 slots, .slice to3 tabs.length tc3, .slice co3 code.length cc3]] w' fun e w2 => e = .returned (.agg #[.int .i64 F.1, .int .i64 F.2]) ∧ Below w'.heap.size w' w2) ∧
      (∀ w', KP w' → Calls Try.prog 35 #[.agg #[.int .i64 D.slots, .slice to7 D.tabs.length tc7, .slice co7 D.code.length cc7], .agg #[.int .i64 D.slots, .slice to8 D.tabs.length tc8, .slice co8 D.code.length cc8]] w' fun e w2 => e = .returned (.bool true) ∧ Below w'.heap.size w' w2) ∧
      (∀ w', KP w' → Calls Try.prog 35 #[.agg #[.int .i64 slots, .slice to3 tabs.length tc3, .slice co3 code.length cc3], .agg #[.int .i64 slots, .slice to_ tabs.length tc, .slice co code.length cc]] w' fun e w2 => e = .returned (.bool true) ∧ Below w'.heap.size w' w2) ∧
      (∀ w', KP w' → Calls Try.prog 53 #[.slice a4 bs.length c4, .slice bo bs.length bc] w' fun e w2 => e = .returned (.bool true) ∧ w' = w2) := by
    have I1 : Mono (fun w' => (Below w.heap.size w w' ∧ Blk w' w.heap.size 63 #[.int .i64 slots, .slice to_ tabs.length tc, .slice co code.length cc]) ∧ ((RdL shapeLay NoA w' to3 tabs.length tc3 tabs ∧ RdL insLay NoA w' co3 code.length cc3 code) ∧ Blk w' w3.heap.size 63 #[.int .i64 slots, .slice to3 tabs.length tc3, .slice co3 code.length cc3])) := inferInstance
    have I2 : Mono (fun w' => (Mine w' w3.heap.size 5 .u8 (.slice a4 bs.length c4) bs ∧ Blk w' w5.heap.size 65 #[.int .i64 F.1, .int .i64 F.2]) ∧ (Rd w' .u8 a6 V.length c6 V ∧ Blk w' w6.heap.size 65 #[.int .i64 F.1, .int .i64 F.2])) := inferInstance
    have I3 : Mono (fun w' => (Blk w' w7.heap.size 63 #[.int .i64 D.slots, .slice to7 D.tabs.length tc7, .slice co7 D.code.length cc7] ∧ Blk w' (w7.heap.size + 1) 65 #[.int .i64 E.1, .int .i64 E.2]) ∧ (Blk w' w8.heap.size 63 #[.int .i64 D.slots, .slice to8 D.tabs.length tc8, .slice co8 D.code.length cc8] ∧ Blk w' (w8.heap.size + 1) 65 #[.int .i64 E.1, .int .i64 E.2])) := inferInstance
    have I4 : Mono (fun w' => (RdL shapeLay NoA w' to7 D.tabs.length tc7 D.tabs ∧ RdL insLay NoA w' co7 D.code.length cc7 D.code) ∧ (RdL shapeLay NoA w' to8 D.tabs.length tc8 D.tabs ∧ RdL insLay NoA w' co8 D.code.length cc8 D.code)) := inferInstance
    refine ⟨(fun w' => (((Below w.heap.size w w' ∧ Blk w' w.heap.size 63 #[.int .i64 slots, .slice to_ tabs.length tc, .slice co code.length cc]) ∧ ((RdL shapeLay NoA w' to3 tabs.length tc3 tabs ∧ RdL insLay NoA w' co3 code.length cc3 code) ∧ Blk w' w3.heap.size 63 #[.int .i64 slots, .slice to3 tabs.length tc3, .slice co3 code.length cc3])) ∧ ((Mine w' w3.heap.size 5 .u8 (.slice a4 bs.length c4) bs ∧ Blk w' w5.heap.size 65 #[.int .i64 F.1, .int .i64 F.2]) ∧ (Rd w' .u8 a6 V.length c6 V ∧ Blk w' w6.heap.size 65 #[.int .i64 F.1, .int .i64 F.2]))) ∧ (((Blk w' w7.heap.size 63 #[.int .i64 D.slots, .slice to7 D.tabs.length tc7, .slice co7 D.code.length cc7] ∧ Blk w' (w7.heap.size + 1) 65 #[.int .i64 E.1, .int .i64 E.2]) ∧ (Blk w' w8.heap.size 63 #[.int .i64 D.slots, .slice to8 D.tabs.length tc8, .slice co8 D.code.length cc8] ∧ Blk w' (w8.heap.size + 1) 65 #[.int .i64 E.1, .int .i64 E.2])) ∧ ((RdL shapeLay NoA w' to7 D.tabs.length tc7 D.tabs ∧ RdL insLay NoA w' co7 D.code.length cc7 D.code) ∧ (RdL shapeLay NoA w' to8 D.tabs.length tc8 D.tabs ∧ RdL insLay NoA w' co8 D.code.length cc8 D.code)))), ⟨fun h hb => ⟨⟨I1.mono h.1.1 hb, I2.mono h.1.2 hb⟩, I3.mono h.2.1 hb, I4.mono h.2.2 hb⟩⟩, ⟨⟨⟨K.out.1.1, ⟨⟨K.out.1.2.1.1.1.1.1.1.1.1.1.1.2, K.out.1.2.1.1.1.1.1.1.1.1.1.2⟩, K.out.1.2.1.1.1.1.1.1.1.1.2⟩⟩, ⟨K.out.1.2.1.1.1.1.1.1.1.2, K.out.1.2.1.1.1.1.1.1.2⟩, K.out.1.2.1.1.1.1.1.2, K.out.1.2.1.1.1.1.2⟩, ⟨⟨K.out.1.2.1.1.1.2, K.out.1.2.1.1.2⟩, K.out.1.2.1.2, K.out.1.2.2⟩, K.out.2⟩, fun w' k => k.1.1.1.1, fun w' k => k.1.2.2.1, fun w' k => k.1.2.1.1.rd_, fun w' k => ⟨k.1.1.2.2.three.1, k.1.1.2.2.three.2.1, k.1.1.2.2.three.2.2, k.1.2.1.2.two.1, k.1.2.1.2.two.2, k.1.2.2.2.two.1, k.1.2.2.2.two.2, k.2.1.1.1.three.1, k.2.1.1.1.three.2.1, k.2.1.1.1.three.2.2, k.2.1.1.2.two.1, k.2.1.1.2.two.2, k.2.1.2.1.three.1, k.2.1.2.1.three.2.1, k.2.1.2.1.three.2.2, k.2.1.2.2.two.1, k.2.1.2.2.two.2, k.1.1.1.2.three.1, k.1.1.1.2.three.2.1, k.1.1.1.2.three.2.2⟩, fun w' k => ?_, fun w' k => ?_, fun w' k => ?_, fun w' k => ?_⟩
    · have := Check_any slots to3 co3 tc3 cc3 tabs code NoA w' k.1.1.2.1.1 k.1.1.2.1.2
      rw [HF.out] at this
      exact this
    · have := SameProgram_any D.slots D.slots to7 co7 to8 co8 tc7 cc7 tc8 cc8 D.tabs D.tabs D.code D.code NoA NoA w' k.2.2.1.1 k.2.2.1.2 k.2.2.2.1 k.2.2.2.2
      rw [decide_eq_true rfl] at this
      exact this
    · have := SameProgram_any slots slots to3 co3 to_ co tc3 cc3 tc cc tabs tabs code code NoA NoA w' k.1.1.2.1.1 k.1.1.2.1.2 (ht.below k.1.1.1.1) (hc.below k.1.1.1.1)
      rw [decide_eq_true rfl] at this
      exact this
    · have := SameBytes_any a4 bo bs.length c4 bs.length bc bs bs w' k.1.2.1.1.rd_ (hb.below k.1.1.1.1)
      rw [decide_eq_true rfl] at this
      exact this
  obtain ⟨KP, hMono, K9, hKB, hKV, hK4, hKS, hC1, hC2, hC3, hC4⟩ := hKP
  clear K
  have K9d := hMono.mono K9 (show Below w9.heap.size w9 w9.drew from ⟨rfl, rfl, rfl, Nat.le_refl _, fun _ _ => rfl⟩)
  have HS := Lib.hid hKS
  have HC1 := Lib.hid hC1
  have HC2 := Lib.hid hC2
  have HC3 := Lib.hid hC3
  have HC4 := Lib.hid hC4
  have hqF := fun w => eq_fault F.1 F.2 F.1 F.2 w
  rw [decide_eq_true ⟨rfl, rfl⟩] at hqF
  have hqE := fun w => eq_fault E.1 E.2 E.1 E.2 w
  rw [decide_eq_true ⟨rfl, rfl⟩] at hqE
  have hgF := guard_fault
  have ho3 : (op = 16 ∧ isEnd 16 = true) ∨ ((op == 16) = false ∧ (op == 17) = true ∧ isEnd op = true) ∨ ((op == 16) = false ∧ (op == 17) = false ∧ isEnd op = false) := by
    by_cases h6 : op = 16
    · exact .inl ⟨h6, rfl⟩
    by_cases h7 : op = 17
    · subst h7; exact .inr (.inl ⟨rfl, rfl, rfl⟩)
    · exact .inr (.inr ⟨by simpa using h6, by simpa using h7, by unfold isEnd; simp [h6, h7]⟩)
  clear hKS hC1 hC2 hC3 hC4 hsl hop
  rcases ho3 with ⟨rfl, o2⟩ | ⟨o1, o2, o3⟩ | ⟨o1, o2, o3⟩
  · refine wp_region_noPanic ?_
    refine wp_region_held_drew (S := (fun w' => w'.cell? ⟨w3.heap.size, 0, none⟩ = some (.int .i64 slots) ∧ w'.cell? ⟨w3.heap.size, 1, none⟩ = some (.slice to3 tabs.length tc3) ∧ w'.cell? ⟨w3.heap.size, 2, none⟩ = some (.slice co3 code.length cc3) ∧ w'.cell? ⟨w5.heap.size, 0, none⟩ = some (.int .i64 F.1) ∧ w'.cell? ⟨w5.heap.size, 1, none⟩ = some (.int .i64 F.2) ∧ w'.cell? ⟨w6.heap.size, 0, none⟩ = some (.int .i64 F.1) ∧ w'.cell? ⟨w6.heap.size, 1, none⟩ = some (.int .i64 F.2) ∧ w'.cell? ⟨w7.heap.size, 0, none⟩ = some (.int .i64 D.slots) ∧ w'.cell? ⟨w7.heap.size, 1, none⟩ = some (.slice to7 D.tabs.length tc7) ∧ w'.cell? ⟨w7.heap.size, 2, none⟩ = some (.slice co7 D.code.length cc7) ∧ w'.cell? ⟨w7.heap.size + 1, 0, none⟩ = some (.int .i64 E.1) ∧ w'.cell? ⟨w7.heap.size + 1, 1, none⟩ = some (.int .i64 E.2) ∧ w'.cell? ⟨w8.heap.size, 0, none⟩ = some (.int .i64 D.slots) ∧ w'.cell? ⟨w8.heap.size, 1, none⟩ = some (.slice to8 D.tabs.length tc8) ∧ w'.cell? ⟨w8.heap.size, 2, none⟩ = some (.slice co8 D.code.length cc8) ∧ w'.cell? ⟨w8.heap.size + 1, 0, none⟩ = some (.int .i64 E.1) ∧ w'.cell? ⟨w8.heap.size + 1, 1, none⟩ = some (.int .i64 E.2) ∧ w'.cell? ⟨w.heap.size, 0, none⟩ = some (.int .i64 slots) ∧ w'.cell? ⟨w.heap.size, 1, none⟩ = some (.slice to_ tabs.length tc) ∧ w'.cell? ⟨w.heap.size, 2, none⟩ = some (.slice co code.length cc))) (by kernel_rfl) ?_ (fun hHeld => ?_)
    · exact HS.out _ K9d
    refine wpAnyH_take (i := 0) (oi := ?oi_1) (v := ?v_1) ?hi_1 ?h1_1 ?h2_1 ?h3_1 (fun _ _ _ h => h) (Or.inl ⟨?hw_1, ?hy_1⟩) ?hS_1 ?rest_1
    case hi_1 => simp only [List.getElem?_toArray, List.getElem?_cons_succ, List.getElem?_cons_zero]; rfl
    case h1_1 => kernel_rfl
    case h2_1 => kernel_rfl
    case h3_1 => kernel_rfl
    case hw_1 => rfl
    case hS_1 => assumption
    case hy_1 => intro w hSw; (try dsimp only at hSw); go_simp; try with_reducible rfl
    try simp only [Act.put, List.setIfInBounds_toArray, List.set_cons_zero, List.set_cons_succ]
    refine wpAnyH_take (i := 2) (oi := ?oi_2) (v := ?v_2) ?hi_2 ?h1_2 ?h2_2 ?h3_2 (fun _ _ _ h => h) (Or.inl ⟨?hw_2, ?hy_2⟩) ?hS_2 ?rest_2
    case hi_2 => simp only [List.getElem?_toArray, List.getElem?_cons_succ, List.getElem?_cons_zero]; rfl
    case h1_2 => kernel_rfl
    case h2_2 => kernel_rfl
    case h3_2 => kernel_rfl
    case hw_2 => rfl
    case hS_2 => assumption
    case hy_2 => intro w hSw; (try dsimp only at hSw); go_simp; try with_reducible rfl
    try simp only [Act.put, List.setIfInBounds_toArray, List.set_cons_zero, List.set_cons_succ]
    refine wpAnyH_ready (rs := [1]) (by kernel_rfl) (by simp) ?_
    refine AllReadyH.cons (o := ?o_3) ?ho_3 (fun K hK => ?step_3) AllReadyH.nil
    case ho_3 => simp only [List.getElem?_toArray, List.getElem?_cons_succ, List.getElem?_cons_zero]; rfl
    go_simp
    (go_at_call 52; (with_reducible refine (HC1.out _ K9d).mono ?_); rintro e wA ⟨rfl, hbA⟩; have KA := hMono.mono K9d hbA)
    refine hK.out _ _ ?_ (fun hHeld => ?_)
    · (first | exact HS.out _ KC | exact HS.out _ KB | exact HS.out _ KA | exact HS.out _ K9d)
    clear hK K
    try simp only [Act.put, List.setIfInBounds_toArray, List.set_cons_zero, List.set_cons_succ]
    refine wpAnyH_take (i := 3) (oi := ?oi_4) (v := ?v_4) ?hi_4 ?h1_4 ?h2_4 ?h3_4 (fun _ _ _ h => h) (Or.inl ⟨?hw_4, ?hy_4⟩) ?hS_4 ?rest_4
    case hi_4 => simp only [List.getElem?_toArray, List.getElem?_cons_succ, List.getElem?_cons_zero]; rfl
    case h1_4 => kernel_rfl
    case h2_4 => kernel_rfl
    case h3_4 => kernel_rfl
    case hw_4 => rfl
    case hS_4 => assumption
    case hy_4 => intro w hSw; (try dsimp only at hSw); go_simp; try with_reducible rfl
    try simp only [Act.put, List.setIfInBounds_toArray, List.set_cons_zero, List.set_cons_succ]
    refine wpAnyH_take (i := 4) (oi := ?oi_5) (v := ?v_5) ?hi_5 ?h1_5 ?h2_5 ?h3_5 (fun _ _ _ h => h) (Or.inl ⟨?hw_5, ?hy_5⟩) ?hS_5 ?rest_5
    case hi_5 => simp only [List.getElem?_toArray, List.getElem?_cons_succ, List.getElem?_cons_zero]; rfl
    case h1_5 => kernel_rfl
    case h2_5 => kernel_rfl
    case h3_5 => kernel_rfl
    case hw_5 => rfl
    case hS_5 => assumption
    case hy_5 => intro w hSw; (try dsimp only at hSw); go_simp; try with_reducible rfl
    try simp only [Act.put, List.setIfInBounds_toArray, List.set_cons_zero, List.set_cons_succ]
    refine wpAnyH_take (i := 5) (oi := ?oi_6) (v := ?v_6) ?hi_6 ?h1_6 ?h2_6 ?h3_6 (fun _ _ _ h => h) (Or.inl ⟨?hw_6, ?hy_6⟩) ?hS_6 ?rest_6
    case hi_6 => simp only [List.getElem?_toArray, List.getElem?_cons_succ, List.getElem?_cons_zero]; rfl
    case h1_6 => kernel_rfl
    case h2_6 => kernel_rfl
    case h3_6 => kernel_rfl
    case hw_6 => rfl
    case hS_6 => assumption
    case hy_6 => intro w hSw; (try dsimp only at hSw); go_simp; try with_reducible rfl
    try simp only [Act.put, List.setIfInBounds_toArray, List.set_cons_zero, List.set_cons_succ]
    refine wpAnyH_take (i := 6) (oi := ?oi_7) (v := ?v_7) ?hi_7 ?h1_7 ?h2_7 ?h3_7 (fun _ _ _ h => h) (Or.inl ⟨?hw_7, ?hy_7⟩) ?hS_7 ?rest_7
    case hi_7 => simp only [List.getElem?_toArray, List.getElem?_cons_succ, List.getElem?_cons_zero]; rfl
    case h1_7 => kernel_rfl
    case h2_7 => kernel_rfl
    case h3_7 => kernel_rfl
    case hw_7 => rfl
    case hS_7 => assumption
    case hy_7 => intro w hSw; (try dsimp only at hSw); go_simp; try with_reducible rfl
    try simp only [Act.put, List.setIfInBounds_toArray, List.set_cons_zero, List.set_cons_succ]
    refine wpAnyH_take (i := 7) (oi := ?oi_8) (v := ?v_8) ?hi_8 ?h1_8 ?h2_8 ?h3_8 (fun _ _ _ h => h) (Or.inl ⟨?hw_8, ?hy_8⟩) ?hS_8 ?rest_8
    case hi_8 => simp only [List.getElem?_toArray, List.getElem?_cons_succ, List.getElem?_cons_zero]; rfl
    case h1_8 => kernel_rfl
    case h2_8 => kernel_rfl
    case h3_8 => kernel_rfl
    case hw_8 => rfl
    case hS_8 => assumption
    case hy_8 => intro w hSw; (try dsimp only at hSw); go_simp; try with_reducible rfl
    try simp only [Act.put, List.setIfInBounds_toArray, List.set_cons_zero, List.set_cons_succ]
    refine wpAnyH_take (i := 8) (oi := ?oi_9) (v := ?v_9) ?hi_9 ?h1_9 ?h2_9 ?h3_9 (fun _ _ _ h => h) (Or.inl ⟨?hw_9, ?hy_9⟩) ?hS_9 ?rest_9
    case hi_9 => simp only [List.getElem?_toArray, List.getElem?_cons_succ, List.getElem?_cons_zero]; rfl
    case h1_9 => kernel_rfl
    case h2_9 => kernel_rfl
    case h3_9 => kernel_rfl
    case hw_9 => rfl
    case hS_9 => assumption
    case hy_9 => intro w hSw; (try dsimp only at hSw); go_simp; try with_reducible rfl
    try simp only [Act.put, List.setIfInBounds_toArray, List.set_cons_zero, List.set_cons_succ]
    refine wpAnyH_take (i := 9) (oi := ?oi_10) (v := ?v_10) ?hi_10 ?h1_10 ?h2_10 ?h3_10 (fun _ _ _ h => h) (Or.inl ⟨?hw_10, ?hy_10⟩) ?hS_10 ?rest_10
    case hi_10 => simp only [List.getElem?_toArray, List.getElem?_cons_succ, List.getElem?_cons_zero]; rfl
    case h1_10 => kernel_rfl
    case h2_10 => kernel_rfl
    case h3_10 => kernel_rfl
    case hw_10 => rfl
    case hS_10 => assumption
    case hy_10 => intro w hSw; (try dsimp only at hSw); go_simp; try with_reducible rfl
    try simp only [Act.put, List.setIfInBounds_toArray, List.set_cons_zero, List.set_cons_succ]
    refine wpAnyH_take (i := 10) (oi := ?oi_11) (v := ?v_11) ?hi_11 ?h1_11 ?h2_11 ?h3_11 (fun _ _ _ h => h) (Or.inl ⟨?hw_11, ?hy_11⟩) ?hS_11 ?rest_11
    case hi_11 => simp only [List.getElem?_toArray, List.getElem?_cons_succ, List.getElem?_cons_zero]; rfl
    case h1_11 => kernel_rfl
    case h2_11 => kernel_rfl
    case h3_11 => kernel_rfl
    case hw_11 => rfl
    case hS_11 => assumption
    case hy_11 => intro w hSw; (try dsimp only at hSw); go_simp; try with_reducible rfl
    try simp only [Act.put, List.setIfInBounds_toArray, List.set_cons_zero, List.set_cons_succ]
    refine wpAnyH_take (i := 11) (oi := ?oi_12) (v := ?v_12) ?hi_12 ?h1_12 ?h2_12 ?h3_12 (fun _ _ _ h => h) (Or.inl ⟨?hw_12, ?hy_12⟩) ?hS_12 ?rest_12
    case hi_12 => simp only [List.getElem?_toArray, List.getElem?_cons_succ, List.getElem?_cons_zero]; rfl
    case h1_12 => kernel_rfl
    case h2_12 => kernel_rfl
    case h3_12 => kernel_rfl
    case hw_12 => rfl
    case hS_12 => assumption
    case hy_12 => intro w hSw; (try dsimp only at hSw); go_simp; try with_reducible rfl
    try simp only [Act.put, List.setIfInBounds_toArray, List.set_cons_zero, List.set_cons_succ]
    refine wpAnyH_take (i := 12) (oi := ?oi_13) (v := ?v_13) ?hi_13 ?h1_13 ?h2_13 ?h3_13 (fun _ _ _ h => h) (Or.inl ⟨?hw_13, ?hy_13⟩) ?hS_13 ?rest_13
    case hi_13 => simp only [List.getElem?_toArray, List.getElem?_cons_succ, List.getElem?_cons_zero]; rfl
    case h1_13 => kernel_rfl
    case h2_13 => kernel_rfl
    case h3_13 => kernel_rfl
    case hw_13 => rfl
    case hS_13 => assumption
    case hy_13 => intro w hSw; (try dsimp only at hSw); go_simp; try with_reducible rfl
    try simp only [Act.put, List.setIfInBounds_toArray, List.set_cons_zero, List.set_cons_succ]
    refine wpAnyH_take (i := 13) (oi := ?oi_14) (v := ?v_14) ?hi_14 ?h1_14 ?h2_14 ?h3_14 (fun _ _ _ h => h) (Or.inl ⟨?hw_14, ?hy_14⟩) ?hS_14 ?rest_14
    case hi_14 => simp only [List.getElem?_toArray, List.getElem?_cons_succ, List.getElem?_cons_zero]; rfl
    case h1_14 => kernel_rfl
    case h2_14 => kernel_rfl
    case h3_14 => kernel_rfl
    case hw_14 => rfl
    case hS_14 => assumption
    case hy_14 => intro w hSw; (try dsimp only at hSw); go_simp; try with_reducible rfl
    try simp only [Act.put, List.setIfInBounds_toArray, List.set_cons_zero, List.set_cons_succ]
    refine wpAnyH_take (i := 14) (oi := ?oi_15) (v := ?v_15) ?hi_15 ?h1_15 ?h2_15 ?h3_15 (fun _ _ _ h => h) (Or.inl ⟨?hw_15, ?hy_15⟩) ?hS_15 ?rest_15
    case hi_15 => simp only [List.getElem?_toArray, List.getElem?_cons_succ, List.getElem?_cons_zero]; rfl
    case h1_15 => kernel_rfl
    case h2_15 => kernel_rfl
    case h3_15 => kernel_rfl
    case hw_15 => rfl
    case hS_15 => assumption
    case hy_15 => intro w hSw; (try dsimp only at hSw); go_simp; try with_reducible rfl
    try simp only [Act.put, List.setIfInBounds_toArray, List.set_cons_zero, List.set_cons_succ]
    refine wpAnyH_take (i := 15) (oi := ?oi_16) (v := ?v_16) ?hi_16 ?h1_16 ?h2_16 ?h3_16 (fun _ _ _ h => h) (Or.inl ⟨?hw_16, ?hy_16⟩) ?hS_16 ?rest_16
    case hi_16 => simp only [List.getElem?_toArray, List.getElem?_cons_succ, List.getElem?_cons_zero]; rfl
    case h1_16 => kernel_rfl
    case h2_16 => kernel_rfl
    case h3_16 => kernel_rfl
    case hw_16 => rfl
    case hS_16 => assumption
    case hy_16 => intro w hSw; (try dsimp only at hSw); go_simp; try with_reducible rfl
    try simp only [Act.put, List.setIfInBounds_toArray, List.set_cons_zero, List.set_cons_succ]
    refine wpAnyH_take (i := 16) (oi := ?oi_17) (v := ?v_17) ?hi_17 ?h1_17 ?h2_17 ?h3_17 (fun _ _ _ h => h) (Or.inl ⟨?hw_17, ?hy_17⟩) ?hS_17 ?rest_17
    case hi_17 => simp only [List.getElem?_toArray, List.getElem?_cons_succ, List.getElem?_cons_zero]; rfl
    case h1_17 => kernel_rfl
    case h2_17 => kernel_rfl
    case h3_17 => kernel_rfl
    case hw_17 => rfl
    case hS_17 => assumption
    case hy_17 => intro w hSw; (try dsimp only at hSw); go_simp; try with_reducible rfl
    try simp only [Act.put, List.setIfInBounds_toArray, List.set_cons_zero, List.set_cons_succ]
    refine wpAnyH_ready (rs := [17]) (by kernel_rfl) (by simp) ?_
    refine AllReadyH.cons (o := ?o_18) ?ho_18 (fun K hK => ?step_18) AllReadyH.nil
    case ho_18 => simp only [List.getElem?_toArray, List.getElem?_cons_succ, List.getElem?_cons_zero]; rfl
    go_simp
    (go_at_call 35; (with_reducible refine (HC2.out _ KA).mono ?_); rintro e wB ⟨rfl, hbB⟩; have KB := hMono.mono KA hbB)
    refine hK.out _ _ ?_ (fun hHeld => ?_)
    · (first | exact HS.out _ KC | exact HS.out _ KB | exact HS.out _ KA | exact HS.out _ K9d)
    clear hK K
    try simp only [Act.put, List.setIfInBounds_toArray, List.set_cons_zero, List.set_cons_succ]
    refine wpAnyH_take (i := 18) (oi := ?oi_19) (v := ?v_19) ?hi_19 ?h1_19 ?h2_19 ?h3_19 (fun _ _ _ h => h) (Or.inl ⟨?hw_19, ?hy_19⟩) ?hS_19 ?rest_19
    case hi_19 => simp only [List.getElem?_toArray, List.getElem?_cons_succ, List.getElem?_cons_zero]; rfl
    case h1_19 => kernel_rfl
    case h2_19 => kernel_rfl
    case h3_19 => kernel_rfl
    case hw_19 => rfl
    case hS_19 => assumption
    case hy_19 => intro w hSw; (try dsimp only at hSw); go_simp; try with_reducible rfl
    try simp only [Act.put, List.setIfInBounds_toArray, List.set_cons_zero, List.set_cons_succ]
    refine wpAnyH_take (i := 19) (oi := ?oi_20) (v := ?v_20) ?hi_20 ?h1_20 ?h2_20 ?h3_20 (fun _ _ _ h => h) (Or.inl ⟨?hw_20, ?hy_20⟩) ?hS_20 ?rest_20
    case hi_20 => simp only [List.getElem?_toArray, List.getElem?_cons_succ, List.getElem?_cons_zero]; rfl
    case h1_20 => kernel_rfl
    case h2_20 => kernel_rfl
    case h3_20 => kernel_rfl
    case hw_20 => rfl
    case hS_20 => assumption
    case hy_20 => intro w hSw; (try dsimp only at hSw); go_simp; try with_reducible rfl
    try simp only [Act.put, List.setIfInBounds_toArray, List.set_cons_zero, List.set_cons_succ]
    refine wpAnyH_take (i := 20) (oi := ?oi_21) (v := ?v_21) ?hi_21 ?h1_21 ?h2_21 ?h3_21 (fun _ _ _ h => h) (Or.inl ⟨?hw_21, ?hy_21⟩) ?hS_21 ?rest_21
    case hi_21 => simp only [List.getElem?_toArray, List.getElem?_cons_succ, List.getElem?_cons_zero]; rfl
    case h1_21 => kernel_rfl
    case h2_21 => kernel_rfl
    case h3_21 => kernel_rfl
    case hw_21 => rfl
    case hS_21 => assumption
    case hy_21 => intro w hSw; (try dsimp only at hSw); go_simp; try with_reducible rfl
    try simp only [Act.put, List.setIfInBounds_toArray, List.set_cons_zero, List.set_cons_succ]
    refine wpAnyH_take (i := 21) (oi := ?oi_22) (v := ?v_22) ?hi_22 ?h1_22 ?h2_22 ?h3_22 (fun _ _ _ h => h) (Or.inl ⟨?hw_22, ?hy_22⟩) ?hS_22 ?rest_22
    case hi_22 => simp only [List.getElem?_toArray, List.getElem?_cons_succ, List.getElem?_cons_zero]; rfl
    case h1_22 => kernel_rfl
    case h2_22 => kernel_rfl
    case h3_22 => kernel_rfl
    case hw_22 => rfl
    case hS_22 => assumption
    case hy_22 => intro w hSw; (try dsimp only at hSw); go_simp; try with_reducible rfl
    try simp only [Act.put, List.setIfInBounds_toArray, List.set_cons_zero, List.set_cons_succ]
    refine wpAnyH_take (i := 22) (oi := ?oi_23) (v := ?v_23) ?hi_23 ?h1_23 ?h2_23 ?h3_23 (fun _ _ _ h => h) (Or.inl ⟨?hw_23, ?hy_23⟩) ?hS_23 ?rest_23
    case hi_23 => simp only [List.getElem?_toArray, List.getElem?_cons_succ, List.getElem?_cons_zero]; rfl
    case h1_23 => kernel_rfl
    case h2_23 => kernel_rfl
    case h3_23 => kernel_rfl
    case hw_23 => rfl
    case hS_23 => assumption
    case hy_23 => intro w hSw; (try dsimp only at hSw); go_simp; try with_reducible rfl
    try simp only [Act.put, List.setIfInBounds_toArray, List.set_cons_zero, List.set_cons_succ]
    refine wpAnyH_ready (rs := [23]) (by kernel_rfl) (by simp) ?_
    refine AllReadyH.cons (o := ?o_24) ?ho_24 (fun K hK => ?step_24) AllReadyH.nil
    case ho_24 => simp only [List.getElem?_toArray, List.getElem?_cons_succ, List.getElem?_cons_zero]; rfl
    go_simp
    (go_at_call 35; (with_reducible refine (HC3.out _ KB).mono ?_); rintro e wC ⟨rfl, hbC⟩; have KC := hMono.mono KB hbC)
    refine hK.out _ _ ?_ (fun hHeld => ?_)
    · (first | exact HS.out _ KC | exact HS.out _ KB | exact HS.out _ KA | exact HS.out _ K9d)
    clear hK K
    try simp only [Act.put, List.setIfInBounds_toArray, List.set_cons_zero, List.set_cons_succ]
    refine wpAnyH_take (i := 24) (oi := ?oi_25) (v := ?v_25) ?hi_25 ?h1_25 ?h2_25 ?h3_25 (fun _ _ _ h => h) (Or.inl ⟨?hw_25, ?hy_25⟩) ?hS_25 ?rest_25
    case hi_25 => simp only [List.getElem?_toArray, List.getElem?_cons_succ, List.getElem?_cons_zero]; rfl
    case h1_25 => kernel_rfl
    case h2_25 => kernel_rfl
    case h3_25 => kernel_rfl
    case hw_25 => rfl
    case hS_25 => assumption
    case hy_25 => intro w hSw; (try dsimp only at hSw); go_simp; try with_reducible rfl
    try simp only [Act.put, List.setIfInBounds_toArray, List.set_cons_zero, List.set_cons_succ]
    refine wpAnyH_take (i := 25) (oi := ?oi_26) (v := ?v_26) ?hi_26 ?h1_26 ?h2_26 ?h3_26 (fun _ _ _ h => h) (Or.inl ⟨?hw_26, ?hy_26⟩) ?hS_26 ?rest_26
    case hi_26 => simp only [List.getElem?_toArray, List.getElem?_cons_succ, List.getElem?_cons_zero]; rfl
    case h1_26 => kernel_rfl
    case h2_26 => kernel_rfl
    case h3_26 => kernel_rfl
    case hw_26 => rfl
    case hS_26 => assumption
    case hy_26 => intro w hSw; (try dsimp only at hSw); go_simp; try with_reducible rfl
    try simp only [Act.put, List.setIfInBounds_toArray, List.set_cons_zero, List.set_cons_succ]
    refine wpAnyH_take (i := 26) (oi := ?oi_27) (v := ?v_27) ?hi_27 ?h1_27 ?h2_27 ?h3_27 (fun _ _ _ h => h) (Or.inl ⟨?hw_27, ?hy_27⟩) ?hS_27 ?rest_27
    case hi_27 => simp only [List.getElem?_toArray, List.getElem?_cons_succ, List.getElem?_cons_zero]; rfl
    case h1_27 => kernel_rfl
    case h2_27 => kernel_rfl
    case h3_27 => kernel_rfl
    case hw_27 => rfl
    case hS_27 => assumption
    case hy_27 => intro w hSw; (try dsimp only at hSw); go_simp; try with_reducible rfl
    try simp only [Act.put, List.setIfInBounds_toArray, List.set_cons_zero, List.set_cons_succ]
    refine wpAnyH_take (i := 27) (oi := ?oi_28) (v := ?v_28) ?hi_28 ?h1_28 ?h2_28 ?h3_28 (fun _ _ _ h => h) (Or.inl ⟨?hw_28, ?hy_28⟩) ?hS_28 ?rest_28
    case hi_28 => simp only [List.getElem?_toArray, List.getElem?_cons_succ, List.getElem?_cons_zero]; rfl
    case h1_28 => kernel_rfl
    case h2_28 => kernel_rfl
    case h3_28 => kernel_rfl
    case hw_28 => rfl
    case hS_28 => assumption
    case hy_28 => intro w hSw; (try dsimp only at hSw); go_simp; try with_reducible rfl
    try simp only [Act.put, List.setIfInBounds_toArray, List.set_cons_zero, List.set_cons_succ]
    refine wpAnyH_take (i := 28) (oi := ?oi_29) (v := ?v_29) ?hi_29 ?h1_29 ?h2_29 ?h3_29 (fun _ _ _ h => h) (Or.inl ⟨?hw_29, ?hy_29⟩) ?hS_29 ?rest_29
    case hi_29 => simp only [List.getElem?_toArray, List.getElem?_cons_succ, List.getElem?_cons_zero]; rfl
    case h1_29 => kernel_rfl
    case h2_29 => kernel_rfl
    case h3_29 => kernel_rfl
    case hw_29 => rfl
    case hS_29 => assumption
    case hy_29 => intro w hSw; (try dsimp only at hSw); go_simp; try with_reducible rfl
    try simp only [Act.put, List.setIfInBounds_toArray, List.set_cons_zero, List.set_cons_succ]
    refine wpAnyH_ready (rs := [29]) (by kernel_rfl) (by simp) ?_
    refine AllReadyH.cons (o := ?o_30) ?ho_30 (fun K hK => ?step_30) AllReadyH.nil
    case ho_30 => simp only [List.getElem?_toArray, List.getElem?_cons_succ, List.getElem?_cons_zero]; rfl
    go_simp
    (go_at_call 53; (with_reducible refine (HC4.out _ KC).mono ?_); rintro e w' ⟨rfl, rfl⟩)
    refine hK.out _ _ ?_ (fun hHeld => ?_)
    · (first | exact HS.out _ KC | exact HS.out _ KB | exact HS.out _ KA | exact HS.out _ K9d)
    clear hK K
    try simp only [Act.put, List.setIfInBounds_toArray, List.set_cons_zero, List.set_cons_succ]
    refine wpAnyH_take (i := 30) (oi := ?oi_31) (v := ?v_31) ?hi_31 ?h1_31 ?h2_31 ?h3_31 (fun _ _ _ h => h) (Or.inl ⟨?hw_31, ?hy_31⟩) ?hS_31 ?rest_31
    case hi_31 => simp only [List.getElem?_toArray, List.getElem?_cons_succ, List.getElem?_cons_zero]; rfl
    case h1_31 => kernel_rfl
    case h2_31 => kernel_rfl
    case h3_31 => kernel_rfl
    case hw_31 => rfl
    case hS_31 => assumption
    case hy_31 => intro w hSw; (try dsimp only at hSw); go_simp; try with_reducible rfl
    try simp only [Act.put, List.setIfInBounds_toArray, List.set_cons_zero, List.set_cons_succ]
    refine wpAnyH_take (i := 31) (oi := ?oi_32) (v := ?v_32) ?hi_32 ?h1_32 ?h2_32 ?h3_32 (fun _ _ _ h => h) (Or.inl ⟨?hw_32, ?hy_32⟩) ?hS_32 ?rest_32
    case hi_32 => simp only [List.getElem?_toArray, List.getElem?_cons_succ, List.getElem?_cons_zero]; rfl
    case h1_32 => kernel_rfl
    case h2_32 => kernel_rfl
    case h3_32 => kernel_rfl
    case hw_32 => rfl
    case hS_32 => assumption
    case hy_32 => intro w hSw; (try dsimp only at hSw); go_simp; try with_reducible rfl
    try simp only [Act.put, List.setIfInBounds_toArray, List.set_cons_zero, List.set_cons_succ]
    refine wpAnyH_take (i := 32) (oi := ?oi_33) (v := ?v_33) ?hi_33 ?h1_33 ?h2_33 ?h3_33 (fun _ _ _ h => h) (Or.inl ⟨?hw_33, ?hy_33⟩) ?hS_33 ?rest_33
    case hi_33 => simp only [List.getElem?_toArray, List.getElem?_cons_succ, List.getElem?_cons_zero]; rfl
    case h1_33 => kernel_rfl
    case h2_33 => kernel_rfl
    case h3_33 => kernel_rfl
    case hw_33 => rfl
    case hS_33 => assumption
    case hy_33 => intro w hSw; (try dsimp only at hSw); go_simp; try with_reducible rfl
    try simp only [Act.put, List.setIfInBounds_toArray, List.set_cons_zero, List.set_cons_succ]
    refine wpAnyH_take (i := 33) (oi := ?oi_34) (v := ?v_34) ?hi_34 ?h1_34 ?h2_34 ?h3_34 (fun _ _ _ h => h) (Or.inl ⟨?hw_34, ?hy_34⟩) ?hS_34 ?rest_34
    case hi_34 => simp only [List.getElem?_toArray, List.getElem?_cons_succ, List.getElem?_cons_zero]; rfl
    case h1_34 => kernel_rfl
    case h2_34 => kernel_rfl
    case h3_34 => kernel_rfl
    case hw_34 => rfl
    case hS_34 => assumption
    case hy_34 => intro w hSw; (try dsimp only at hSw); go_simp; try with_reducible rfl
    try simp only [Act.put, List.setIfInBounds_toArray, List.set_cons_zero, List.set_cons_succ]
    refine wpAnyH_take (i := 35) (oi := ?oi_35) (v := ?v_35) ?hi_35 ?h1_35 ?h2_35 ?h3_35 (fun _ _ _ h => h) (Or.inl ⟨?hw_35, ?hy_35⟩) ?hS_35 ?rest_35
    case hi_35 => simp only [List.getElem?_toArray, List.getElem?_cons_succ, List.getElem?_cons_zero]; rfl
    case h1_35 => kernel_rfl
    case h2_35 => kernel_rfl
    case h3_35 => kernel_rfl
    case hw_35 => rfl
    case hS_35 => assumption
    case hy_35 => intro w hSw; (try dsimp only at hSw); go_simp; try with_reducible rfl
    try simp only [Act.put, List.setIfInBounds_toArray, List.set_cons_zero, List.set_cons_succ]
    refine wpAnyH_take (i := 36) (oi := ?oi_36) (v := ?v_36) ?hi_36 ?h1_36 ?h2_36 ?h3_36 (fun _ _ _ h => h) (Or.inl ⟨?hw_36, ?hy_36⟩) ?hS_36 ?rest_36
    case hi_36 => simp only [List.getElem?_toArray, List.getElem?_cons_succ, List.getElem?_cons_zero]; rfl
    case h1_36 => kernel_rfl
    case h2_36 => kernel_rfl
    case h3_36 => kernel_rfl
    case hw_36 => rfl
    case hS_36 => assumption
    case hy_36 => intro w hSw; (try dsimp only at hSw); go_simp; try with_reducible rfl
    try simp only [Act.put, List.setIfInBounds_toArray, List.set_cons_zero, List.set_cons_succ]
    refine wpAnyH_ready (rs := [34]) (by kernel_rfl) (by simp) ?_
    refine AllReadyH.cons (o := ?o_37) ?ho_37 (fun K hK => ?step_37) AllReadyH.nil
    case ho_37 => simp only [List.getElem?_toArray, List.getElem?_cons_succ, List.getElem?_cons_zero]; rfl
    go_simp
    (go_at_call 54; (with_reducible refine (Ends_any _ _).mono ?_); rintro e w' ⟨rfl, rfl⟩)
    refine hK.out _ _ ?_ (fun hHeld => ?_)
    · (first | exact HS.out _ KC | exact HS.out _ KB | exact HS.out _ KA | exact HS.out _ K9d)
    clear hK K
    try simp only [Act.put, List.setIfInBounds_toArray, List.set_cons_zero, List.set_cons_succ]
    refine wpAnyH_take (i := 37) (oi := ?oi_38) (v := ?v_38) ?hi_38 ?h1_38 ?h2_38 ?h3_38 (fun _ _ _ h => h) (Or.inl ⟨?hw_38, ?hy_38⟩) ?hS_38 ?rest_38
    case hi_38 => simp only [List.getElem?_toArray, List.getElem?_cons_succ, List.getElem?_cons_zero]; rfl
    case h1_38 => kernel_rfl
    case h2_38 => kernel_rfl
    case h3_38 => kernel_rfl
    case hw_38 => rfl
    case hS_38 => assumption
    case hy_38 => intro w hSw; (try dsimp only at hSw); go_simp; try with_reducible rfl
    try simp only [Act.put, List.setIfInBounds_toArray, List.set_cons_zero, List.set_cons_succ]
    refine wpAnyH_take (i := 38) (oi := ?oi_39) ?hi_39 ?h1_39 ?h2_39 ?h3_39 (fun _ _ _ h => h) (Or.inr ⟨?hw_39, rfl⟩) ?hS_39 ?rest_39
    case hi_39 => simp only [List.getElem?_toArray, List.getElem?_cons_succ, List.getElem?_cons_zero]; rfl
    case h1_39 => kernel_rfl
    case h2_39 => kernel_rfl
    case h3_39 => kernel_rfl
    case hw_39 => rfl
    case hS_39 => assumption
    try simp only [Act.put, List.setIfInBounds_toArray, List.set_cons_zero, List.set_cons_succ]
    refine wpAnyH_take (i := 39) (oi := ?oi_40) ?hi_40 ?h1_40 ?h2_40 ?h3_40 (fun _ _ _ h => h) (Or.inr ⟨?hw_40, rfl⟩) ?hS_40 ?rest_40
    case hi_40 => simp only [List.getElem?_toArray, List.getElem?_cons_succ, List.getElem?_cons_zero]; rfl
    case h1_40 => kernel_rfl
    case h2_40 => kernel_rfl
    case h3_40 => kernel_rfl
    case hw_40 => rfl
    case hS_40 => assumption
    try simp only [Act.put, List.setIfInBounds_toArray, List.set_cons_zero, List.set_cons_succ]
    refine wpAnyH_take (i := 40) (oi := ?oi_41) (v := ?v_41) ?hi_41 ?h1_41 ?h2_41 ?h3_41 (fun _ _ _ h => h) (Or.inl ⟨?hw_41, ?hy_41⟩) ?hS_41 ?rest_41
    case hi_41 => simp only [List.getElem?_toArray, List.getElem?_cons_succ, List.getElem?_cons_zero]; rfl
    case h1_41 => kernel_rfl
    case h2_41 => kernel_rfl
    case h3_41 => kernel_rfl
    case hw_41 => rfl
    case hS_41 => assumption
    case hy_41 => intro w hSw; (try dsimp only at hSw); go_simp; try with_reducible rfl
    try simp only [Act.put, List.setIfInBounds_toArray, List.set_cons_zero, List.set_cons_succ]
    refine wpAnyH_take (i := 41) (oi := ?oi_42) (v := ?v_42) ?hi_42 ?h1_42 ?h2_42 ?h3_42 (fun _ _ _ h => h) (Or.inl ⟨?hw_42, ?hy_42⟩) ?hS_42 ?rest_42
    case hi_42 => simp only [List.getElem?_toArray, List.getElem?_cons_succ, List.getElem?_cons_zero]; rfl
    case h1_42 => kernel_rfl
    case h2_42 => kernel_rfl
    case h3_42 => kernel_rfl
    case hw_42 => rfl
    case hS_42 => assumption
    case hy_42 => intro w hSw; (try dsimp only at hSw); go_simp; try with_reducible rfl
    try simp only [Act.put, List.setIfInBounds_toArray, List.set_cons_zero, List.set_cons_succ]
    refine wpAnyH_take (i := 42) (oi := ?oi_43) (v := ?v_43) ?hi_43 ?h1_43 ?h2_43 ?h3_43 (fun _ _ _ h => h) (Or.inl ⟨?hw_43, ?hy_43⟩) ?hS_43 ?rest_43
    case hi_43 => simp only [List.getElem?_toArray, List.getElem?_cons_succ, List.getElem?_cons_zero]; rfl
    case h1_43 => kernel_rfl
    case h2_43 => kernel_rfl
    case h3_43 => kernel_rfl
    case hw_43 => rfl
    case hS_43 => assumption
    case hy_43 => intro w hSw; (try dsimp only at hSw); go_simp; try with_reducible rfl
    try simp only [Act.put, List.setIfInBounds_toArray, List.set_cons_zero, List.set_cons_succ]
    refine wpAnyH_done (by kernel_rfl) ?_ _
    refine NoPanic.normal ?_
    have hs := HS.out _ KC
    obtain ⟨_, _, _, f0, f1, _, _, _, _, _, _, _, _, _, _, _, _, hd0, hd1, hd2⟩ := hs
    have hB := hKB _ KC
    have hV6 := hKV _ KC
    clear K9 K9d KA KB KC HS HC1 HC2 HC3 HC4 hqF hqE hgF
    by_cases h0 : F.1 = 0
    · have q1 : (F.1 != 0) = false := by rw [h0]; rfl
      have q2 : (F.1 == 0) = true := by rw [h0]; rfl
      obtain ⟨hVd, _⟩ := progF_valid (p := ⟨slots, tabs, code⟩) (RdL.wf_flat hc) (by rw [HF.out]; exact h0)
      have hVV : Hid (V = progBytes ⟨slots, tabs, code⟩) := by show V = _; rw [← HV.out]; unfold encV; rw [HF.out, if_pos h0]
      clear h0
      go_wp2_with fail
      refine (ProgramBytes_any slots to_ co tc cc tabs code NoA wC (ht.below hB) (hc.below hB) hVd).mono ?_
      rintro e wD ⟨rD, rfl, hmD, hbD⟩
      obtain ⟨aD, cD, rfl, hrD, _⟩ := hmD.rd
      have hSB := SameBytes_any a6 aD V.length c6 _ cD V _ wD (hV6.below hbD) hrD
      rw [decide_eq_true hVV.out] at hSB
      have hB2 := ov hB hbD
      have HSB := Lib.hid hSB
      clear hSB hmD hrD hbD f0 f1 hd0 hd1 hd2 hB hV6
      go_wp2_with fail
      refine HSB.out.mono ?_
      rintro e w' ⟨rfl, rfl⟩
      go_wp2_with fail
      go_ret
      exact ⟨rfl, hB2⟩
    · have q1 : (F.1 != 0) = true := by rw [bne_iff_ne]; exact h0
      have hv0 : V.length = 0 := by rw [← HV.out]; unfold encV; rw [HF.out, if_neg h0]; rfl
      have q3 : ((V.length : Int) == 0) = true := by rw [hv0]; rfl
      clear hv0 h0
      go_wp2_with fail
      go_ret
      exact ⟨rfl, hB⟩
  all_goals
    first
      | (go_region_held3 (fun w' => w'.cell? ⟨w3.heap.size, 0, none⟩ = some (.int .i64 slots) ∧ w'.cell? ⟨w3.heap.size, 1, none⟩ = some (.slice to3 tabs.length tc3) ∧ w'.cell? ⟨w3.heap.size, 2, none⟩ = some (.slice co3 code.length cc3) ∧ w'.cell? ⟨w5.heap.size, 0, none⟩ = some (.int .i64 F.1) ∧ w'.cell? ⟨w5.heap.size, 1, none⟩ = some (.int .i64 F.2) ∧ w'.cell? ⟨w6.heap.size, 0, none⟩ = some (.int .i64 F.1) ∧ w'.cell? ⟨w6.heap.size, 1, none⟩ = some (.int .i64 F.2) ∧ w'.cell? ⟨w7.heap.size, 0, none⟩ = some (.int .i64 D.slots) ∧ w'.cell? ⟨w7.heap.size, 1, none⟩ = some (.slice to7 D.tabs.length tc7) ∧ w'.cell? ⟨w7.heap.size, 2, none⟩ = some (.slice co7 D.code.length cc7) ∧ w'.cell? ⟨w7.heap.size + 1, 0, none⟩ = some (.int .i64 E.1) ∧ w'.cell? ⟨w7.heap.size + 1, 1, none⟩ = some (.int .i64 E.2) ∧ w'.cell? ⟨w8.heap.size, 0, none⟩ = some (.int .i64 D.slots) ∧ w'.cell? ⟨w8.heap.size, 1, none⟩ = some (.slice to8 D.tabs.length tc8) ∧ w'.cell? ⟨w8.heap.size, 2, none⟩ = some (.slice co8 D.code.length cc8) ∧ w'.cell? ⟨w8.heap.size + 1, 0, none⟩ = some (.int .i64 E.1) ∧ w'.cell? ⟨w8.heap.size + 1, 1, none⟩ = some (.int .i64 E.2) ∧ w'.cell? ⟨w.heap.size, 0, none⟩ = some (.int .i64 slots) ∧ w'.cell? ⟨w.heap.size, 1, none⟩ = some (.slice to_ tabs.length tc) ∧ w'.cell? ⟨w.heap.size, 2, none⟩ = some (.slice co code.length cc))
      (first | exact HS.out _ K9d | exact HS.out _ KA | exact HS.out _ KB | exact HS.out _ KC)
      ((first
        | (go_at_call 52; (with_reducible refine (HC1.out _ K9d).mono ?_); rintro e wA ⟨rfl, hbA⟩; have KA := hMono.mono K9d hbA)
        | (go_at_call 35; (with_reducible refine (HC2.out _ KA).mono ?_); rintro e wB ⟨rfl, hbB⟩; have KB := hMono.mono KA hbB)
        | (go_at_call 35; (with_reducible refine (HC3.out _ KB).mono ?_); rintro e wC ⟨rfl, hbC⟩; have KC := hMono.mono KB hbC)
        | (go_at_call 53; (with_reducible refine (HC4.out _ KC).mono ?_); rintro e w' ⟨rfl, rfl⟩)
        | (go_at_call 54; (with_reducible refine (Ends_any _ _).mono ?_); rintro e w' ⟨rfl, rfl⟩))))
      | fail
    have hs := HS.out _ KC
    obtain ⟨_, _, _, f0, f1, _, _, _, _, _, _, _, _, _, _, _, _, hd0, hd1, hd2⟩ := hs
    have hB := hKB _ KC
    have hV6 := hKV _ KC
    clear K9 K9d KA KB KC HS HC1 HC2 HC3 HC4 hqF hqE hgF
    by_cases h0 : F.1 = 0
    · have q1 : (F.1 != 0) = false := by rw [h0]; rfl
      have q2 : (F.1 == 0) = true := by rw [h0]; rfl
      obtain ⟨hVd, _⟩ := progF_valid (p := ⟨slots, tabs, code⟩) (RdL.wf_flat hc) (by rw [HF.out]; exact h0)
      have hVV : Hid (V = progBytes ⟨slots, tabs, code⟩) := by show V = _; rw [← HV.out]; unfold encV; rw [HF.out, if_pos h0]
      clear h0
      go_wp2_with fail
      refine (ProgramBytes_any slots to_ co tc cc tabs code NoA wC (ht.below hB) (hc.below hB) hVd).mono ?_
      rintro e wD ⟨rD, rfl, hmD, hbD⟩
      obtain ⟨aD, cD, rfl, hrD, _⟩ := hmD.rd
      have hSB := SameBytes_any a6 aD V.length c6 _ cD V _ wD (hV6.below hbD) hrD
      rw [decide_eq_true hVV.out] at hSB
      have hB2 := ov hB hbD
      have HSB := Lib.hid hSB
      clear hSB hmD hrD hbD f0 f1 hd0 hd1 hd2 hB hV6
      go_wp2_with fail
      refine HSB.out.mono ?_
      rintro e w' ⟨rfl, rfl⟩
      go_wp2_with fail
      go_ret
      exact ⟨rfl, hB2⟩
    · have q1 : (F.1 != 0) = true := by rw [bne_iff_ne]; exact h0
      have hv0 : V.length = 0 := by rw [← HV.out]; unfold encV; rw [HF.out, if_neg h0]; rfl
      have q3 : ((V.length : Int) == 0) = true := by rw [hv0]; rfl
      clear hv0 h0
      go_wp2_with fail
      go_ret
      exact ⟨rfl, hB⟩
end Go.Proofs.Ytfakdapglbgokaa
