/-
  The laws of package word: WordBack, WordCut. No condition.
-/
import Derived.Test.YtfakdapglbgokaaWordA
import Derived.Test.YtfakdapglbgokaaWordK
import Derived.Test.YtfakdapglbgokaaWordJ
import Derived.Test.YtfakdapglbgokaaBitsD
namespace Go.Proofs.Ytfakdapglbgokaa
set_option linter.all false
open Go.RowKit

/-- x[:hi:hi]. -/
theorem Rd.cut_max {P : Program} {t e : TypeId} {bytes : Nat} {z : Value} (ty : SliceTy P t e 1 bytes z) {w : World} {k : IntKind} {ao : Option Addr} {n cap : Nat} {xs : List Int} (h : Rd w k ao n cap xs) (hi : Nat) (h2 : hi ≤ n) :
    ∃ ao', (∀ (w' : World) (kh km : IntKind) (u m : Int), u = hi → m = hi → (Instr.slice t (.slice ao n cap) none (some (.int kh u)) (some (.int km m))).run P w' = .ok (.slice ao' hi hi) w') ∧ Rd w k ao' hi hi (xs.take hi) := by
  have hle := h.le
  have hlen := h.len
  have hmax := h.max
  refine ⟨if hi = 0 then ao else ao.map (·.add (0 * 1)), fun w' kh km u m hu hm => ?_, ⟨by simp; omega, fun x hx => h.fit x (List.mem_of_mem_take hx), by simp; omega, by omega, fun h0 => ?_, fun hn => ?_⟩⟩
  · subst hu hm
    have a1 := run_sliceBound (P := P) w' km (hi : Int) cap .slice3Acap (by omega) (by omega)
    have a2 := run_sliceBound (P := P) w' kh (hi : Int) hi .slice3B (by omega) (by omega)
    simp only [Int.toNat_natCast] at a1 a2
    simp [Instr.slice, run_underlying ty.und, Instr.sliceBounds, a1, a2, run_sizeOf ty]
  · have hl : (xs.take hi).length = hi := by simp; omega
    rw [hl] at h0
    obtain ⟨b, off, rfl, hc⟩ := h.here (by omega)
    refine ⟨b, off, by rw [if_neg (by omega)]; simp [add_plain], fun i hi' => ?_⟩
    rw [hl] at hi'
    rw [hc i (by omega), el_take, if_pos hi']
  · by_cases hz : hi = 0
    · exact hz
    · rw [if_neg hz] at hn
      cases ao with
      | none => have := h.nil rfl; omega
      | some a => simp at hn
theorem uint_pick (a : Int) (n : Nat) (h : 1 ≤ n) (hn : n ≤ 1000000) : ∃ k : Nat, k < n ∧ (IntKind.u64.wrap a).tmod (n : Int) = (k : Int) := by
  have h0 : 0 ≤ IntKind.u64.wrap a := by rw [IntKind.wrap_u64]; omega
  have h1 := Int.emod_lt_of_pos (IntKind.u64.wrap a) (show 0 < (n : Int) by omega)
  have h2 := Int.emod_nonneg (IntKind.u64.wrap a) (show (n : Int) ≠ 0 by omega)
  refine ⟨(IntKind.u64.wrap a % (n : Int)).toNat, by omega, ?_⟩
  rw [Int.tmod_eq_emod_of_nonneg h0]
  omega
theorem progBytes_small {p : Prog} (h : Valid p) : (progBytes p).length ≤ 900000 ∧ 21 ≤ (progBytes p).length := by
  have := progBytes_length p
  have := h.tabs; have := h.code
  omega
theorem RdL.zero_ {α : Type} {L : Lay α} {A A' : Nat → Prop} {w w' : World} {ao : Option Addr} {cap : Nat} (h : RdL L A w ao 0 cap []) : RdL L A' w' ao 0 cap [] := ⟨rfl, h.le, h.max, h.nil, fun h0 => absurd h0 (by omega)⟩
set_option maxRecDepth 100000 in
set_option maxHeartbeats 16000000 in
theorem WordBack_law (slots : Int) (to_ co : Option Addr) (tn tc cn cc : Nat) (tabs : List Shape) (code : List Ins) (bo : Option Addr) (bn bc : Nat) (bs : List Int) (w : World)
    (hsl : Fits .i64 slots) (ht : RdL shapeLay NoA w to_ tn tc tabs) (hc : RdL insLay NoA w co cn cc code) (hb : Rd w .u8 bo bn bc bs) :
    Calls Try.prog 7 #[.agg #[.int .i64 slots, .slice to_ tn tc, .slice co cn cc], .slice bo bn bc] w fun e w' => e = .returned (.bool true) ∧ Below w.heap.size w w' := by
  obtain rfl := ht.len
  obtain rfl := hc.len
  obtain rfl := hb.len
  have hbl := hb.lt
  have hal := al (rf w) (.cells #[.int .i64 slots, .slice to_ tabs.length tc, .slice co code.length cc] 63)
  have H : Kept (fun w' => Below w.heap.size w w' ∧ Blk w' w.heap.size 63 #[.int .i64 slots, .slice to_ tabs.length tc, .slice co code.length cc]) (w.alloc (.cells #[.int .i64 slots, .slice to_ tabs.length tc, .slice co code.length cc] 63)) := ⟨hal, Blk.new _ _ _⟩
  clear hal
  go_enter Try.func7, Try.ntmps7
  go_wp2_with fail
  refine (wordBegun_any _).mono ?_
  rintro e w1 ⟨rfl, hb1⟩
  replace H := H.to hb1
  clear hb1
  obtain ⟨hd0, hd1, hd2⟩ := H.out.2.three
  have hz := H.out.2.lt
  have hGP := Lib.hid (fun w' => GreatProgram_any slots to_ co tabs.length code.length tc cc w' ht.lt hc.lt)
  by_cases hg : 300 < tabs.length ∨ 65000 < code.length
  · have hgt : Hid ((decide (300 < tabs.length) || decide (65000 < code.length)) = true) := by show _ = _; simpa using hg
    clear hg
    go_wp2_with fail
    refine (hGP.out _).mono ?_
    rintro e w2 ⟨rfl, hb2⟩
    rw [hgt.out]
    have hB := (H.to hb2).out.1
    clear hd0 hd1 hd2 hz hb2
    go_wp2_with fail
    go_ret
    exact ⟨rfl, hB⟩
  have hgt : Hid ((decide (300 < tabs.length) || decide (65000 < code.length)) = false) := by show _ = _; simp; omega
  have hT5 : tabs.length ≤ 300 := by omega
  have hC6 : code.length ≤ 65000 := by omega
  clear hg
  go_wp2_with fail
  refine (hGP.out _).mono ?_
  rintro e w2 ⟨rfl, hb2⟩
  rw [hgt.out]
  clear hd0 hd1 hd2 hz hGP hgt
  replace H := H.to hb2
  clear hb2
  have hB := H.out.1
  by_cases hL : 50000 < bs.length
  · have hL' : (50000 : Int) < bs.length := by omega
    go_wp2_with fail
    go_ret
    exact ⟨rfl, hB⟩
  have hL' : (bs.length : Int) ≤ 50000 := by omega
  clear hB
  obtain ⟨hd0, hd1, hd2⟩ := H.out.2.three
  have hz := H.out.2.lt
  go_wp2_with fail
  clear hd0 hd1 hd2 hz
  obtain ⟨F, hF⟩ : ∃ F, progF ⟨slots, tabs, code⟩ = F := ⟨_, rfl⟩
  have HF := Lib.hid hF
  clear hF
  refine (Encode_any slots to_ co tc cc tabs code NoA w2 (ht.below H.out.1) (hc.below H.out.1)).mono ?_
  rintro e w3 ⟨r3, rfl, hm3, hb3⟩
  rw [HF.out]
  obtain ⟨V, hV⟩ : ∃ V, encV ⟨slots, tabs, code⟩ = V := ⟨_, rfl⟩
  rw [hV] at hm3
  have HV := Lib.hid hV
  obtain ⟨a3, c3, rfl, hr3, _⟩ := hm3.rd
  replace H := (H.to hb3).al (.cells #[.int .i64 F.1, .int .i64 F.2] 65)
  replace hr3 := hr3.below (al (rf w3) (.cells #[.int .i64 F.1, .int .i64 F.2] 65))
  have hwf : ∀ x ∈ code, x.wf := RdL.wf_flat hc
  have HW := Lib.hid hwf
  clear hm3 hb3 hV hwf
  by_cases h0 : F.1 = 0
  · have q1 : (F.1 == 0) = true := by rw [h0]; rfl
    obtain ⟨d1, d2⟩ := dec_enc (p := ⟨slots, tabs, code⟩) HW.out (by rw [HF.out]; exact h0)
    obtain ⟨hVd, _⟩ := progF_valid (p := ⟨slots, tabs, code⟩) HW.out (by rw [HF.out]; exact h0)
    have hVV : V = progBytes ⟨slots, tabs, code⟩ := by rw [← HV.out]; unfold encV; rw [HF.out, if_pos h0]
    have hVl := (progBytes_small hVd).1
    rw [← hVV] at d1 d2 hVl
    have D1 := Lib.hid d1
    have D2 := Lib.hid d2
    clear h0 hVV d1 d2 hVd
    go_wp2_with fail
    refine (Decode_any _ _ _ V _ hr3 (by omega)).mono ?_
    rintro e w4 ⟨to4, tc4, co4, cc4, rfl, ht4, hc4, hb4⟩
    rw [D2.out] at ht4 hc4 ⊢
    rw [D1.out]
    simp only at ht4 hc4
    replace H := H.to hb4
    replace H := H.al (.cells #[.int .i64 slots, .slice to4 tabs.length tc4, .slice co4 code.length cc4] 63)
    replace H := H.al (.cells #[.int .i64 0, .int .i64 0] 65)
    replace ht4 := (ht4.below (al (rf w4) (.cells #[.int .i64 slots, .slice to4 tabs.length tc4, .slice co4 code.length cc4] 63))).below (al (rf _) (.cells #[.int .i64 0, .int .i64 0] 65))
    replace hc4 := (hc4.below (al (rf w4) (.cells #[.int .i64 slots, .slice to4 tabs.length tc4, .slice co4 code.length cc4] 63))).below (al (rf _) (.cells #[.int .i64 0, .int .i64 0] 65))
    obtain ⟨hd0, hd1, hd2⟩ := H.out.2.three
    have hz := H.out.2.lt
    have hSP := SameProgram_any slots slots to4 co4 to_ co tc4 cc4 tc cc tabs tabs code code NoA NoA _ ht4 hc4 (ht.below H.out.1) (hc.below H.out.1)
    rw [decide_eq_true rfl] at hSP
    have HSP := Lib.hid hSP
    clear hSP hb4 ht4 hc4 hr3
    go_wp2_with fail
    refine HSP.out.mono ?_
    rintro e w5 ⟨rfl, hb5⟩
    replace H := H.to hb5
    clear HSP hb5 hd0 hd1 hd2 hz
    go_wp2_with fail
    refine (Decode_any _ _ _ bs _ (hb.below H.out.1) (by omega)).mono ?_
    rintro e w6 ⟨to6, tc6, co6, cc6, rfl, ht6, hc6, hb6⟩
    have hB6 := ov H.out.1 hb6
    obtain ⟨E, hE⟩ : ∃ E, decE bs = E := ⟨_, rfl⟩
    obtain ⟨D, hD⟩ : ∃ D, decV bs = D := ⟨_, rfl⟩
    rw [hD] at ht6 hc6 ⊢
    rw [hE]
    have HE := Lib.hid hE
    have HD := Lib.hid hD
    have ha1 := al (rf w6) (.cells #[.int .i64 D.slots, .slice to6 D.tabs.length tc6, .slice co6 D.code.length cc6] 63)
    have ha2 := al ha1 (.cells #[.int .i64 E.1, .int .i64 E.2] 65)
    have hb7 := hb.below (hB6.trans (ha2.mono hB6.size))
    have ht7 := ht6.below ha2
    have hc7 := hc6.below ha2
    have hB7 := hB6.trans (ha2.mono hB6.size)
    have HB7 := Lib.hid hB7
    obtain ⟨hk0, hk1, hk2⟩ := blk2 (rf ((w6.alloc (.cells #[.int .i64 D.slots, .slice to6 D.tabs.length tc6, .slice co6 D.code.length cc6] 63)).alloc (.cells #[.int .i64 E.1, .int .i64 E.2] 65)))
    clear H hb6 hB6 ht6 hc6 hE hD ha1 ha2 hB7 hk0
    by_cases h1 : E.1 = 0
    · have q : (E.1 != 0) = false := by rw [h1]; rfl
      obtain ⟨e1, e2, e3⟩ := enc_dec hb.fit (by rw [HE.out]; exact h1)
      have eD : D = progAt bs := by rw [← HD.out]; unfold decV; rw [HE.out, if_pos h1]
      rw [← eD] at e2 e3
      have PF := Lib.hid (show progF ⟨D.slots, D.tabs, D.code⟩ = (0, 0) from e2)
      have PE := Lib.hid (show encV ⟨D.slots, D.tabs, D.code⟩ = bs by unfold encV; rw [PF.out]; exact e3)
      clear h1 e1 e2 e3 eD
      go_wp2_with fail
      refine (Encode_any D.slots to6 co6 tc6 cc6 D.tabs D.code NoA _ ht7 hc7).mono ?_
      rintro e w8 ⟨r8, rfl, hm8, hb8⟩
      rw [PF.out]
      rw [PE.out] at hm8
      obtain ⟨a8, c8, rfl, hr8, _⟩ := hm8.rd
      have ha8 := al (rf w8) (.cells #[.int .i64 0, .int .i64 0] 65)
      have hSB := SameBytes_any a8 bo bs.length c8 bs.length bc bs bs _ (hr8.below ha8) ((hb7.below hb8).below ha8)
      rw [decide_eq_true rfl] at hSB
      have HSB := Lib.hid hSB
      have hB9 := ov (ov HB7.out hb8) ha8
      clear hSB hm8 hr8 ha8 hb8 hb7 ht7 hc7 hk1 hk2
      go_wp2_with fail
      refine HSB.out.mono ?_
      rintro e w' ⟨rfl, rfl⟩
      go_wp2_with fail
      go_ret
      exact ⟨rfl, hB9⟩
    · have q : (E.1 != 0) = true := by rw [bne_iff_ne]; exact h1
      have eD : D = noProg := by rw [← HD.out]; unfold decV; rw [HE.out, if_neg h1]
      have hSP := SameProgram_any D.slots 0 to6 co6 none none tc6 cc6 0 0 D.tabs [] D.code [] NoA NoA _ ht7 hc7 (RdL.nil_ _ _ _) (RdL.nil_ _ _ _)
      rw [decide_eq_true (show (⟨D.slots, D.tabs, D.code⟩ : Prog) = ⟨0, [], []⟩ from eD)] at hSP
      have HSP := Lib.hid hSP
      clear hSP h1 eD hb7 ht7 hc7 hk1 hk2
      go_wp2_with fail
      refine HSP.out.mono ?_
      rintro e w8 ⟨rfl, hb8⟩
      have hB9 := ov HB7.out hb8
      go_wp2_with fail
      go_ret
      exact ⟨rfl, hB9⟩
  · have q1 : (F.1 == 0) = false := by rw [beq_eq_false_iff_ne]; exact h0
    clear h0 hr3
    go_wp2_with fail
    refine (Decode_any _ _ _ bs _ (hb.below H.out.1) (by omega)).mono ?_
    rintro e w6 ⟨to6, tc6, co6, cc6, rfl, ht6, hc6, hb6⟩
    have hB6 := ov H.out.1 hb6
    obtain ⟨E, hE⟩ : ∃ E, decE bs = E := ⟨_, rfl⟩
    obtain ⟨D, hD⟩ : ∃ D, decV bs = D := ⟨_, rfl⟩
    rw [hD] at ht6 hc6 ⊢
    rw [hE]
    have HE := Lib.hid hE
    have HD := Lib.hid hD
    have ha1 := al (rf w6) (.cells #[.int .i64 D.slots, .slice to6 D.tabs.length tc6, .slice co6 D.code.length cc6] 63)
    have ha2 := al ha1 (.cells #[.int .i64 E.1, .int .i64 E.2] 65)
    have hb7 := hb.below (hB6.trans (ha2.mono hB6.size))
    have ht7 := ht6.below ha2
    have hc7 := hc6.below ha2
    have hB7 := hB6.trans (ha2.mono hB6.size)
    have HB7 := Lib.hid hB7
    obtain ⟨hk0, hk1, hk2⟩ := blk2 (rf ((w6.alloc (.cells #[.int .i64 D.slots, .slice to6 D.tabs.length tc6, .slice co6 D.code.length cc6] 63)).alloc (.cells #[.int .i64 E.1, .int .i64 E.2] 65)))
    clear H hb6 hB6 ht6 hc6 hE hD ha1 ha2 hB7 hk0
    by_cases h1 : E.1 = 0
    · have q : (E.1 != 0) = false := by rw [h1]; rfl
      obtain ⟨e1, e2, e3⟩ := enc_dec hb.fit (by rw [HE.out]; exact h1)
      have eD : D = progAt bs := by rw [← HD.out]; unfold decV; rw [HE.out, if_pos h1]
      rw [← eD] at e2 e3
      have PF := Lib.hid (show progF ⟨D.slots, D.tabs, D.code⟩ = (0, 0) from e2)
      have PE := Lib.hid (show encV ⟨D.slots, D.tabs, D.code⟩ = bs by unfold encV; rw [PF.out]; exact e3)
      clear h1 e1 e2 e3 eD
      go_wp2_with fail
      refine (Encode_any D.slots to6 co6 tc6 cc6 D.tabs D.code NoA _ ht7 hc7).mono ?_
      rintro e w8 ⟨r8, rfl, hm8, hb8⟩
      rw [PF.out]
      rw [PE.out] at hm8
      obtain ⟨a8, c8, rfl, hr8, _⟩ := hm8.rd
      have ha8 := al (rf w8) (.cells #[.int .i64 0, .int .i64 0] 65)
      have hSB := SameBytes_any a8 bo bs.length c8 bs.length bc bs bs _ (hr8.below ha8) ((hb7.below hb8).below ha8)
      rw [decide_eq_true rfl] at hSB
      have HSB := Lib.hid hSB
      have hB9 := ov (ov HB7.out hb8) ha8
      clear hSB hm8 hr8 ha8 hb8 hb7 ht7 hc7 hk1 hk2
      go_wp2_with fail
      refine HSB.out.mono ?_
      rintro e w' ⟨rfl, rfl⟩
      go_wp2_with fail
      go_ret
      exact ⟨rfl, hB9⟩
    · have q : (E.1 != 0) = true := by rw [bne_iff_ne]; exact h1
      have eD : D = noProg := by rw [← HD.out]; unfold decV; rw [HE.out, if_neg h1]
      have hSP := SameProgram_any D.slots 0 to6 co6 none none tc6 cc6 0 0 D.tabs [] D.code [] NoA NoA _ ht7 hc7 (RdL.nil_ _ _ _) (RdL.nil_ _ _ _)
      rw [decide_eq_true (show (⟨D.slots, D.tabs, D.code⟩ : Prog) = ⟨0, [], []⟩ from eD)] at hSP
      have HSP := Lib.hid hSP
      clear hSP h1 eD hb7 ht7 hc7 hk1 hk2
      go_wp2_with fail
      refine HSP.out.mono ?_
      rintro e w8 ⟨rfl, hb8⟩
      have hB9 := ov HB7.out hb8
      go_wp2_with fail
      go_ret
      exact ⟨rfl, hB9⟩
set_option maxRecDepth 100000 in
set_option maxHeartbeats 16000000 in
theorem WordCut_law (slots : Int) (to_ co : Option Addr) (tn tc cn cc : Nat) (tabs : List Shape) (code : List Ins) (at_ : Int) (w : World)
    (hsl : Fits .i64 slots) (ht : RdL shapeLay NoA w to_ tn tc tabs) (hc : RdL insLay NoA w co cn cc code) (ha : Fits .i64 at_) :
    Calls Try.prog 8 #[.agg #[.int .i64 slots, .slice to_ tn tc, .slice co cn cc], .int .i64 at_] w fun e w' => e = .returned (.bool true) ∧ Below w.heap.size w w' := by
  obtain rfl := ht.len
  obtain rfl := hc.len
  have hal := al (rf w) (.cells #[.int .i64 slots, .slice to_ tabs.length tc, .slice co code.length cc] 63)
  have H : Kept (fun w' => Below w.heap.size w w' ∧ Blk w' w.heap.size 63 #[.int .i64 slots, .slice to_ tabs.length tc, .slice co code.length cc]) (w.alloc (.cells #[.int .i64 slots, .slice to_ tabs.length tc, .slice co code.length cc] 63)) := ⟨hal, Blk.new _ _ _⟩
  clear hal
  go_enter Try.func8, Try.ntmps8
  go_wp2_with fail
  refine (wordBegun_any _).mono ?_
  rintro e w1 ⟨rfl, hb1⟩
  replace H := H.to hb1
  clear hb1
  obtain ⟨hd0, hd1, hd2⟩ := H.out.2.three
  have hz := H.out.2.lt
  have hGP := Lib.hid (fun w' => GreatProgram_any slots to_ co tabs.length code.length tc cc w' ht.lt hc.lt)
  by_cases hg : 300 < tabs.length ∨ 65000 < code.length
  · have hgt : Hid ((decide (300 < tabs.length) || decide (65000 < code.length)) = true) := by show _ = _; simpa using hg
    clear hg
    go_wp2_with fail
    refine (hGP.out _).mono ?_
    rintro e w2 ⟨rfl, hb2⟩
    rw [hgt.out]
    have hB := (H.to hb2).out.1
    clear hd0 hd1 hd2 hz hb2
    go_wp2_with fail
    go_ret
    exact ⟨rfl, hB⟩
  have hgt : Hid ((decide (300 < tabs.length) || decide (65000 < code.length)) = false) := by show _ = _; simp; omega
  have hT5 : tabs.length ≤ 300 := by omega
  have hC6 : code.length ≤ 65000 := by omega
  clear hg
  go_wp2_with fail
  refine (hGP.out _).mono ?_
  rintro e w2 ⟨rfl, hb2⟩
  rw [hgt.out]
  clear hd0 hd1 hd2 hz hGP hgt
  replace H := H.to hb2
  clear hb2
  obtain ⟨hd0, hd1, hd2⟩ := H.out.2.three
  have hz := H.out.2.lt
  go_wp2_with fail
  clear hd0 hd1 hd2 hz
  obtain ⟨F, hF⟩ : ∃ F, progF ⟨slots, tabs, code⟩ = F := ⟨_, rfl⟩
  have HF := Lib.hid hF
  clear hF
  refine (Encode_any slots to_ co tc cc tabs code NoA w2 (ht.below H.out.1) (hc.below H.out.1)).mono ?_
  rintro e w3 ⟨r3, rfl, hm3, hb3⟩
  rw [HF.out]
  obtain ⟨V, hV⟩ : ∃ V, encV ⟨slots, tabs, code⟩ = V := ⟨_, rfl⟩
  rw [hV] at hm3
  have HV := Lib.hid hV
  obtain ⟨a3, c3, rfl, hr3, _⟩ := hm3.rd
  have hB3 := ov H.out.1 hb3
  have hal3 := al (rf w3) (.cells #[.int .i64 F.1, .int .i64 F.2] 65)
  have hB4 := hB3.trans (hal3.mono hB3.size)
  have HW := Lib.hid (RdL.wf_flat hc)
  have hr4 := hr3.below hal3
  have hm4 := hm3.below hal3
  have hw2 : w2.heap.size ≤ w3.heap.size := hb3.size
  have hww : w.heap.size ≤ w2.heap.size := H.out.1.size
  clear hm3 hb3 hV hal3 hr3 H
  by_cases h0 : F.1 = 0
  case neg =>
    have q1 : (F.1 != 0) = true := by rw [bne_iff_ne]; exact h0
    have hv0 : V.length = 0 := by rw [← HV.out]; unfold encV; rw [HF.out, if_neg h0]; rfl
    have q3 : ((V.length : Int) == 0) = true := by rw [hv0]; rfl
    clear hv0 h0 hr4 hm4
    go_wp2_with fail
    go_ret
    exact ⟨rfl, hB4⟩
  have q1 : (F.1 != 0) = false := by rw [h0]; rfl
  obtain ⟨hVd, _⟩ := progF_valid (p := ⟨slots, tabs, code⟩) HW.out (by rw [HF.out]; exact h0)
  have hVV : V = progBytes ⟨slots, tabs, code⟩ := by rw [← HV.out]; unfold encV; rw [HF.out, if_pos h0]
  obtain ⟨hVl, hVg⟩ := progBytes_small hVd
  rw [← hVV] at hVl hVg
  obtain ⟨k, hk, hp⟩ := uint_pick at_ V.length (by omega) (by omega)
  have D1 := Lib.hid (dec_cut (p := ⟨slots, tabs, code⟩) HW.out (by rw [HF.out]; exact h0) k (by rw [← hVV]; exact hk))
  have D2 := Lib.hid (dec_more (p := ⟨slots, tabs, code⟩) HW.out (by rw [HF.out]; exact h0) 0)
  rw [← hVV] at D1 D2
  obtain ⟨ak, hcut, hrk⟩ := hr4.cut_max sty_bytes k (by omega)
  have hcutk := fun w' : World => hcut w' .i64 .i64 (k : Int) (k : Int) rfl rfl
  have hVl2 : (V.length : Int) ≤ 900000 := by omega
  have hVg2 : (21 : Int) ≤ V.length := by omega
  have hk2 : (k : Int) < V.length := by omega
  clear hcut h0 hVV hVd
  go_wp2_with fail
  have E1 : Hid (decV (V.take k) = noProg) := by show _ = _; unfold decV; rw [D1.out, if_neg (show ¬ ((3 : Int) = 0) by decide)]
  refine (Decode_any _ _ _ (V.take k) _ hrk (by omega)).mono ?_
  rintro e w5 ⟨to4, tc4, co4, cc4, rfl, ht4, hc4, hb5⟩
  rw [E1.out] at ht4 hc4 ⊢
  rw [D1.out]
  simp only [noProg, List.length_nil] at ht4 hc4 ⊢
  have hm5 := hm4.below hb5
  have hB5 := ov hB4 hb5
  have hz5 : w2.heap.size ≤ w5.heap.size := Nat.le_trans hw2 (by have := hb5.size; simp at this; omega)
  have K := Kept.mine (Kept.start w5) hm5
  replace K := K.and (Q := fun w' => RdL shapeLay NoA w' to4 0 tc4 [] ∧ RdL insLay NoA w' co4 0 cc4 []) ⟨ht4, hc4⟩
  have K6 := (K.new #[.int .i64 0, .slice to4 0 tc4, .slice co4 0 cc4] 63).new #[.int .i64 3, .int .i64 (k : Int)] 65
  rw [show (w5.alloc (.cells #[.int .i64 0, .slice to4 0 tc4, .slice co4 0 cc4] 63)).heap.size = w5.heap.size + 1 by simp] at K6
  have hVs : Hid ((V.length + 1) * 1 ≤ 140737488355328) := by show _ ≤ _; omega
  have hf0 : AllFit .u8 [0] := AllFit.u8s fun x hx => by simp at hx; omega
  clear hcutk hp hr4 hm4 hrk hm5 ht4 hc4 hb5 K q1
  go_wp2_with (at_builtin; refine wpList_append_lit rfl _ _ 77 rfl sty_bytes w2.heap.size rfl K6.out.1.1.1.2 (m := 1) (ys := [0]) rfl ?c1 rfl hf0 _ rfl hVs.out Nat.one_pos (by omega) ?c4 ?_; rotate_left 2; intro v7 w7 hm7 hb7 hk7)
  case c1 => simp
  case c4 => simp; omega
  obtain ⟨a7, c7, rfl, hr7, _⟩ := hm7.rd
  have P5 := hk7 _ _ _ K6.out.1.2 (by decide)
  have F5 := hk7 _ _ _ K6.out.2 (by decide)
  have T5 : RdL shapeLay NoA w7 to4 0 tc4 [] := K6.out.1.1.2.1.zero_
  have C5 : RdL insLay NoA w7 co4 0 cc4 [] := K6.out.1.1.2.2.zero_
  have hB7 : Below w.heap.size w w7 := (al (al hB5 (.cells #[.int .i64 0, .slice to4 0 tc4, .slice co4 0 cc4] 63)) (.cells #[.int .i64 3, .int .i64 (k : Int)] 65)).trans (hb7.mono hww)
  have E2 : Hid (decV (V ++ [0]) = noProg) := by show _ = _; unfold decV; rw [D2.out, if_neg (show ¬ ((4 : Int) = 0) by decide)]
  have hl7 : (V ++ [0]).length = V.length + 1 := by simp
  clear hb7 hk7 K6 hm7 hB5
  refine (Decode_any _ _ _ (V ++ [0]) _ hr7 (by omega)).mono ?_
  rintro e w8 ⟨to8, tc8, co8, cc8, rfl, ht8, hc8, hb8⟩
  rw [E2.out] at ht8 hc8 ⊢
  rw [D2.out]
  simp only [noProg, List.length_nil] at ht8 hc8 ⊢
  have P8 := P5.below hb8 P5.lt
  have F8 := F5.below hb8 F5.lt
  have hB8 := ov hB7 hb8
  have al9 := al (al (rf w8) (.cells #[.int .i64 0, .slice to8 0 tc8, .slice co8 0 cc8] 63)) (.cells #[.int .i64 4, .int .i64 (V.length : Int)] 65)
  have T9 := (T5.below hb8).below al9
  have C9 := (C5.below hb8).below al9
  have P9 := P8.below al9 P8.lt
  have F9 := F8.below al9 F8.lt
  have hB9 := ov hB8 al9
  obtain ⟨_, _, G9⟩ := blk2 (rf ((w8.alloc (.cells #[.int .i64 0, .slice to8 0 tc8, .slice co8 0 cc8] 63)).alloc (.cells #[.int .i64 4, .int .i64 (V.length : Int)] 65)))
  obtain ⟨f9a, f9b⟩ := F9.two
  obtain ⟨p9a, p9b, p9c⟩ := P9.three
  obtain ⟨g9a, g9b⟩ := G9.two
  have hSP := SameProgram_any 0 0 to4 co4 none none tc4 cc4 0 0 [] [] [] [] NoA NoA _ T9 C9 (RdL.nil_ _ _ _) (RdL.nil_ _ _ _)
  rw [decide_eq_true rfl] at hSP
  have HSP := Lib.hid hSP
  have hz9 := F9.lt
  have hz9p := P9.lt
  clear hSP T9 C9 P9 F9 G9 al9 hB8 hB7 P5 F5 P8 F8 T5 C5 hb8 ht8 hc8 hr7 hl7
  go_wp2_with fail
  refine HSP.out.mono ?_
  rintro e w10 ⟨rfl, hb10⟩
  have hB10 := ov hB9 hb10
  replace g9a := keep g9a hb10
  replace g9b := keep g9b hb10
  clear HSP hB9 hb10 f9a f9b p9a p9b p9c
  go_wp2_with fail
  go_ret
  exact ⟨by first | rfl | simp, hB10⟩
end Go.Proofs.Ytfakdapglbgokaa
