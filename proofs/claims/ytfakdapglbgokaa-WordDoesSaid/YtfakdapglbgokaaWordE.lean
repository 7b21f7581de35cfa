/-
  Package word's Encode. No condition.
-/
import Derived.Test.YtfakdapglbgokaaWordC
import Derived.Test.YtfakdapglbgokaaWordQ
import Derived.Test.YtfakdapglbgokaaLit
import Derived.Test.YtfakdapglbgokaaBitsW
namespace Go.Proofs.Ytfakdapglbgokaa
set_option linter.all false
open Go.RowKit

def encV (p : Prog) : List Int := if (progF p).1 = 0 then progBytes p else []
theorem headBytes_fit {p : Prog} (h : Valid p) : AllFit .u8 [83, 87, 1, p.slots, (p.tabs.length : Int)] := by
  have := h.slots; have := h.tabs
  refine AllFit.u8s fun x hx => ?_
  simp at hx
  rcases hx with rfl | rfl | rfl | rfl | rfl <;> omega

set_option maxRecDepth 100000 in
set_option maxHeartbeats 4000000 in
theorem Encode_any (slots : Int) (to_ co : Option Addr) (tc cc : Nat) (tabs : List Shape) (code : List Ins) (A : Nat → Prop) (w : World) (ht : RdL shapeLay A w to_ tabs.length tc tabs) (hc : RdL insLay A w co code.length cc code) :
    Calls Try.prog 49 #[.agg #[.int .i64 slots, .slice to_ tabs.length tc, .slice co code.length cc]] w fun e w' => ∃ r, e = .returned (.tuple #[r, .agg #[.int .i64 (progF ⟨slots, tabs, code⟩).1, .int .i64 (progF ⟨slots, tabs, code⟩).2]]) ∧ Mine w' w.heap.size 5 .u8 r (encV ⟨slots, tabs, code⟩) ∧ Below w.heap.size w w' := by
  have htl := ht.lt
  have hcl := hc.lt
  obtain ⟨E, hE⟩ : ∃ E, encV ⟨slots, tabs, code⟩ = E := ⟨_, rfl⟩
  rw [hE]
  have HE := Lib.hid hE
  clear hE
  obtain ⟨F, hF⟩ : ∃ F, progF ⟨slots, tabs, code⟩ = F := ⟨_, rfl⟩
  rw [hF]
  have HF := Lib.hid hF
  clear hF
  have hB0 := al (al (rf w) (.cells #[.int .i64 slots, .slice to_ tabs.length tc, .slice co code.length cc] 63)) (.cells #[.int .i64 0, .int .i64 0] 65)
  go_enter Try.func49, Try.ntmps49
  go_wp2_with fail
  refine (Check_any _ _ _ _ _ _ _ A _ (ht.below hB0) (hc.below hB0)).mono ?_
  rintro e w1 ⟨rfl, hb1⟩
  rw [HF.out]
  have H : Kept (fun w' => (Below w.heap.size w w' ∧ Blk w' w.heap.size 63 #[.int .i64 slots, .slice to_ tabs.length tc, .slice co code.length cc]) ∧ Blk w' (w.heap.size + 1) 65 #[.int .i64 0, .int .i64 0]) w1 := by
    have := blk2 hb1
    exact ⟨⟨this.1, this.2.1⟩, this.2.2⟩
  clear hb1 hB0
  have hz := H.out.2.lt
  have hz0 := H.out.1.2.lt
  have hfr := H.out.2.frozen 0
  have hfr1 := H.out.2.frozen 1
  obtain ⟨hu, hv⟩ := H.out.2.two
  by_cases h0 : F.1 = 0
  case neg =>
    have hq : (F.1 != 0) = true := by rw [bne_iff_ne]; exact h0
    have hBr := H.out.1.1
    have hsz := hBr.size
    have HV : Hid (E = []) := by show E = []; rw [← HE.out]; unfold encV; rw [HF.out, if_neg h0]
    clear h0
    go_wp2_with fail
    go_region
    go_wp2_with fail
    exact bodyPost_ret (v := .tuple #[.slice none 0 0, .agg #[.int .i64 F.1, .int .i64 F.2]]) (by simp [results, Try.results49, go_sem, hu, hv, hfr, hfr1, hz, hz0]) rfl ⟨_, rfl, by rw [HV.out]; exact Mine.nil _ _ _ _, by go_grown⟩
  have hq : (F.1 != 0) = false := by rw [h0]; rfl
  have hV := progF_valid (p := ⟨slots, tabs, code⟩) (RdL.wf_flat hc) (by rw [HF.out]; exact h0)
  obtain ⟨V, hF2⟩ := hV
  rw [HF.out] at hF2
  have HF2 := Lib.hid hF2
  have HV : Hid (E = progBytes ⟨slots, tabs, code⟩) := by show E = _; rw [← HE.out]; unfold encV; rw [HF.out, if_pos h0]
  have H0 := Lib.hid h0
  have hs1 := V.slots.1
  have hs2 := V.slots.2
  have ht5 := V.tabs
  have hc6 := V.code.2
  simp only at hs1 hs2 ht5 hc6
  have ht5' : (tabs.length : Int) ≤ 255 := by omega
  clear hF2 h0
  have hd0 := H.out.1.2.cell 0
  have hd1 := H.out.1.2.cell 1
  simp at hd0 hd1
  have hfit := headBytes_fit V
  have H1 := H
  have hw1 := H.out.1.1.size
  have kc := Go.Joins.run_convert_bytes_const_at (P := Try.prog) (w1.alloc (.cells #[.int .i64 F.1, .int .i64 F.2] 65)) 77 5 #[.int .u8 83, .int .u8 87, .int .u8 1] 3 3 (w1.heap.size + 1) (by simp) Try.underlying77 Try.underlying5
  have hl : Rd ((w1.alloc (.cells #[.int .i64 F.1, .int .i64 F.2] 65)).alloc (.cells #[.int .u8 83, .int .u8 87, .int .u8 1] 5 (3, 4))) .u8 (some ⟨w1.heap.size + 1, 0, none⟩) 3 3 [83, 87, 1] := by
    refine ⟨rfl, fun x hx => hfit x (by simp at hx ⊢; omega), by simp, by simp [maxLen], fun _ => ⟨_, 0, rfl, fun i hi => ?_⟩, by simp⟩
    rw [Nat.zero_add, cell_of_row _ _ i #[.int .u8 83, .int .u8 87, .int .u8 1] 5 (3, 4) (by have := heap_alloc_new (w1.alloc (.cells #[.int .i64 F.1, .int .i64 F.2] 65)) (.cells #[.int .u8 83, .int .u8 87, .int .u8 1] 5 (3, 4)); rw [World.size_alloc] at this; exact this)]
    match i, hi with
    | 0, _ => rfl
    | 1, _ => rfl
    | 2, _ => rfl
  go_wp2_with (at_builtin; refine wpList_append_over rfl _ _ 77 rfl sty_bytes rfl hl (m := 2) (ys := [slots, (tabs.length : Int)]) rfl ?c1 rfl ?c2 _ rfl (by omega) (by omega) Nat.one_pos (by omega) ?_; rotate_left 2; intro a4 c4 w4 hm4 hb4; have B4 : Below w1.heap.size w1 w4 := ov (al (rf w1) _) ((al (rf _) _).trans (hb4.mono (by simp))); clear hb4; replace H := H.to B4; clear hz hz0 hfr hfr1 hu hv hd0 hd1 kc hl; have hz := H.out.1.2.lt; have hd1 := H.out.1.2.cell 1; simp at hd1)
  case c1 => simp
  case c2 => exact fun x hx => hfit x (by simp at hx ⊢; omega)
  have H0w : Kept (fun w' => (Below w.heap.size w w' ∧ Blk w' w.heap.size 63 #[.int .i64 slots, .slice to_ tabs.length tc, .slice co code.length cc]) ∧ Blk w' (w.heap.size + 1) 65 #[.int .i64 0, .int .i64 0]) w1 := H1
  have hm5 : Mine w4 w1.heap.size 5 .u8 (.slice a4 5 c4) ([83, 87, 1, slots, (tabs.length : Int)] ++ tabsTo tabs 0) := hm4.base_le (by simp; omega)
  clear hm4 hz hd1
  go_loopw [5, 31] (fun v i wr => ∃ k : Nat, k ≤ tabs.length ∧ i = .int .i64 k ∧ Mine wr w1.heap.size 5 .u8 v ([83, 87, 1, slots, (tabs.length : Int)] ++ tabsTo tabs k) ∧ Below w1.heap.size w1 wr ∧ Below w.heap.size w wr) (fun _ i _ => tabs.length - (intOf i).toNat)
  case atStart => exact ⟨0, Nat.zero_le _, rfl, hm5, B4, H.out.1.1⟩
  case round =>
    clear hm5
    obtain ⟨k, hk, rfl, hm, hbr, hbw⟩ := hrel
    by_cases hlt : k < tabs.length
    · obtain ⟨b, off, rfl, _, hb, hwf, hc0, hc1, hc2⟩ := (ht.below hbw).shape_at hlt
      have htab := tabBad_false (V.tab k hlt)
      simp only at htab
      obtain ⟨t1, t2, t3, t4, t5, t6⟩ := htab
      have hlen : Hid (([83, 87, 1, slots, (tabs.length : Int)] ++ tabsTo tabs k).length = 5 + 3 * k) := by show _ = _; rw [List.length_append, tabsTo_length]; rfl
      have hm2 : Mine (wr.alloc (.cells (nth tabs k).cells.toArray 123)) w1.heap.size 5 .u8 u5 ([83, 87, 1, slots, (tabs.length : Int)] ++ tabsTo tabs k) := hm.below (al (rf wr) _)
      clear hwf hm
      have hsz : Hid ((([83, 87, 1, slots, (tabs.length : Int)] ++ tabsTo tabs k).length + 3) * 1 ≤ 140737488355328) := by show _ ≤ _; rw [hlen.out]; omega
      have hsb : Hid (AllFit .u8 (shapeBytes (nth tabs k))) := AllFit.u8s fun x hx => by simp [shapeBytes] at hx; omega
      have hwz := hbr.size
      have htt : Hid (([83, 87, 1, slots, (tabs.length : Int)] ++ tabsTo tabs k) ++ shapeBytes (nth tabs k) = [83, 87, 1, slots, (tabs.length : Int)] ++ tabsTo tabs (k + 1)) := by show _ = _; rw [List.append_assoc]; rfl
      go_wp2_with (at_builtin; refine wpList_append_lit rfl _ _ 77 rfl sty_bytes w1.heap.size rfl hm2 (m := 3) (ys := shapeBytes (nth tabs k)) rfl ?c1 rfl hsb.out _ rfl hsz.out Nat.one_pos (by omega) ?c4 ?_; rotate_left 2; intro v' w5 hm5 hb5 _; rw [htt.out] at hm5)
      case c1 => simp
      case c4 => simp; omega
      go_roundw
      case rel => exact ⟨k + 1, by omega, by go_num, hm5, hbr.trans ((al (rf wr) _).mono hwz |>.trans hb5), hbw.trans ((al (rf wr) _).mono hbw.size |>.trans (hb5.mono (by omega)))⟩
      case measure => simp [intOf]; omega
    · obtain rfl : k = tabs.length := by omega
      have H2 := H0w.to hbr
      have hz := H2.out.1.2.lt
      have hd2 := H2.out.1.2.cell 2
      simp at hd2
      have hlen : Hid (([83, 87, 1, slots, (tabs.length : Int)] ++ tabsTo tabs tabs.length).length = 5 + 3 * tabs.length) := by show _ = _; rw [List.length_append, tabsTo_length]; simp; try omega
      have hsz : Hid ((([83, 87, 1, slots, (tabs.length : Int)] ++ tabsTo tabs tabs.length).length + 2) * 1 ≤ 140737488355328) := by show _ ≤ _; rw [hlen.out]; omega
      have hsb : Hid (AllFit .u8 [(code.length : Int) / 256, (code.length : Int) % 256]) := AllFit.u8s fun x hx => by simp at hx; omega
      have hwz := hbr.size
      have hq1 : IntKind.u8.wrap ((code.length : Int) / 256) = (code.length : Int) / 256 := by go_arith
      have hq2 : IntKind.u8.wrap (code.length : Int) = (code.length : Int) % 256 := by rw [IntKind.wrap_u8]
      go_wp2_with (at_builtin; refine wpList_append_lit rfl _ _ 77 rfl sty_bytes w1.heap.size rfl hm (m := 2) (ys := [(code.length : Int) / 256, (code.length : Int) % 256]) rfl ?c1 rfl hsb.out _ rfl hsz.out Nat.one_pos (by omega) ?c4 ?_; rotate_left 2; intro v' w5 hm5 hb5 _; have B5 : Below w1.heap.size w1 w5 := hbr.trans hb5; clear hb5 hz hd2; have H5 := H0w.to B5; have hz := H5.out.1.2.lt; have hd2 := H5.out.1.2.cell 2; simp at hd2)
      case c1 => simp
      case c4 => simpa using hwz
      obtain ⟨hd, hhd⟩ : ∃ hd, hd = ([83, 87, 1, slots, (tabs.length : Int)] ++ tabsTo tabs tabs.length) ++ [(code.length : Int) / 256, (code.length : Int) % 256] := ⟨_, rfl⟩
      rw [← hhd] at hm5
      have HD := Lib.hid hhd
      have hdl : Hid (hd.length = 7 + 3 * tabs.length) := by show _ = _; rw [hhd, List.length_append, hlen.out]; simp; omega
      clear hhd
      obtain ⟨B, hBB⟩ : ∃ B, B = w1.heap.size := ⟨_, rfl⟩
      replace hm5 : Mine w5 B 5 .u8 v' (hd ++ codeTo code 0) := by rw [hBB]; simpa [codeTo] using hm5
      have hwB : w.heap.size ≤ B := by omega
      have hBz : B ≤ w5.heap.size := by rw [hBB]; exact B5.size
      replace B5 : Below B w1 w5 := by rw [hBB]; exact B5
      have HBB := Lib.hid hBB
      have hB1 : w1.heap.size ≤ B := by omega
      clear hBB hz hd2 hlen hsz hsb hq1 hq2 hm hbr hbw
      go_loopw [5, 63] (fun v i wr => ∃ k : Nat, k ≤ code.length ∧ i = .int .i64 k ∧ Mine wr B 5 .u8 v (hd ++ codeTo code k) ∧ Below B w1 wr) (fun _ i _ => code.length - (intOf i).toNat)
      case atStart => exact ⟨0, Nat.zero_le _, rfl, hm5, B5⟩
      case round =>
        clear hm5 B5 H5 hBz
        obtain ⟨k, hk, rfl, hm, hbr⟩ := hrel
        have hBz : B ≤ wr.heap.size := by have := hbr.size; have := HBB.out; omega
        have Hr := H0w.to (hbr.mono hB1)
        have hz := Hr.out.1.2.lt
        by_cases hlt : k < code.length
        · obtain ⟨b, off, rfl, _, hb, hwf, hc0, hc1, hc2, hc3, hc4, hc5⟩ := (hc.below Hr.out.1.1).ins_at hlt
          have hsm := V.ins k hlt
          simp only at hsm
          obtain ⟨⟨o1, o2⟩, ⟨r1, r2⟩, ⟨s1, s2⟩, ⟨k1, k2⟩, ⟨e1, e2⟩⟩ := hsm
          have hnn := hwf.2.2.2.2.2.u64
          have hm2 : Mine (wr.alloc (.cells (nth code k).cells.toArray 56)) B 5 .u8 u5 (hd ++ codeTo code k) := hm.below (al (rf wr) _)
          have hlen : Hid ((hd ++ codeTo code k).length = 7 + 3 * tabs.length + 14 * k) := by show _ = _; rw [List.length_append, hdl.out, codeTo_length]
          have hsz : Hid (((hd ++ codeTo code k).length + 6) * 1 ≤ 140737488355328) := by show _ ≤ _; rw [hlen.out]; omega
          have hsb : Hid (AllFit .u8 [(nth code k).op, (nth code k).r, (nth code k).s, (nth code k).k, (nth code k).to / 256, (nth code k).to % 256]) := AllFit.u8s fun x hx => by simp at hx; omega
          have hq2 : IntKind.u8.wrap (nth code k).to = (nth code k).to % 256 := by rw [IntKind.wrap_u8]
          clear hwf hm hb
          go_wp2_with (at_builtin; refine wpList_append_lit rfl _ _ 77 rfl sty_bytes B rfl hm2 (m := 6) (ys := [(nth code k).op, (nth code k).r, (nth code k).s, (nth code k).k, (nth code k).to / 256, (nth code k).to % 256]) rfl ?c1 rfl hsb.out _ rfl hsz.out Nat.one_pos (by omega) ?c4 ?_; rotate_left 2; intro v6 w6 hm6 hb6 hk6)
          case c1 => simp
          case c4 => simp; omega
          have B6 : Below B w1 w6 := hbr.trans (((al (rf wr) _).mono hBz).trans hb6)
          have hbx := hk6 wr.heap.size 56 _ (Blk.new wr 56 (nth code k).cells.toArray) (by decide)
          obtain ⟨bx, hbxe⟩ : ∃ bx, bx = wr.heap.size := ⟨_, rfl⟩
          rw [← hbxe] at hbx ⊢
          obtain ⟨L, hL⟩ : ∃ L, L = (hd ++ codeTo code k) ++ [(nth code k).op, (nth code k).r, (nth code k).s, (nth code k).k, (nth code k).to / 256, (nth code k).to % 256] := ⟨_, rfl⟩
          rw [← hL] at hm6
          have hLl : Hid (L.length = 13 + 3 * tabs.length + 14 * k) := by show _ = _; rw [hL, List.length_append, hlen.out]; simp; omega
          have HL := Lib.hid hL
          obtain ⟨N, hN⟩ : ∃ N, N = (nth code k).n := ⟨_, rfl⟩
          rw [← hN] at hnn
          have HN := Lib.hid hN
          have hm7 : Mine w6 B 5 .u8 v6 (L ++ (numBytes N).take 0) := by simpa using hm6
          obtain ⟨wo, hwo⟩ : ∃ wo, wo = wr := ⟨_, rfl⟩
          have hbx5 : w6.cell? ⟨bx, 5, none⟩ = some (.int .u64 N) := by rw [hN]; exact hbx.cell 5
          clear hL hN hbxe hwo hm6 hb6 hk6 hsz hsb hc0 hc1 hc2 hc3 hc4 hc5 hm2 hz hq2 hlen
          go_loopw [5, 10] (fun v i wq => ∃ c : Nat, c ≤ 8 ∧ i = .int .i64 (7 - (c : Int)) ∧ Mine wq B 5 .u8 v (L ++ (numBytes N).take c) ∧ Below B w1 wq ∧ Blk wq bx 56 (nth code k).cells.toArray) (fun _ i _ => (intOf i + 1).toNat)
          case atStart => exact ⟨0, by omega, rfl, hm7, B6, hbx⟩
          case round =>
            clear hm7 B6 hbx hbx5
            obtain ⟨c, hc8, rfl, hm, hbr2, hbx⟩ := hrel
            have hbx5 : wr.cell? ⟨bx, 5, none⟩ = some (.int .u64 N) := by rw [HN.out]; exact hbx.cell 5
            have hsz : Hid (((L ++ (numBytes N).take c).length + 1) * 1 ≤ 140737488355328) := by show _ ≤ _; rw [List.length_append, hLl.out, List.length_take]; omega
            have hBw : B ≤ wr.heap.size := Nat.le_trans (by have := HBB.out; omega) hbr2.size
            by_cases hc8' : c = 8
            · subst hc8'
              go_wp2_with fail
              have htt : Hid (L ++ (numBytes N).take 8 = hd ++ codeTo code (k + 1)) := by
                show _ = _
                rw [HL.out, HN.out]
                simp [codeTo, insBytes, numBytes]
              rw [htt.out] at hm
              go_roundw
              case rel => exact ⟨k + 1, by omega, by go_num, hm, hbr2⟩
              case measure => simp [intOf]; omega
            have hc7 : c = 0 ∨ c = 1 ∨ c = 2 ∨ c = 3 ∨ c = 4 ∨ c = 5 ∨ c = 6 ∨ c = 7 := by omega
            clear hc8' hc8
            rcases hc7 with rfl | rfl | rfl | rfl | rfl | rfl | rfl | rfl
            · have hv8 : Hid (AllFit .u8 [N / 72057594037927936]) := AllFit.u8s fun x hx => by simp at hx; omega
              have htt : Hid ((L ++ (numBytes N).take 0) ++ [N / 72057594037927936] = L ++ (numBytes N).take 1) := by
                show _ = _
                rw [List.append_assoc]
                simp only [numBytes, List.take_succ_cons, List.take_zero, List.cons_append, List.nil_append]
                rw [show N / 72057594037927936 % 256 = N / 72057594037927936 by omega]
              go_wp2_with (at_builtin; refine wpList_append_lit rfl _ _ 77 rfl sty_bytes B rfl hm (m := 1) (ys := [N / 72057594037927936]) rfl ?c1 rfl hv8.out _ rfl hsz.out Nat.one_pos (by omega) ?c4 ?_; rotate_left 2; intro v8 w8 hm8 hb8 hk8; rw [htt.out] at hm8)
              case c1 => simp
              case c4 => exact hBw
              have hbx8 := hk8 _ _ _ hbx (by decide)
              go_roundw
              case rel => exact ⟨1, by omega, by go_num, hm8, hbr2.trans hb8, hbx8⟩
              case measure => simp [intOf]
            · have hv8 : Hid (AllFit .u8 [N / 281474976710656 % 256]) := AllFit.u8s fun x hx => by simp at hx; omega
              have htt : Hid ((L ++ (numBytes N).take 1) ++ [N / 281474976710656 % 256] = L ++ (numBytes N).take 2) := by
                show _ = _
                rw [List.append_assoc]
                simp only [numBytes, List.take_succ_cons, List.take_zero, List.cons_append, List.nil_append]
                skip
              go_wp2_with (at_builtin; refine wpList_append_lit rfl _ _ 77 rfl sty_bytes B rfl hm (m := 1) (ys := [N / 281474976710656 % 256]) rfl ?c1 rfl hv8.out _ rfl hsz.out Nat.one_pos (by omega) ?c4 ?_; rotate_left 2; intro v8 w8 hm8 hb8 hk8; rw [htt.out] at hm8)
              case c1 => simp
              case c4 => exact hBw
              have hbx8 := hk8 _ _ _ hbx (by decide)
              go_roundw
              case rel => exact ⟨2, by omega, by go_num, hm8, hbr2.trans hb8, hbx8⟩
              case measure => simp [intOf]
            · have hv8 : Hid (AllFit .u8 [N / 1099511627776 % 256]) := AllFit.u8s fun x hx => by simp at hx; omega
              have htt : Hid ((L ++ (numBytes N).take 2) ++ [N / 1099511627776 % 256] = L ++ (numBytes N).take 3) := by
                show _ = _
                rw [List.append_assoc]
                simp only [numBytes, List.take_succ_cons, List.take_zero, List.cons_append, List.nil_append]
                skip
              go_wp2_with (at_builtin; refine wpList_append_lit rfl _ _ 77 rfl sty_bytes B rfl hm (m := 1) (ys := [N / 1099511627776 % 256]) rfl ?c1 rfl hv8.out _ rfl hsz.out Nat.one_pos (by omega) ?c4 ?_; rotate_left 2; intro v8 w8 hm8 hb8 hk8; rw [htt.out] at hm8)
              case c1 => simp
              case c4 => exact hBw
              have hbx8 := hk8 _ _ _ hbx (by decide)
              go_roundw
              case rel => exact ⟨3, by omega, by go_num, hm8, hbr2.trans hb8, hbx8⟩
              case measure => simp [intOf]
            · have hv8 : Hid (AllFit .u8 [N / 4294967296 % 256]) := AllFit.u8s fun x hx => by simp at hx; omega
              have htt : Hid ((L ++ (numBytes N).take 3) ++ [N / 4294967296 % 256] = L ++ (numBytes N).take 4) := by
                show _ = _
                rw [List.append_assoc]
                simp only [numBytes, List.take_succ_cons, List.take_zero, List.cons_append, List.nil_append]
                skip
              go_wp2_with (at_builtin; refine wpList_append_lit rfl _ _ 77 rfl sty_bytes B rfl hm (m := 1) (ys := [N / 4294967296 % 256]) rfl ?c1 rfl hv8.out _ rfl hsz.out Nat.one_pos (by omega) ?c4 ?_; rotate_left 2; intro v8 w8 hm8 hb8 hk8; rw [htt.out] at hm8)
              case c1 => simp
              case c4 => exact hBw
              have hbx8 := hk8 _ _ _ hbx (by decide)
              go_roundw
              case rel => exact ⟨4, by omega, by go_num, hm8, hbr2.trans hb8, hbx8⟩
              case measure => simp [intOf]
            · have hv8 : Hid (AllFit .u8 [N / 16777216 % 256]) := AllFit.u8s fun x hx => by simp at hx; omega
              have htt : Hid ((L ++ (numBytes N).take 4) ++ [N / 16777216 % 256] = L ++ (numBytes N).take 5) := by
                show _ = _
                rw [List.append_assoc]
                simp only [numBytes, List.take_succ_cons, List.take_zero, List.cons_append, List.nil_append]
                skip
              go_wp2_with (at_builtin; refine wpList_append_lit rfl _ _ 77 rfl sty_bytes B rfl hm (m := 1) (ys := [N / 16777216 % 256]) rfl ?c1 rfl hv8.out _ rfl hsz.out Nat.one_pos (by omega) ?c4 ?_; rotate_left 2; intro v8 w8 hm8 hb8 hk8; rw [htt.out] at hm8)
              case c1 => simp
              case c4 => exact hBw
              have hbx8 := hk8 _ _ _ hbx (by decide)
              go_roundw
              case rel => exact ⟨5, by omega, by go_num, hm8, hbr2.trans hb8, hbx8⟩
              case measure => simp [intOf]
            · have hv8 : Hid (AllFit .u8 [N / 65536 % 256]) := AllFit.u8s fun x hx => by simp at hx; omega
              have htt : Hid ((L ++ (numBytes N).take 5) ++ [N / 65536 % 256] = L ++ (numBytes N).take 6) := by
                show _ = _
                rw [List.append_assoc]
                simp only [numBytes, List.take_succ_cons, List.take_zero, List.cons_append, List.nil_append]
                skip
              go_wp2_with (at_builtin; refine wpList_append_lit rfl _ _ 77 rfl sty_bytes B rfl hm (m := 1) (ys := [N / 65536 % 256]) rfl ?c1 rfl hv8.out _ rfl hsz.out Nat.one_pos (by omega) ?c4 ?_; rotate_left 2; intro v8 w8 hm8 hb8 hk8; rw [htt.out] at hm8)
              case c1 => simp
              case c4 => exact hBw
              have hbx8 := hk8 _ _ _ hbx (by decide)
              go_roundw
              case rel => exact ⟨6, by omega, by go_num, hm8, hbr2.trans hb8, hbx8⟩
              case measure => simp [intOf]
            · have hv8 : Hid (AllFit .u8 [N / 256 % 256]) := AllFit.u8s fun x hx => by simp at hx; omega
              have htt : Hid ((L ++ (numBytes N).take 6) ++ [N / 256 % 256] = L ++ (numBytes N).take 7) := by
                show _ = _
                rw [List.append_assoc]
                simp only [numBytes, List.take_succ_cons, List.take_zero, List.cons_append, List.nil_append]
                skip
              go_wp2_with (at_builtin; refine wpList_append_lit rfl _ _ 77 rfl sty_bytes B rfl hm (m := 1) (ys := [N / 256 % 256]) rfl ?c1 rfl hv8.out _ rfl hsz.out Nat.one_pos (by omega) ?c4 ?_; rotate_left 2; intro v8 w8 hm8 hb8 hk8; rw [htt.out] at hm8)
              case c1 => simp
              case c4 => exact hBw
              have hbx8 := hk8 _ _ _ hbx (by decide)
              go_roundw
              case rel => exact ⟨7, by omega, by go_num, hm8, hbr2.trans hb8, hbx8⟩
              case measure => simp [intOf]
            · have hv8 : Hid (AllFit .u8 [N % 256]) := AllFit.u8s fun x hx => by simp at hx; omega
              have htt : Hid ((L ++ (numBytes N).take 7) ++ [N % 256] = L ++ (numBytes N).take 8) := by
                show _ = _
                rw [List.append_assoc]
                simp only [numBytes, List.take_succ_cons, List.take_zero, List.cons_append, List.nil_append]
                skip
              go_wp2_with (at_builtin; refine wpList_append_lit rfl _ _ 77 rfl sty_bytes B rfl hm (m := 1) (ys := [N % 256]) rfl ?c1 rfl hv8.out _ rfl hsz.out Nat.one_pos (by omega) ?c4 ?_; rotate_left 2; intro v8 w8 hm8 hb8 hk8; rw [htt.out] at hm8)
              case c1 => simp
              case c4 => exact hBw
              have hbx8 := hk8 _ _ _ hbx (by decide)
              go_roundw
              case rel => exact ⟨8, by omega, by go_num, hm8, hbr2.trans hb8, hbx8⟩
              case measure => simp [intOf]
        · obtain rfl : k = code.length := by omega
          have hz9 := Hr.out.2.lt
          have hfr := Hr.out.2.frozen 0
          have hfr1 := Hr.out.2.frozen 1
          obtain ⟨hu, hv⟩ := Hr.out.2.two
          have hfin : Mine wr B 5 .u8 u5 E := by
            rw [HV.out]
            unfold progBytes
            rw [← HD.out]
            exact hm
          have hfB : w.heap.size + 1 < B := by have := H1.out.2.lt; have := HBB.out; omega
          have hBf := Hr.out.1.1
          have hsz9 := hBf.size
          go_wp2_with fail
          exact bodyPost_ret (v := .tuple #[u5, .agg #[.int .i64 0, .int .i64 0]]) (by simp [results, Try.results49, go_sem, hu, hv, hfr, hfr1, hz9]) rfl ⟨_, by rw [H0.out, HF2.out], (hfin.set2 hfB _ _).base_le hwB, by go_grown⟩
end Go.Proofs.Ytfakdapglbgokaa
