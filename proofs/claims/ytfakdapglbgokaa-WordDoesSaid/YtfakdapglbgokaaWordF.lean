/-
  The references' ProgramBytes, of a program that may be. No condition.
-/
import Derived.Test.YtfakdapglbgokaaWordQ
import Derived.Test.YtfakdapglbgokaaWordW
import Derived.Test.YtfakdapglbgokaaLit
import Derived.Test.YtfakdapglbgokaaBitsV
import Derived.BigQuiet
import Derived.Deep.QuietTactic
import Derived.Deep.RegionLaw
import Derived.Deep.RegionHeld3
import Derived.Deep.DrawnRows
import Derived.Outline
import Derived.RegionTactic
namespace Go.Proofs.Ytfakdapglbgokaa
set_option linter.all false
open Go.RowKit
attribute [local go_sem ↓] Go.wp_at_zero Go.wp_at_succ

theorem headBytes_fit2 {p : Prog} (h : Valid p) : AllFit .u8 [83, 87, 1, p.slots, (p.tabs.length : Int)] := by
  have := h.slots; have := h.tabs
  refine AllFit.u8s fun x hx => ?_
  simp at hx
  rcases hx with rfl | rfl | rfl | rfl | rfl <;> omega
set_option maxRecDepth 100000 in
set_option maxHeartbeats 4000000 in
theorem ProgramBytes_any (slots : Int) (to_ co : Option Addr) (tc cc : Nat) (tabs : List Shape) (code : List Ins) (A : Nat → Prop) (w : World) (ht : RdL shapeLay A w to_ tabs.length tc tabs) (hc : RdL insLay A w co code.length cc code) (V : Valid ⟨slots, tabs, code⟩) :
    Calls Try.prog 55 #[.agg #[.int .i64 slots, .slice to_ tabs.length tc, .slice co code.length cc]] w fun e w' => ∃ r, e = .returned r ∧ Mine w' w.heap.size 5 .u8 r (progBytes ⟨slots, tabs, code⟩) ∧ Below w.heap.size w w' := by
  have htl := ht.lt
  have hcl := hc.lt
  have hs1 := V.slots.1
  have hs2 := V.slots.2
  have ht5 := V.tabs
  have hc6 := V.code.2
  simp only at hs1 hs2 ht5 hc6
  have ht5' : (tabs.length : Int) ≤ 255 := by omega
  have hfit := headBytes_fit2 V
  simp only at hfit
  have H : Kept (fun w' => (Below w.heap.size w w' ∧ Blk w' w.heap.size 63 #[.int .i64 slots, .slice to_ tabs.length tc, .slice co code.length cc]) ∧ Blk w' (w.heap.size + 1) 5 #[.int .u8 83, .int .u8 87, .int .u8 1, .int .u8 slots, .int .u8 (tabs.length : Int)]) ((w.alloc (.cells #[.int .i64 slots, .slice to_ tabs.length tc, .slice co code.length cc] 63)).alloc (.cells #[.int .u8 83, .int .u8 87, .int .u8 1, .int .u8 slots, .int .u8 (tabs.length : Int)] 5)) := by
    have := blk2 (rf ((w.alloc (.cells #[.int .i64 slots, .slice to_ tabs.length tc, .slice co code.length cc] 63)).alloc (.cells #[.int .u8 83, .int .u8 87, .int .u8 1, .int .u8 slots, .int .u8 (tabs.length : Int)] 5)))
    exact ⟨⟨this.1, this.2.1⟩, this.2.2⟩
  go_enter Try.func55, Try.ntmps55
  go_wp2_with fail
  generalize hw1 : (w.alloc (.cells #[.int .i64 slots, .slice to_ tabs.length tc, .slice co code.length cc] 63)).alloc (.cells #[.int .u8 83, .int .u8 87, .int .u8 1, .int .u8 slots, .int .u8 (tabs.length : Int)] 5) = w1 at *
  clear hw1
  obtain ⟨B, hBB⟩ : ∃ B, B = w.heap.size + 1 := ⟨_, rfl⟩
  have hm5 : Mine w1 B 5 .u8 (.slice (some ⟨w.heap.size + 1, 0, none⟩) 5 5) ([83, 87, 1, slots, (tabs.length : Int)] ++ tabsTo tabs 0) :=
    Mine.lit (xs := [83, 87, 1, slots, (tabs.length : Int)]) H.out.2 hfit (by simp) (by omega)
  have HB : Kept (fun w' => Below w.heap.size w w' ∧ Blk w' w.heap.size 63 #[.int .i64 slots, .slice to_ tabs.length tc, .slice co code.length cc]) w1 := H.out.1
  have hB1 : B ≤ w1.heap.size := by have := H.out.2.lt; omega
  have hwB : w.heap.size ≤ B := by omega
  have HBB := Lib.hid hBB
  clear H hBB
  go_loopw [3, 4] (fun v i wr => ∃ k : Nat, k ≤ tabs.length ∧ i = .int .i64 k ∧ Mine wr B 5 .u8 v ([83, 87, 1, slots, (tabs.length : Int)] ++ tabsTo tabs k) ∧ Below B w1 wr) (fun _ i _ => tabs.length - (intOf i).toNat)
  case atStart => exact ⟨0, Nat.zero_le _, rfl, hm5, rf _ |>.mono hB1⟩
  case round =>
    clear hm5
    obtain ⟨k, hk, rfl, hm, hbr⟩ := hrel
    have hBz : B ≤ wr.heap.size := Nat.le_trans hB1 hbr.size
    have hbw : Below w.heap.size w wr := HB.out.1.trans (hbr.mono hwB)
    have hpb : Blk wr w.heap.size 63 #[.int .i64 slots, .slice to_ tabs.length tc, .slice co code.length cc] := HB.out.2.below hbr (by have := HBB.out; omega)
    have hz := hpb.lt
    by_cases hlt : k < tabs.length
    · have hd1 := hpb.cell 1
      simp at hd1
      obtain ⟨b, off, rfl, _, hb, hwf, hc0, hc1, hc2⟩ := ht.shape_at hlt
      replace hc0 := keep hc0 hbw
      replace hc1 := keep hc1 hbw
      replace hc2 := keep hc2 hbw
      have htab := tabBad_false (V.tab k hlt)
      simp only at htab
      obtain ⟨t1, t2, t3, t4, t5, t6⟩ := htab
      have hlen : Hid (([83, 87, 1, slots, (tabs.length : Int)] ++ tabsTo tabs k).length = 5 + 3 * k) := by show _ = _; rw [List.length_append, tabsTo_length]; rfl
      have hsz : Hid ((([83, 87, 1, slots, (tabs.length : Int)] ++ tabsTo tabs k).length + 3) * 1 ≤ 140737488355328) := by show _ ≤ _; rw [hlen.out]; omega
      have hsb : AllFit .u8 (shapeBytes (nth tabs k)) := AllFit.u8s fun x hx => by simp [shapeBytes] at hx; omega
      have htt : Hid (([83, 87, 1, slots, (tabs.length : Int)] ++ tabsTo tabs k) ++ shapeBytes (nth tabs k) = [83, 87, 1, slots, (tabs.length : Int)] ++ tabsTo tabs (k + 1)) := by show _ = _; rw [List.append_assoc]; rfl
      have x0 : IntKind.u8.wrap (nth tabs k).keys = (nth tabs k).keys := by rw [IntKind.wrap_u8]; omega
      have x1 : IntKind.u8.wrap (nth tabs k).acts = (nth tabs k).acts := by rw [IntKind.wrap_u8]; omega
      have x2 : IntKind.u8.wrap (nth tabs k).args = (nth tabs k).args := by rw [IntKind.wrap_u8]; omega
      have hl3 : Rd (wr.alloc (.cells #[.int .u8 (nth tabs k).keys, .int .u8 (nth tabs k).acts, .int .u8 (nth tabs k).args] 5)).drew .u8 (some ⟨wr.heap.size, 0, none⟩) 3 3 (shapeBytes (nth tabs k)) :=
        Rd.lit .u8 (shapeBytes (nth tabs k)) 5 _ (heap_alloc_new wr _) hsb (by simp [shapeBytes])
      have hm3 : Mine (wr.alloc (.cells #[.int .u8 (nth tabs k).keys, .int .u8 (nth tabs k).acts, .int .u8 (nth tabs k).args] 5)).drew B 5 .u8 u3 ([83, 87, 1, slots, (tabs.length : Int)] ++ tabsTo tabs k) := (hm.below (al (rf wr) _)).drew
      have hbz3 : B ≤ (wr.alloc (.cells #[.int .u8 (nth tabs k).keys, .int .u8 (nth tabs k).acts, .int .u8 (nth tabs k).args] 5)).drew.heap.size := by simp; omega
      have hbB : b < B := by omega
      have hwB' : w.heap.size < B := by have := HBB.out; omega
      have hi0 : (0 : Int) ≤ (k : Int) := by omega
      have hi1 : (k : Int) < (tabs.length : Int) := by omega
      have HX := Lib.hid hsb
      clear hwf hm hsb t1 t2 t3 t4 t5 t6
      go_wp2_with fail
      go_region_held3 (fun w' => w'.cell? ⟨w.heap.size, 1, none⟩ = some (.slice (some ⟨b, off, none⟩) tabs.length tc) ∧ w'.cell? ⟨b, off + k * 3, none⟩ = some (.int .i64 (nth tabs k).keys) ∧ w'.cell? ⟨b, off + k * 3 + 1, none⟩ = some (.int .i64 (nth tabs k).acts) ∧ w'.cell? ⟨b, off + k * 3 + 2, none⟩ = some (.int .i64 (nth tabs k).args))
        (first
          | go_keep
          | (go_split_ands
             refine ⟨?_, ?_, ?_, ?_⟩ <;> (rw [hb7.cell (by assumption)]; go_keep)))
        ((refine step_append_rd (k := .u8) (v := u3) (xs := [83, 87, 1, slots, (tabs.length : Int)] ++ tabsTo tabs k) (by rfl) _ _ 77 (by rfl) sty_bytes B (by rfl) hm3 (by rfl) hl3 hsz.out Nat.one_pos hbz3 ?_; intro v2 w6 hm6 hb7))
      go_wp2_with fail
      have hm9 : Mine w6 B 5 .u8 v2 ([83, 87, 1, slots, (tabs.length : Int)] ++ tabsTo tabs (k + 1)) := by rw [← htt.out]; exact hm6
      have hB9 : Below B w1 w6 := hbr.trans (Below.trans (by exact ((al (rf wr) _).mono hBz).drew) hb7)
      go_roundw
      case rel => exact ⟨k + 1, by omega, by go_num, hm9, hB9⟩
      case measure => simp [intOf]; omega
    · obtain rfl : k = tabs.length := by omega
      have hd1 := hpb.cell 1
      have hd2 := hpb.cell 2
      simp at hd1 hd2
      have hlen : Hid (([83, 87, 1, slots, (tabs.length : Int)] ++ tabsTo tabs tabs.length).length = 5 + 3 * tabs.length) := by show _ = _; rw [List.length_append, tabsTo_length]; simp; try omega
      have hsz : Hid ((([83, 87, 1, slots, (tabs.length : Int)] ++ tabsTo tabs tabs.length).length + 2) * 1 ≤ 140737488355328) := by show _ ≤ _; rw [hlen.out]; omega
      have hsb : Hid (AllFit .u8 [(code.length : Int) / 256, (code.length : Int) % 256]) := AllFit.u8s fun x hx => by simp at hx; omega
      have hwz := hbr.size
      have hq1 : IntKind.u8.wrap ((code.length : Int) / 256) = (code.length : Int) / 256 := by go_arith
      have hq2 : IntKind.u8.wrap ((code.length : Int) % 256) = (code.length : Int) % 256 := by go_arith
      go_wp2_with (at_builtin; refine wpList_append_lit rfl _ _ 77 rfl sty_bytes B rfl hm (m := 2) (ys := [(code.length : Int) / 256, (code.length : Int) % 256]) rfl ?c1 rfl hsb.out _ rfl hsz.out Nat.one_pos (by omega) ?c4 ?_; rotate_left 2; intro v' w5 hm5 hb5 _; have B5 : Below B w1 w5 := hbr.trans hb5; have hp5 := hpb.below hb5 (by have := HBB.out; omega); clear hb5 hz hd1 hd2 hpb; have hz := hp5.lt; have hd2 := hp5.cell 2; simp at hd2)
      case c1 => simp
      case c4 => simpa using hBz
      obtain ⟨hd, hhd⟩ : ∃ hd, hd = ([83, 87, 1, slots, (tabs.length : Int)] ++ tabsTo tabs tabs.length) ++ [(code.length : Int) / 256, (code.length : Int) % 256] := ⟨_, rfl⟩
      rw [← hhd] at hm5
      have HD := Lib.hid hhd
      have hdl : Hid (hd.length = 7 + 3 * tabs.length) := by show _ = _; rw [hhd, List.length_append, hlen.out]; simp; omega
      clear hhd
      replace hm5 : Mine w5 B 5 .u8 v' (hd ++ codeTo code 0) := by simpa [codeTo] using hm5
      clear hz hd2 hlen hsz hsb hq1 hq2 hm hbr hbw
      obtain ⟨wo, hwo⟩ : ∃ wo, wo = w5 := ⟨_, rfl⟩
      rw [← hwo] at hm5 B5 hp5 ⊢
      clear hwo
      go_loopw [3, 5, 6] (fun v i _ wr => ∃ k : Nat, k ≤ code.length ∧ i = .int .i64 k ∧ Mine wr B 5 .u8 v (hd ++ codeTo code k) ∧ Below B w1 wr) (fun _ i _ _ => code.length - (intOf i).toNat)
      case atStart => exact ⟨0, Nat.zero_le _, rfl, hm5, B5⟩
      case round =>
        clear hm5 B5 hp5
        obtain ⟨k, hk, rfl, hm, hbr⟩ := hrel
        have hBz : B ≤ wr.heap.size := Nat.le_trans hB1 hbr.size
        have hbw : Below w.heap.size w wr := HB.out.1.trans (hbr.mono hwB)
        have hpb : Blk wr w.heap.size 63 #[.int .i64 slots, .slice to_ tabs.length tc, .slice co code.length cc] := HB.out.2.below hbr (by have := HBB.out; omega)
        have hz := hpb.lt
        have hd2 := hpb.cell 2
        simp at hd2
        by_cases hlt : k < code.length
        · obtain ⟨b, off, rfl, _, hb, hwf, hc0, hc1, hc2, hc3, hc4, hc5⟩ := (hc.below hbw).ins_at hlt
          have hsm := V.ins k hlt
          simp only at hsm
          obtain ⟨⟨o1, o2⟩, ⟨r1, r2⟩, ⟨s1, s2⟩, ⟨k1, k2⟩, ⟨e1, e2⟩⟩ := hsm
          have hnn := hwf.2.2.2.2.2.u64
          have hm2 : Mine (wr.alloc (.cells (nth code k).cells.toArray 56)) B 5 .u8 u3 (hd ++ codeTo code k) := hm.below (al (rf wr) _)
          have hlen : Hid ((hd ++ codeTo code k).length = 7 + 3 * tabs.length + 14 * k) := by show _ = _; rw [List.length_append, hdl.out, codeTo_length]
          have hsz : Hid (((hd ++ codeTo code k).length + 6) * 1 ≤ 140737488355328) := by show _ ≤ _; rw [hlen.out]; omega
          have hsb : Hid (AllFit .u8 [(nth code k).op, (nth code k).r, (nth code k).s, (nth code k).k, (nth code k).to / 256, (nth code k).to % 256]) := AllFit.u8s fun x hx => by simp at hx; omega
          have hq1 : IntKind.u8.wrap ((nth code k).to / 256) = (nth code k).to / 256 := by go_arith
          have hq2 : IntKind.u8.wrap ((nth code k).to % 256) = (nth code k).to % 256 := by go_arith
          clear hwf hm hb
          go_wp2_with (at_builtin; refine wpList_append_lit rfl _ _ 77 rfl sty_bytes B rfl hm2 (m := 6) (ys := [(nth code k).op, (nth code k).r, (nth code k).s, (nth code k).k, (nth code k).to / 256, (nth code k).to % 256]) rfl ?c1 rfl hsb.out _ rfl hsz.out Nat.one_pos (by omega) ?c4 ?_; rotate_left 2; intro v6 w6 hm6 hb6 hk6; have hb6' := hk6 wr.heap.size 56 _ (Blk.new wr 56 (nth code k).cells.toArray) (by decide); have hbx5 : w6.cell? ⟨wr.heap.size, 5, none⟩ = some (.int .u64 (nth code k).n) := hb6'.cell 5)
          case c1 => simp
          case c4 => simp; omega
          have B6 : Below B w1 w6 := hbr.trans (((al (rf wr) _).mono hBz).trans hb6)
          have hbz6 := B6.size
          have hL6 : Hid ((hd ++ codeTo code k) ++ [(nth code k).op, (nth code k).r, (nth code k).s, (nth code k).k, (nth code k).to / 256, (nth code k).to % 256] ++ numBytes (nth code k).n = hd ++ codeTo code (k + 1)) := by show _ = _; simp [codeTo, insBytes]
          have hsz6 : Hid ((((hd ++ codeTo code k) ++ [(nth code k).op, (nth code k).r, (nth code k).s, (nth code k).k, (nth code k).to / 256, (nth code k).to % 256]).length + 8) * 1 ≤ 140737488355328) := by show _ ≤ _; rw [List.length_append, hlen.out]; simp; omega
          clear hb6' hk6 hb6 hc0 hc1 hc2 hc3 hc4 hc5 hd2 hz hm2 hsz hsb hlen
          refine (numBits_any (nth code k).n 64 w6 hnn.1 hnn.2 (by omega)).mono ?_
          rintro e w7 ⟨r7, rfl, hm7, hb7⟩
          obtain ⟨a7, c7, rfl, hr7, _⟩ := hm7.rd
          go_wp2_with fail
          have hnb := numBytes_bits (nth code k).n
          have h64 := numB_length (nth code k).n 64
          rw [h64] at hr7 ⊢
          have H64 := Lib.hid h64
          have HNB := Lib.hid hnb
          clear h64 hnb hm7
          refine (bytesOf_any _ _ _ _ _ hr7 (by omega) (numB_bits _ _)).mono ?_
          rintro e w8 ⟨r8, rfl, hm8, hb8⟩
          rw [show (64 + 7) / 8 = 8 from rfl, HNB.out] at hm8
          obtain ⟨a8, c8, rfl, hr8, _⟩ := hm8.rd
          have hm9 : Mine w8 B 5 .u8 v6 ((hd ++ codeTo code k) ++ [(nth code k).op, (nth code k).r, (nth code k).s, (nth code k).k, (nth code k).to / 256, (nth code k).to % 256]) := (hm6.below hb7).below hb8
          have B8 : Below B w1 w8 := (B6.trans (hb7.mono (by omega))).trans (hb8.mono (by have := hb7.size; omega))
          have hbz8 : B ≤ w8.heap.size := Nat.le_trans hB1 B8.size
          clear hm8 hr7 hb7 hb8 hm6 hbr B6 hbx5
          go_wp2_with (at_builtin; refine wpList_append_rd rfl _ _ 77 rfl sty_bytes B rfl hm9 rfl hr8 hsz6.out Nat.one_pos hbz8 ?_; intro v10 w10 hm10 hg10)
          have hm11 : Mine w10 B 5 .u8 v10 (hd ++ codeTo code (k + 1)) := by rw [← hL6.out]; exact hm10
          have B10 : Below B w1 w10 := B8.trans ((Below.refl _ _).grown hg10 hbz8 fun g hg => (hm9.1.lt g hg).1)
          go_roundw
          case rel => exact ⟨k + 1, by omega, by go_num, hm11, B10⟩
          case measure => simp [intOf]; omega
        · obtain rfl : k = code.length := by omega
          have hfin : Mine wr B 5 .u8 u3 (progBytes ⟨slots, tabs, code⟩) := by
            unfold progBytes
            rw [← HD.out]
            exact hm
          go_wp2_with fail
          go_ret
          exact ⟨_, rfl, hfin.base_le hwB, hbw⟩
end Go.Proofs.Ytfakdapglbgokaa
