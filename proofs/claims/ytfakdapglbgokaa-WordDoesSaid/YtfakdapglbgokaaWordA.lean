/-
  wordBegun. No condition.
-/
import Derived.Test.YtfakdapglbgokaaWordI
import Derived.Test.YtfakdapglbgokaaWordE
import Derived.Test.YtfakdapglbgokaaBitsQ
namespace Go.Proofs.Ytfakdapglbgokaa
set_option linter.all false
open Go.RowKit
attribute [local go_sem ↓] Go.wp_at_zero Go.wp_at_succ

theorem Blk.three {w : World} {g : Nat} {t : TypeId} {x y z : Value} (h : Blk w g t #[x, y, z]) : w.cell? ⟨g, 0, none⟩ = some x ∧ w.cell? ⟨g, 1, none⟩ = some y ∧ w.cell? ⟨g, 2, none⟩ = some z := ⟨by rw [h.cell]; rfl, by rw [h.cell]; rfl, by rw [h.cell]; rfl⟩
def begP : Prog := ⟨0, [], [⟨17, 0, 0, 0, 0, 0⟩]⟩
theorem begP_f : progF begP = (0, 0) := by decide +kernel
theorem begP_e : encV begP = [83, 87, 1, 0, 0, 0, 1, 17, 0, 0, 0, 0, 0, 0, 0, 0, 0, 0, 0, 0, 0] := by decide +kernel
theorem begP_wf : Ins.wf ⟨17, 0, 0, 0, 0, 0⟩ := ⟨Fits.of_i64 (by decide) (by decide), Fits.of_i64 (by decide) (by decide), Fits.of_i64 (by decide) (by decide), Fits.of_i64 (by decide) (by decide), Fits.of_i64 (by decide) (by decide), Fits.of_u64 (by decide) (by decide)⟩
set_option maxRecDepth 100000 in
theorem wordBegun_any (w : World) : Calls Try.prog 45 #[] w fun e w' => e = .returned (.bool true) ∧ Below w.heap.size w w' := by
  have hC : RdL insLay NoA (w.alloc (.cells #[.int .i64 17, .int .i64 0, .int .i64 0, .int .i64 0, .int .i64 0, .int .u64 0] 56)) (some ⟨w.heap.size, 0, none⟩) 1 1 [⟨17, 0, 0, 0, 0, 0⟩] :=
    RdL.lit1 (L := insLay) (x := ⟨17, 0, 0, 0, 0, 0⟩) (cs := [.int .i64 17, .int .i64 0, .int .i64 0, .int .i64 0, .int .i64 0, .int .u64 0]) (Blk.new w 56 #[.int .i64 17, .int .i64 0, .int .i64 0, .int .i64 0, .int .i64 0, .int .u64 0]) ⟨rfl, begP_wf⟩ (fun h => h)
  have hal := al (rf w) (.cells #[.int .i64 17, .int .i64 0, .int .i64 0, .int .i64 0, .int .i64 0, .int .u64 0] 56)
  go_enter Try.func45, Try.ntmps45
  go_wp2_with fail
  generalize w.alloc (.cells #[.int .i64 17, .int .i64 0, .int .i64 0, .int .i64 0, .int .i64 0, .int .u64 0] 56) = w1 at *
  refine (Encode_any 0 none _ 0 1 [] [⟨17, 0, 0, 0, 0, 0⟩] NoA w1 (RdL.nil_ _ _ _) hC).mono ?_
  rintro e w2 ⟨r, rfl, hm, hb⟩
  rw [show progF ⟨0, [], [⟨17, 0, 0, 0, 0, 0⟩]⟩ = (0, 0) from begP_f]
  rw [show encV ⟨0, [], [⟨17, 0, 0, 0, 0, 0⟩]⟩ = _ from begP_e] at hm
  obtain ⟨a2, c2, rfl, hr, _⟩ := hm.rd
  obtain ⟨b, off, rfl, hcs⟩ := hr.here (by simp)
  have hc7 := hcs 7 (by simp)
  have hbb : b < w2.heap.size := block_lt_of_cell hc7
  have hB := hal.trans (hb.mono hal.size)
  clear hm hcs hr hb hC hal
  simp [el] at hc7
  have q1 : isEnd 17 = true := rfl
  have q2 : isEnd 1 = false := rfl
  go_wp2_with (go_at_call 54; refine (Ends_any _ _).mono ?_; rintro e w' ⟨rfl, rfl⟩)
  go_ret
  exact ⟨by simp [q1, q2], hB.alloc hB.size _⟩

end Go.Proofs.Ytfakdapglbgokaa
