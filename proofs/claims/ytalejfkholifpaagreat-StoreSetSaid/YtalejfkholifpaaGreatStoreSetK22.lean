/-
  Texts joined: XPloD. No condition.
-/
import Derived.WalkSpells
import Derived.RegionTactic
import Derived.BigRegion
import Derived.Deep.RegionLaw
import Derived.Test.YtalejfkholifpaaGreatProg
import Derived.Test.YtalejfkholifpaaGreatStoreSetK21
namespace Go.Proofs.YtalejfkholifpaaGreat
set_option linter.all false
open Go.RowKit Go.ChangeShapes Go.WideShapes
attribute [local simp] qaas qaar qaac qaag qaad qaaf qaap qaaq qaab qaa4 SOp.run SX.ev putd puts argS upds SOp.touch SSt.keep SSt.skip gets geth puth delh idOf SV.cells? setL qab7 qab8 sbin eq0 eq1 eqL qab5 qabh qabi qaa5 qaat qaae qaau qaa6 qaam qaan FrzOk qaba qaa0 qaa8 qaa9 qaav qaaz qabe qaa1 qaax qabb qaaw frzS frzH frz frz1 frz0 SlotsM ObjsM ObjM rn ren ren1 ren0 qabp qabs qabt qabo qabf qab1 qab0 CoL qabc qabw dels adds idsH qabq
attribute [local simp] qbct refc qa5b qbc2 qalh opc actc tabc qbcf qbdx nums
theorem opens_ref : Opens Tryz.prog 131 qakm := by
 have h : Opens Tryz.prog 131 (Lay.pair (Lay.int .i64) (Lay.int .i64)) :=
  Opens.struct Tryz.underlying131 (OpensF.cons opensI rfl (OpensF.one opensI rfl)) (by kernel_rfl) (by decide)
 refine h.weak rfl ?_
 rintro w ⟨a, b⟩ cs hr
 exact ⟨⟨a, b⟩, hr⟩
theorem opens_push : Opens Tryz.prog 195 qajq := by
 have h : Opens Tryz.prog 195 (Lay.pair i64L (Lay.pair qakm u64L)) :=
  Opens.struct Tryz.underlying195 (OpensF.cons opensI rfl (OpensF.cons opens_ref rfl (OpensF.one opensU rfl))) (by kernel_rfl) (by decide)
 refine h.weak rfl ?_
 rintro w ⟨a, b, c⟩ cs hr
 exact ⟨⟨a, b, c⟩, hr⟩
theorem qbca : Opens Tryz.prog 23 (Lay.slice (Lay.int .i64)) := opensI.slice Tryz.underlying23 (by kernel_rfl)
theorem qaoz : Opens Tryz.prog 132 (Lay.slice qajq) := opens_push.slice Tryz.underlying132 (by kernel_rfl)
set_option maxRecDepth 20000 in
theorem opens_op : Opens Tryz.prog 134 opLay := by
 have h : Opens Tryz.prog 134 (Lay.pair i64L (Lay.pair qakm (Lay.pair i64L (Lay.slice qajq)))) :=
  Opens.struct Tryz.underlying134 (OpensF.cons opensI rfl (OpensF.cons opens_ref rfl (OpensF.cons opensI rfl (OpensF.one qaoz rfl)))) (by kernel_rfl) (by decide)
 refine h.weak rfl ?_
 rintro w ⟨a, b, c, d⟩ cs hr
 exact ⟨⟨a, b, c, d⟩, hr⟩
set_option maxRecDepth 20000 in
theorem opens_act : Opens Tryz.prog 69 qa4m := by
 have h : Opens Tryz.prog 69 (Lay.pair (Lay.slice i64L) (Lay.slice opLay)) :=
  Opens.struct Tryz.underlying69 (OpensF.cons qbca rfl (OpensF.one (opens_op.slice Tryz.underlying67 (by kernel_rfl)) rfl)) (by kernel_rfl) (by decide)
 refine h.weak rfl ?_
 rintro w ⟨a, b⟩ cs hr
 exact ⟨⟨a, b⟩, hr⟩
set_option maxRecDepth 20000 in
theorem opens_tab : Opens Tryz.prog 26 tabLay := by
 have h : Opens Tryz.prog 26 (Lay.pair i64L (Lay.pair (Lay.slice qakm) (Lay.pair (Lay.slice i64L) (Lay.pair i64L (Lay.pair i64L (Lay.slice u64L)))))) :=
  Opens.struct Tryz.underlying26 (OpensF.cons opensI rfl (OpensF.cons (opens_ref.slice Tryz.underlying22 (by kernel_rfl)) rfl (OpensF.cons qbca rfl (OpensF.cons opensI rfl (OpensF.cons opensI rfl (OpensF.one qa5j rfl)))))) (by kernel_rfl) (by decide)
 refine h.weak rfl ?_
 rintro w ⟨a, b, c, d, e, f⟩ cs hr
 exact ⟨⟨a, b, c, d, e, f⟩, hr⟩
theorem rep_lay {α : Type} {L : Lay α} {f : α → List SV} (hp : LayP L f) {w : World} {x : α} {cs : Array Value} (h : L.rep NoA w x cs.toList) : RepV w (fun _ => False) noPl (.agg (f x)) (.agg cs) := by
 obtain ⟨h1, h2⟩ := hp NoA w x cs.toList h
 have := RepV.agg (w := w) (A := NoA) (ρ := noPl) (cs := f x) (vs := cs.toList) h2 h1.1 h1.2
 exact this
end Go.Proofs.YtalejfkholifpaaGreat
