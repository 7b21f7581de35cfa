/-
  Texts joined: XLongD XStoJ. No condition.
-/
import Derived.WalkSpells
import Derived.RegionTactic
import Derived.BigRegion
import Derived.Deep.RegionLaw
import Derived.Test.YtalejfkholifpaaGreatProg
import Derived.Deep.CutRange
import Derived.Deep.CutBlock
import Derived.Test.YtalejfkholifpaaGreatStoreStillK18
namespace Go.Proofs.YtalejfkholifpaaGreat
set_option linter.all false
open Go.RowKit
theorem qawd : LayF entryLay (fun e => (∀ x ∈ e.keys, Fits .u64 x) ∧ (∀ x ∈ e.masks, Fits .u64 x) ∧ Fits .i64 e.len ∧ Fits .i64 e.prio ∧ Fits .i64 e.act ∧ ∀ x ∈ e.args, Fits .u64 x) :=
 qagq (fun e : Entry => (e.keys, e.masks, e.len, e.prio, e.act, e.args)) (qac5 (qaeo (qadj .u64)) (qac5 (qaeo (qadj .u64)) (qac5 (qadj .i64) (qac5 (qadj .i64) (qac5 (qadj .i64) (qaeo (qadj .u64)))))))
theorem qawb : LayF qaje (fun s => FitE s.e) := fun A w x cs h => by
 have h1 := qagq (fun s : TStep => (s.d, s.e)) (qac5 (qadj .i64) qawd) A w x cs h
 exact ⟨h1.2.1, h1.2.2.2.2.2.2, h1.2.2.2.1, h1.2.2.2.2.2.1⟩
theorem qawa : LayP qaje qam4 := qafv (fun s : TStep => (s.d, s.e)) (qacd (qacn .i64) qakv)
end Go.Proofs.YtalejfkholifpaaGreat
namespace Go.Proofs.YtalejfkholifpaaGreat
set_option linter.all false
open Go.RowKit
theorem aw_lay {A : Nat → Prop} {w : World} {ao : Option Addr} {n c : Nat} {acts : List ActD} (h : RdL qa1v A w ao n c acts) : AW acts := fun a ha => (qanp qbbd h a ha).1
theorem StoreStill_law (t : TabD) (cs : Array Value) (wo : Option Addr) (wn wc : Nat) (ws : List Int) (ao : Option Addr) (an ac : Nat) (acts : List ActD) (lo : Option Addr) (ln lc : Nat) (l : List TStep) (w : World) (h : tabLay.rep NoA w t cs.toList) (hw : RdL (Lay.int .i64) NoA w wo wn wc ws) (ha : RdL qa1v NoA w ao an ac acts) (hl : RdL qaje NoA w lo ln lc l) :
  Calls Tryz.prog 4 #[.agg cs, .slice wo wn wc, .slice ao an ac, .slice lo ln lc] w fun e w' => e = .returned (.bool true) ∧ Below w.heap.size w w' :=
 law_of (vs := [.agg cs, .slice wo wn wc, .slice ao an ac, .slice lo ln lc]) (still_s t ws acts l (aw_lay ha) (qanp qawb hl)) (Reps.cons (rep_lay qbbb h) (Reps.cons (qaf9 (qacn .i64) hw) (Reps.cons (qaf9 qbbc ha) (Reps.cons (qaf9 qawa hl) Reps.nil))))
end Go.Proofs.YtalejfkholifpaaGreat
