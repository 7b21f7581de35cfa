/-
  Texts joined: XLongD XStoJ XStoN. No condition.
-/
import Derived.WalkSpells
import Derived.RegionTactic
import Derived.BigRegion
import Derived.Deep.RegionLaw
import Derived.Test.YtalejfkholifpaaGreatProg
import Derived.Test.YtalejfkholifpaaGreatStoreSetK22
namespace Go.Proofs.YtalejfkholifpaaGreat
set_option linter.all false
open Go.RowKit
theorem qaxv : LayF entryLay (fun e => (∀ x ∈ e.keys, Fits .u64 x) ∧ (∀ x ∈ e.masks, Fits .u64 x) ∧ Fits .i64 e.len ∧ Fits .i64 e.prio ∧ Fits .i64 e.act ∧ ∀ x ∈ e.args, Fits .u64 x) :=
 qahb (fun e : Entry => (e.keys, e.masks, e.len, e.prio, e.act, e.args)) (qac8 (qae3 (qadt .u64)) (qac8 (qae3 (qadt .u64)) (qac8 (qadt .i64) (qac8 (qadt .i64) (qac8 (qadt .i64) (qae3 (qadt .u64)))))))
theorem qaxt : LayF qake (fun s => FitE s.e) := fun A w x cs h => by
 have h1 := qahb (fun s : TStep => (s.d, s.e)) (qac8 (qadt .i64) qaxv) A w x cs h
 exact ⟨h1.2.1, h1.2.2.2.2.2.2, h1.2.2.2.1, h1.2.2.2.2.2.1⟩
theorem qaxs : LayP qake qalg := qagj (fun s : TStep => (s.d, s.e)) (qace (qacn .i64) qal6)
end Go.Proofs.YtalejfkholifpaaGreat
namespace Go.Proofs.YtalejfkholifpaaGreat
set_option linter.all false
open Go.RowKit
theorem aw_lay {A : Nat → Prop} {w : World} {ao : Option Addr} {n c : Nat} {acts : List ActD} (h : RdL qa4m A w ao n c acts) : AW acts := fun a ha => (qapa qben h a ha).1
end Go.Proofs.YtalejfkholifpaaGreat
namespace Go.Proofs.YtalejfkholifpaaGreat
set_option linter.all false
open Go.RowKit
theorem StoreSet_law (t : TabD) (cs : Array Value) (wo : Option Addr) (wn wc : Nat) (ws : List Int) (ao : Option Addr) (an ac : Nat) (acts : List ActD) (lo : Option Addr) (ln lc : Nat) (l : List TStep) (cut : Int) (w : World) (h : tabLay.rep NoA w t cs.toList) (hw : RdL (Lay.int .i64) NoA w wo wn wc ws) (ha : RdL qa4m NoA w ao an ac acts) (hl : RdL qake NoA w lo ln lc l) (_ : (Lit.int .i64 cut).wf = true) :
  Calls Tryz.prog 3 #[.agg cs, .slice wo wn wc, .slice ao an ac, .slice lo ln lc, .int .i64 cut] w fun e w' => e = .returned (.bool true) ∧ Below w.heap.size w w' :=
 law_of (vs := [.agg cs, .slice wo wn wc, .slice ao an ac, .slice lo ln lc, .int .i64 cut]) (sset_s t ws acts l cut (aw_lay ha) (qapa qaxt hl)) (Reps.cons (rep_lay qbel h) (Reps.cons (qaf0 (qacn .i64) hw) (Reps.cons (qaf0 qbem ha) (Reps.cons (qaf0 qaxs hl) (Reps.cons .int Reps.nil)))))
end Go.Proofs.YtalejfkholifpaaGreat
