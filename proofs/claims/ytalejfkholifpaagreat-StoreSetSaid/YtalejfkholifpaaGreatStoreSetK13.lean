/-
  Texts joined: XStoA. No condition.
-/
import Derived.WalkSpells
import Derived.RegionTactic
import Derived.BigRegion
import Derived.Deep.RegionLaw
import Derived.Test.YtalejfkholifpaaGreatProg
import Derived.Test.YtalejfkholifpaaGreatStoreSetK12
namespace Go.Proofs.YtalejfkholifpaaGreat
set_option linter.all false
open Go.RowKit
attribute [local simp] qaas qaar qaac qaag qaad qaaf qaap qaaq qaab qaa4 SOp.run SX.ev putd puts argS upds SOp.touch SSt.keep SSt.skip gets geth puth delh idOf SV.cells? setL qab7 qab8 sbin eq0 eq1 eqL qab5 qabh qabi qaa5 qaat qaae qaau qaa6 qaam qaan FrzOk qaba qaa0 qaa8 qaa9 qaav qaaz qabe qaa1 qaax qabb qaaw frzS frzH frz frz1 frz0 SlotsM ObjsM ObjM rn ren ren1 ren0 qabp qabs qabt qabo qabf qab1 qab0 CoL qabc qabw dels adds idsH qabq
attribute [local simp] qaay nums
theorem qaeo {X : Cx} {sl : Sl} {hp : Hp} {t nx : Nat} {v r : SV} {I : AbsI} (hm : X.m = 1) (hv : v = r) (hN : NoN r) (h : geth hp 0 = some (.abs I)) : QFun X [.tmp t] 1 r [(0, .abs I)] .ret ⟨(t, v) :: sl, hp, nx⟩ := by
 subst hv
 have hw : Wk X ⟨(t, v) :: sl, hp, nx⟩ ⟨[(t, v)], [(0, .abs I)], 1⟩ := by
  refine qabg [] hm ⟨?_, trivial⟩ ⟨⟨_, h, rfl⟩, trivial⟩ rfl (by simp)
  rw [hN]; simp only [gets, if_true]; exact Co.refl _
 exact ⟨_, hw, by simp [qage, resL, resV, one_, gets], ⟨rfl, trivial⟩, by simp⟩
theorem qax9 {X : Cx} {sl : Sl} {hp : Hp} {t u nx id n : Nat} {ty : TypeId} {cs ds : List SV} {v r : SV} {I : AbsI} (hm : X.m = 1) (hid : 1 ≤ id) (hne : t ≠ u) (hv : gets sl t = v) (hN : NoN v) (hu : gets sl u = .ptr id 0) (h : geth hp id = some (.cells ty cs)) (h0 : geth hp 0 = some (.abs I)) (ha : qahn X.P ty = some true) (hn : qab6 X.P ty = some n) (hl : ds.length = n) (e : CoL cs ds) (hr : r = .tup [.agg ds, v]) (hd : ∀ σ, ds.map (Go.Proofs.YtalejfkholifpaaGreat.ren σ) = ds) : QFun X [.cell u ty, .tmp t] 1 r [(0, .abs I)] .ret ⟨sl, hp, nx⟩ := by
 subst hr hl
 have hw : Wk X ⟨sl, hp, nx⟩ ⟨[(u, .ptr 1 0), (t, v)], [(0, .abs I), (1, .cells ty ds)], 2⟩ := by
  refine qabg [(1, id)] hm ⟨?_, ?_, trivial⟩ ⟨⟨_, h0, rfl⟩, ⟨_, h, rfl, by rw [hd]; exact e⟩, trivial⟩ ?_ (by simp)
  ·rw [hu]; exact Co.refl _
  ·rw [hv, hN]; exact Co.refl _
  ·have a1 : ¬ (0 = id) := by omega
   have a3 : ¬ (id = 0) := by omega
   simp [qabq, diag, idsH, List.range_succ, a1, a3]
 refine ⟨_, hw, ?_, ⟨rfl, trivial⟩, by simp⟩
 simp [qage, resL, resV, one_, gets, ha, SOp.run, SX.ev, geth, hne, hne.symm, hn]
theorem qab2 {P : Program} {f : FuncId} {args : List SV} {I J : AbsI} {r : SV} (h : SCalls P f (.agg [.ptr 0 0] :: args) [(0, .abs I)] 1 r [(0, .abs J)]) (ha : ∀ σ, args.map (Go.Proofs.YtalejfkholifpaaGreat.ren σ) = args) (hr : ∀ σ, Go.Proofs.YtalejfkholifpaaGreat.ren σ r = r) (hk2 : ok2 r = true) (id q : Nat) (hq : id < q) : SCalls P f (.agg [.ptr id 0] :: args) [(id, .abs I)] q r [(id, .abs J)] := by
 have e0 : sg [id] q 0 = id := rfl
 refine qadd [id] h rfl (by simp) (by simp; omega) ?_ ?_ (by simp [idsH]) (hr _).symm hk2 ?_ (by simp [idsH]) (by simp [idsH, e0])
 ·rw [List.map_cons, ha]; simp [Go.Proofs.YtalejfkholifpaaGreat.ren, ren1, ren0, e0]
 ·exact ⟨⟨.abs I, by rw [e0]; simp [geth], rfl⟩, trivial⟩
 ·exact ⟨⟨.abs J, by rw [e0]; simp [geth], rfl⟩, trivial⟩
theorem qa42 (e : Entry) (q : Nat) : SCalls Tryz.prog 83 [.agg (qaay e)] [] q (.agg (hitc e.act e.args)) [] := by
 refine qabm ?_ (fun _ => rfl) (fun _ => rfl) rfl q
 refine qaai (N := 8) Tryz.func83 rfl rfl (by kernel_rfl) qapw (by simp) (by repeat' (first | exact trivial | refine And.intro ?_ ?_ | rfl | decide | exact PureR.ren _)) (by repeat' (first | exact trivial | refine And.intro ?_ ?_ | rfl | decide | exact PureR.ren _)) ?_
 rintro X hP hN hm
 unfold c_sthit hitc
 repeat' (first | refine yA ?_ | with_reducible refine yB ?_ ?_ | ((with_reducible refine yC fun h => ?_); have h' := h; (try simp at h'); (try subst h')) | ((refine qapj hm rfl ?_ ?_ rfl (CoL.refl _) rfl ?_)) | exact trivial)
 all_goals first | (rw [hP]; with_reducible exact qae7) | (rw [hP]; exact qaef) | (intro σ; rfl) | trace_state
structure EOk (e : Entry) : Prop where
 small : qadk e
 fit : FitE e
 few : e.args.length ≤ 1000
inductive Fin_ where
 | ex (k m : Int) (S : XTab)
 | px (w m n : Int) (E : PE)
 | te (k m : Int) (l : List Entry)
def Fin_.I : Fin_ → AbsI
 | .ex k m S => xA k m S
 | .px w m n E => pT w m n E
 | .te k m l => qady (some (k, m)) l
def Fin_.k : Fin_ → Int
 | .ex k _ _ => k
 | .px _ _ _ _ => 1
 | .te k _ _ => k
def Fin_.m : Fin_ → Int
 | .ex _ m _ => m
 | .px _ m _ _ => m
 | .te _ m _ => m
def Fin_.kind : Fin_ → Int
 | .ex _ _ _ => 1
 | .px _ _ _ _ => 2
 | .te _ _ _ => 3
def Fin_.cnt : Fin_ → Int
 | .ex _ _ S => Go.Proofs.YtalejfkholifpaaGreat.cnt S
 | .px _ _ n _ => n
 | .te _ _ l => l.length
def Fin_.Inv : Fin_ → Prop
 | .ex k m S => XInv k m S ∧ 0 ≤ m ∧ m ≤ 16 ∧ (Go.Proofs.YtalejfkholifpaaGreat.cnt S : Int) ≤ m
 | .px w m n E => okWd w ∧ PInv w.toNat n E ∧ 0 ≤ m ∧ m ≤ 16 ∧ n ≤ m
 | .te k m l => TInv k l ∧ 0 ≤ m ∧ m ≤ 16 ∧ (l.length : Int) ≤ m
def Fin_.addV : Fin_ → Entry → Int
 | .ex k m S, e => qaoa k m S e.keys
 | .px w m n E, e => qacg w m n E (kof e) e.len
 | .te k m l, e => Go.Proofs.YtalejfkholifpaaGreat.addV k m l e
def Fin_.add : Fin_ → Entry → Fin_
 | .ex k m S, e => .ex k m (addX k m S ⟨e.keys, e.act, e.args⟩)
 | .px w m n E, e => .px w m (qae1 w m n E (kof e) e.len) (qaff w m n E (kof e) e.len e.act e.args)
 | .te k m l, e => .te k m (addR k m l e)
def Fin_.chgV : Fin_ → Entry → Int
 | .ex k _ S, e => qajb k S e.keys
 | .px w _ _ E, e => qac5 w E (kof e) e.len
 | .te k _ l, e => dropV k l e
def Fin_.chg : Fin_ → Entry → Fin_
 | .ex k m S, e => .ex k m (chgX k S ⟨e.keys, e.act, e.args⟩)
 | .px w m n E, e => .px w m n (qahp w E (kof e) e.len e.act e.args)
 | .te k m l, e => .te k m (chgR k l e)
def Fin_.dropV : Fin_ → Entry → Int
 | .ex k _ S, e => qajb k S e.keys
 | .px w _ _ E, e => qacb w E (kof e) e.len
 | .te k _ l, e => Go.Proofs.YtalejfkholifpaaGreat.dropV k l e
def Fin_.drop : Fin_ → Entry → Fin_
 | .ex k m S, e => .ex k m (drpX k S e.keys)
 | .px w m n E, e => .px w m (qadq w n E (kof e) e.len) (qaec w E (kof e) e.len)
 | .te k m l, e => .te k m (qan9 k l e)
def Fin_.find : Fin_ → List Int → Option (Int × List Int)
 | .ex k _ S, xs => (qafp k S xs).map fun s => (s.act, s.args)
 | .px w _ _ E, xs => (qadp w E (el xs 0)).map fun x => (x.2.1, x.2.2)
 | .te k _ l, xs => (qag5 k l xs).map fun e => (e.act, e.args)
def Fin_.all : Fin_ → List Entry
 | .ex _ _ S => (qajk S).map entE
 | .px w _ _ E => allT w E
 | .te _ _ l => qai9 l
def qaje (o : Option (Int × List Int)) : SV := .tup [.agg (hitc (o.map (·.1) |>.getD 0) (o.map (·.2) |>.getD [])), .bool o.isSome]
theorem qaiv (o : Option (Int × List Int)) (σ : Nat → Nat) : Go.Proofs.YtalejfkholifpaaGreat.ren σ (qaje o) = qaje o := rfl
theorem sxa_s (k m : Int) (S : XTab) (h : XInv k m S) (e : Entry) (he : qadk e) : SCalls Tryz.prog 76 [.agg [.ptr 0 0], .agg (qaay e)] [(0, .abs (xA k m S))] 1 (.int .i64 (qaoa k m S e.keys)) [(0, .abs (xA k m (addX k m S ⟨e.keys, e.act, e.args⟩)))] := by
 have k1 := fun q => qa42 e q
 have k2 := fun q => xadd_a k m S h e.act e.keys e.args he.1 he.2.2 0 q
 refine qaai (N := 12) Tryz.func76 rfl rfl (by kernel_rfl) qayv (by simp) (by repeat' (first | exact trivial | refine And.intro ?_ ?_ | rfl | decide | exact PureR.ren _)) (by repeat' (first | exact trivial | refine And.intro ?_ ?_ | rfl | decide | exact PureR.ren _)) ?_
 rintro X hP hN hm
 unfold c_sxa
 repeat' (first | refine yA ?_ | with_reducible refine yB ?_ ?_ | ((with_reducible refine yC fun h => ?_); have h' := h; (try simp at h'); (try subst h')) | refine qabr (k1 _) ?_ | refine qad9 (k2 _) ⟨rfl, trivial⟩ ⟨rfl, trivial⟩ ?_ | ((refine qaeo hm rfl (fun _ => rfl) rfl)) | exact trivial)
theorem sxc_s (k m : Int) (S : XTab) (h : XInv k m S) (e : Entry) (he : qadk e) : SCalls Tryz.prog 78 [.agg [.ptr 0 0], .agg (qaay e)] [(0, .abs (xA k m S))] 1 (.int .i64 (qajb k S e.keys)) [(0, .abs (xA k m (chgX k S ⟨e.keys, e.act, e.args⟩)))] := by
 have k1 := fun q => qa42 e q
 have k2 := fun q => xchg_a k m S h e.act e.keys e.args he.1 he.2.2 0 q
 refine qaai (N := 12) Tryz.func78 rfl rfl (by kernel_rfl) qayu (by simp) (by repeat' (first | exact trivial | refine And.intro ?_ ?_ | rfl | decide | exact PureR.ren _)) (by repeat' (first | exact trivial | refine And.intro ?_ ?_ | rfl | decide | exact PureR.ren _)) ?_
 rintro X hP hN hm
 unfold c_sxc
 repeat' (first | refine yA ?_ | with_reducible refine yB ?_ ?_ | ((with_reducible refine yC fun h => ?_); have h' := h; (try simp at h'); (try subst h')) | refine qabr (k1 _) ?_ | refine qad9 (k2 _) ⟨rfl, trivial⟩ ⟨rfl, trivial⟩ ?_ | ((refine qaeo hm rfl (fun _ => rfl) rfl)) | exact trivial)
theorem sxd_s (k m : Int) (S : XTab) (h : XInv k m S) (e : Entry) (he : qadk e) : SCalls Tryz.prog 80 [.agg [.ptr 0 0], .agg (qaay e)] [(0, .abs (xA k m S))] 1 (.int .i64 (qajb k S e.keys)) [(0, .abs (xA k m (drpX k S e.keys)))] := by
 have k2 := fun q => xdrop_a k m S h e.keys he.1 0 q
 refine qaai (N := 10) Tryz.func80 rfl rfl (by kernel_rfl) qayt (by simp) (by repeat' (first | exact trivial | refine And.intro ?_ ?_ | rfl | decide | exact PureR.ren _)) (by repeat' (first | exact trivial | refine And.intro ?_ ?_ | rfl | decide | exact PureR.ren _)) ?_
 rintro X hP hN hm
 unfold c_sxd
 repeat' (first | refine yA ?_ | with_reducible refine yB ?_ ?_ | ((with_reducible refine yC fun h => ?_); have h' := h; (try simp at h'); (try subst h')) | refine qad9 (k2 _) ⟨rfl, trivial⟩ ⟨rfl, trivial⟩ ?_ | ((refine qaeo hm rfl (fun _ => rfl) rfl)) | exact trivial)
theorem sxl_s (k m : Int) (S : XTab) (h : XInv k m S) (hmm : m ≤ 1000) : SCalls Tryz.prog 77 [.agg [.ptr 0 0]] [(0, .abs (xA k m S))] 1 (ents ((qajk S).map entE)) [(0, .abs (xA k m S))] := by
 have k2 := fun q => xall_c k m hmm S h 0 q
 unfold ents at k2 ⊢
 refine qaai (N := 6) Tryz.func77 rfl rfl (by kernel_rfl) qayr (by simp) (by repeat' (first | exact trivial | refine And.intro ?_ ?_ | rfl | decide | exact PureR.ren _)) (by repeat' (first | exact trivial | refine And.intro ?_ ?_ | rfl | decide | exact PureR.ren _)) ?_
 rintro X hP hN hm
 unfold c_sxl
 repeat' (first | refine yA ?_ | with_reducible refine yB ?_ ?_ | ((with_reducible refine yC fun h => ?_); have h' := h; (try simp at h'); (try subst h')) | refine qad9 (k2 _) ⟨rfl, trivial⟩ ⟨rfl, trivial⟩ ?_ | ((refine qaeo hm rfl (fun _ => rfl) rfl)) | exact trivial)
theorem sxn_s (k m : Int) (S : XTab) : SCalls Tryz.prog 79 [.agg [.ptr 0 0]] [(0, .abs (xA k m S))] 1 (.int .i64 (cnt S)) [(0, .abs (xA k m S))] := by
 have k2 := fun q => xlen_a k m S 0 q
 refine qaai (N := 6) Tryz.func79 rfl rfl (by kernel_rfl) qayq (by simp) (by repeat' (first | exact trivial | refine And.intro ?_ ?_ | rfl | decide | exact PureR.ren _)) (by repeat' (first | exact trivial | refine And.intro ?_ ?_ | rfl | decide | exact PureR.ren _)) ?_
 rintro X hP hN hm
 unfold c_sxn
 repeat' (first | refine yA ?_ | with_reducible refine yB ?_ ?_ | ((with_reducible refine yC fun h => ?_); have h' := h; (try simp at h'); (try subst h')) | refine qad9 (k2 _) ⟨rfl, trivial⟩ ⟨rfl, trivial⟩ ?_ | ((refine qaeo hm rfl (fun _ => rfl) rfl)) | exact trivial)
theorem spa_s (w m n : Int) (E : PE) (hw : okWd w) (hn : 0 ≤ n ∧ n ≤ 1000000) (e : Entry) (he : EOk e) (hk : e.keys ≠ []) : SCalls Tryz.prog 116 [.agg [.ptr 0 0], .agg (qaay e)] [(0, .abs (pT w m n E))] 1 (.int .i64 (qacg w m n E (kof e) e.len)) [(0, .abs (pT w m (qae1 w m n E (kof e) e.len) (qaff w m n E (kof e) e.len e.act e.args)))] := by
 have hw1 := hw.1
 have hw2 := hw.2
 have hkk := he.fit.kof
 have hk0 : e.keys[0]? = some (kof e) := by unfold kof el; rw [if_neg hk]; cases h : e.keys with | nil => exact absurd h hk | cons x l => rfl
 have hlk : 0 < e.keys.length := List.length_pos_iff.2 hk
 obtain ⟨hk2, hk1⟩ := List.getElem?_eq_some_iff.1 hk0
 clear hk0
 have k1 := fun q => qa42 e q
 have k2 := fun q => addT_s w m n E (kof e) e.len e.act e.args (Fits.of_i64 (by omega) (by omega)) hkk he.fit.len he.fit.act he.fit.args he.small.2.2 hn 0 q
 refine qaai (N := 16) Tryz.func116 rfl rfl (by kernel_rfl) qay7 (by simp) (by repeat' (first | exact trivial | refine And.intro ?_ ?_ | rfl | decide | exact PureR.ren _)) (by repeat' (first | exact trivial | refine And.intro ?_ ?_ | rfl | decide | exact PureR.ren _)) ?_
 rintro X hP hN hm
 unfold c_spa
 repeat' (first | refine yA ?_ | with_reducible refine yB ?_ ?_ | ((with_reducible refine yC fun h => ?_); have h' := h; (try simp at h'); (try subst h')) | refine qabr (k1 _) ?_ | refine qad9 (k2 _) ⟨rfl, trivial⟩ ⟨rfl, trivial⟩ ?_ | ((refine qaeo hm rfl (fun _ => rfl) rfl)) | exact trivial)
theorem spc_s (w m n : Int) (E : PE) (hw : okWd w) (e : Entry) (he : EOk e) (hk : e.keys ≠ []) : SCalls Tryz.prog 118 [.agg [.ptr 0 0], .agg (qaay e)] [(0, .abs (pT w m n E))] 1 (.int .i64 (qac5 w E (kof e) e.len)) [(0, .abs (pT w m n (qahp w E (kof e) e.len e.act e.args)))] := by
 have hw1 := hw.1
 have hw2 := hw.2
 have hkk := he.fit.kof
 have hk0 : e.keys[0]? = some (kof e) := by unfold kof el; rw [if_neg hk]; cases h : e.keys with | nil => exact absurd h hk | cons x l => rfl
 have hlk : 0 < e.keys.length := List.length_pos_iff.2 hk
 obtain ⟨hk2, hk1⟩ := List.getElem?_eq_some_iff.1 hk0
 clear hk0
 have k1 := fun q => qa42 e q
 have k2 := fun q => chgT_s w m n E (kof e) e.len e.act e.args (Fits.of_i64 (by omega) (by omega)) hkk he.fit.len he.fit.act he.fit.args he.small.2.2 0 q
 refine qaai (N := 16) Tryz.func118 rfl rfl (by kernel_rfl) qay6 (by simp) (by repeat' (first | exact trivial | refine And.intro ?_ ?_ | rfl | decide | exact PureR.ren _)) (by repeat' (first | exact trivial | refine And.intro ?_ ?_ | rfl | decide | exact PureR.ren _)) ?_
 rintro X hP hN hm
 unfold c_spc
 repeat' (first | refine yA ?_ | with_reducible refine yB ?_ ?_ | ((with_reducible refine yC fun h => ?_); have h' := h; (try simp at h'); (try subst h')) | refine qabr (k1 _) ?_ | refine qad9 (k2 _) ⟨rfl, trivial⟩ ⟨rfl, trivial⟩ ?_ | ((refine qaeo hm rfl (fun _ => rfl) rfl)) | exact trivial)
theorem spd_s (w m n : Int) (E : PE) (hw : okWd w) (hn : 0 ≤ n ∧ n ≤ 1000000) (e : Entry) (he : EOk e) (hk : e.keys ≠ []) : SCalls Tryz.prog 120 [.agg [.ptr 0 0], .agg (qaay e)] [(0, .abs (pT w m n E))] 1 (.int .i64 (qacb w E (kof e) e.len)) [(0, .abs (pT w m (qadq w n E (kof e) e.len) (qaec w E (kof e) e.len)))] := by
 have hw1 := hw.1
 have hw2 := hw.2
 have hkk := he.fit.kof
 have hk0 : e.keys[0]? = some (kof e) := by unfold kof el; rw [if_neg hk]; cases h : e.keys with | nil => exact absurd h hk | cons x l => rfl
 have hlk : 0 < e.keys.length := List.length_pos_iff.2 hk
 obtain ⟨hk2, hk1⟩ := List.getElem?_eq_some_iff.1 hk0
 clear hk0
 have k2 := fun q => dropT_s w m n E (kof e) e.len (Fits.of_i64 (by omega) (by omega)) hkk he.fit.len ⟨by omega, by omega⟩ 0 q
 refine qaai (N := 14) Tryz.func120 rfl rfl (by kernel_rfl) qay5 (by simp) (by repeat' (first | exact trivial | refine And.intro ?_ ?_ | rfl | decide | exact PureR.ren _)) (by repeat' (first | exact trivial | refine And.intro ?_ ?_ | rfl | decide | exact PureR.ren _)) ?_
 rintro X hP hN hm
 unfold c_spd
 repeat' (first | refine yA ?_ | with_reducible refine yB ?_ ?_ | ((with_reducible refine yC fun h => ?_); have h' := h; (try simp at h'); (try subst h')) | refine qad9 (k2 _) ⟨rfl, trivial⟩ ⟨rfl, trivial⟩ ?_ | ((refine qaeo hm rfl (fun _ => rfl) rfl)) | exact trivial)
theorem spl_s (w m n : Int) (E : PE) (hw : okWd w) (hargs : ∀ i v x, E i v = some x → x.2.length ≤ 1000000) (hlen : (allT w E).length ≤ 1000000) : SCalls Tryz.prog 117 [.agg [.ptr 0 0]] [(0, .abs (pT w m n E))] 1 (ents (allT w E)) [(0, .abs (pT w m n E))] := by
 have hw1 := hw.1
 have hw2 := hw.2
 have k2 := fun q => allT_s w m n E (Fits.of_i64 (by omega) (by omega)) hargs hlen 0 q
 unfold ents at k2 ⊢
 refine qaai (N := 6) Tryz.func117 rfl rfl (by kernel_rfl) qay3 (by simp) (by repeat' (first | exact trivial | refine And.intro ?_ ?_ | rfl | decide | exact PureR.ren _)) (by repeat' (first | exact trivial | refine And.intro ?_ ?_ | rfl | decide | exact PureR.ren _)) ?_
 rintro X hP hN hm
 unfold c_spl
 repeat' (first | refine yA ?_ | with_reducible refine yB ?_ ?_ | ((with_reducible refine yC fun h => ?_); have h' := h; (try simp at h'); (try subst h')) | refine qad9 (k2 _) ⟨rfl, trivial⟩ ⟨rfl, trivial⟩ ?_ | ((refine qaeo hm rfl (fun _ => rfl) rfl)) | exact trivial)
theorem spn_s (w m n : Int) (E : PE) (hw : okWd w) : SCalls Tryz.prog 119 [.agg [.ptr 0 0]] [(0, .abs (pT w m n E))] 1 (.int .i64 n) [(0, .abs (pT w m n E))] := by
 have k2 := fun q => lenT_s w m n E (fun h => absurd hw h) 0 q
 refine qaai (N := 6) Tryz.func119 rfl rfl (by kernel_rfl) qay2 (by simp) (by repeat' (first | exact trivial | refine And.intro ?_ ?_ | rfl | decide | exact PureR.ren _)) (by repeat' (first | exact trivial | refine And.intro ?_ ?_ | rfl | decide | exact PureR.ren _)) ?_
 rintro X hP hN hm
 unfold c_spn
 repeat' (first | refine yA ?_ | with_reducible refine yB ?_ ?_ | ((with_reducible refine yC fun h => ?_); have h' := h; (try simp at h'); (try subst h')) | refine qad9 (k2 _) ⟨rfl, trivial⟩ ⟨rfl, trivial⟩ ?_ | ((refine qaeo hm rfl (fun _ => rfl) rfl)) | exact trivial)
theorem sta_s (k m : Int) (l : List Entry) (h : TInv k l) (hl : l.length < 1000000) (e : Entry) (he : qadk e) : SCalls Tryz.prog 133 [.agg [.ptr 0 0], .agg (qaay e)] [(0, .abs (qady (some (k, m)) l))] 1 (.int .i64 (addV k m l e)) [(0, .abs (qady (some (k, m)) (addR k m l e)))] := by
 have k2 := fun q hq => tadd_a k m l e h hl he 0 q hq
 refine qaai (N := 9) Tryz.func133 rfl rfl (by kernel_rfl) qay1 (by simp) (by repeat' (first | exact trivial | refine And.intro ?_ ?_ | rfl | decide | exact PureR.ren _)) (by repeat' (first | exact trivial | refine And.intro ?_ ?_ | rfl | decide | exact PureR.ren _)) ?_
 rintro X hP hN hm
 unfold c_sta
 repeat' (first | refine yA ?_ | with_reducible refine yB ?_ ?_ | ((with_reducible refine yC fun h => ?_); have h' := h; (try simp at h'); (try subst h')) | refine qad9 (k2 _ (by simp)) ⟨rfl, trivial⟩ ⟨rfl, trivial⟩ ?_ | ((refine qaeo hm rfl (fun _ => rfl) rfl)) | exact trivial)
theorem stc_s (k m : Int) (l : List Entry) (h : TInv k l) (hl : l.length < 1000000) (e : Entry) (he : qadk e) : SCalls Tryz.prog 135 [.agg [.ptr 0 0], .agg (qaay e)] [(0, .abs (qady (some (k, m)) l))] 1 (.int .i64 (dropV k l e)) [(0, .abs (qady (some (k, m)) (chgR k l e)))] := by
 have k2 := fun q hq => tchg_a k m l e h (Nat.le_of_lt hl) he 0 q hq
 refine qaai (N := 9) Tryz.func135 rfl rfl (by kernel_rfl) qay0 (by simp) (by repeat' (first | exact trivial | refine And.intro ?_ ?_ | rfl | decide | exact PureR.ren _)) (by repeat' (first | exact trivial | refine And.intro ?_ ?_ | rfl | decide | exact PureR.ren _)) ?_
 rintro X hP hN hm
 unfold c_stc
 repeat' (first | refine yA ?_ | with_reducible refine yB ?_ ?_ | ((with_reducible refine yC fun h => ?_); have h' := h; (try simp at h'); (try subst h')) | refine qad9 (k2 _ (by simp)) ⟨rfl, trivial⟩ ⟨rfl, trivial⟩ ?_ | ((refine qaeo hm rfl (fun _ => rfl) rfl)) | exact trivial)
theorem std_s (k m : Int) (l : List Entry) (h : TInv k l) (hl : l.length < 1000000) (e : Entry) (he : qadk e) : SCalls Tryz.prog 137 [.agg [.ptr 0 0], .agg (qaay e)] [(0, .abs (qady (some (k, m)) l))] 1 (.int .i64 (dropV k l e)) [(0, .abs (qady (some (k, m)) (qan9 k l e)))] := by
 have k2 := fun q hq => tdrop_a k m l e h (Nat.le_of_lt hl) he 0 q hq
 refine qaai (N := 9) Tryz.func137 rfl rfl (by kernel_rfl) qayz (by simp) (by repeat' (first | exact trivial | refine And.intro ?_ ?_ | rfl | decide | exact PureR.ren _)) (by repeat' (first | exact trivial | refine And.intro ?_ ?_ | rfl | decide | exact PureR.ren _)) ?_
 rintro X hP hN hm
 unfold c_std
 repeat' (first | refine yA ?_ | with_reducible refine yB ?_ ?_ | ((with_reducible refine yC fun h => ?_); have h' := h; (try simp at h'); (try subst h')) | refine qad9 (k2 _ (by simp)) ⟨rfl, trivial⟩ ⟨rfl, trivial⟩ ?_ | ((refine qaeo hm rfl (fun _ => rfl) rfl)) | exact trivial)
theorem stl_s (k m : Int) (l : List Entry) (h : TInv k l) (hl : l.length < 1000000) : SCalls Tryz.prog 134 [.agg [.ptr 0 0]] [(0, .abs (qady (some (k, m)) l))] 1 (ents (qai9 l)) [(0, .abs (qady (some (k, m)) l))] := by
 have k2 := fun q => tall_a k m l h (Nat.le_of_lt hl) 0 q
 unfold ents at k2 ⊢
 refine qaai (N := 6) Tryz.func134 rfl rfl (by kernel_rfl) qayx (by simp) (by repeat' (first | exact trivial | refine And.intro ?_ ?_ | rfl | decide | exact PureR.ren _)) (by repeat' (first | exact trivial | refine And.intro ?_ ?_ | rfl | decide | exact PureR.ren _)) ?_
 rintro X hP hN hm
 unfold c_stl
 repeat' (first | refine yA ?_ | with_reducible refine yB ?_ ?_ | ((with_reducible refine yC fun h => ?_); have h' := h; (try simp at h'); (try subst h')) | refine qad9 (k2 _) ⟨rfl, trivial⟩ ⟨rfl, trivial⟩ ?_ | ((refine qaeo hm rfl (fun _ => rfl) rfl)) | exact trivial)
theorem stn_s (k m : Int) (l : List Entry) : SCalls Tryz.prog 136 [.agg [.ptr 0 0]] [(0, .abs (qady (some (k, m)) l))] 1 (.int .i64 l.length) [(0, .abs (qady (some (k, m)) l))] := by
 have k2 := fun q => tlen_a k m l 0 q
 refine qaai (N := 6) Tryz.func136 rfl rfl (by kernel_rfl) qayw (by simp) (by repeat' (first | exact trivial | refine And.intro ?_ ?_ | rfl | decide | exact PureR.ren _)) (by repeat' (first | exact trivial | refine And.intro ?_ ?_ | rfl | decide | exact PureR.ren _)) ?_
 rintro X hP hN hm
 unfold c_stn
 repeat' (first | refine yA ?_ | with_reducible refine yB ?_ ?_ | ((with_reducible refine yC fun h => ?_); have h' := h; (try simp at h'); (try subst h')) | refine qad9 (k2 _) ⟨rfl, trivial⟩ ⟨rfl, trivial⟩ ?_ | ((refine qaeo hm rfl (fun _ => rfl) rfl)) | exact trivial)
theorem sxf_s (k m : Int) (S : XTab) (h : XInv k m S) (xs : List Int) (hx : xs.length ≤ 1000000) : SCalls Tryz.prog 81 [.agg [.ptr 0 0], nums .u64 xs] [(0, .abs (xA k m S))] 1 (qaje ((qafp k S xs).map fun s => (s.act, s.args))) [(0, .abs (xA k m S))] := by
 have k2 := fun q => xfind_a k m S h xs hx 0 q
 cases hf : qafp k S xs <;> rw [hf] at k2
 all_goals
  unfold qas4 at k2
  unfold qaje hitc
  (try unfold hitc at k2); (try unfold qaem at k2); dsimp only at k2
  refine qaai (N := 12) Tryz.func81 rfl rfl (by kernel_rfl) qays (by simp) (by repeat' (first | exact trivial | refine And.intro ?_ ?_ | rfl | decide | exact PureR.ren _)) (by repeat' (first | exact trivial | refine And.intro ?_ ?_ | rfl | decide | exact PureR.ren _)) ?_
  rintro X hP hN hm
  unfold c_sxf
  repeat' (first | refine yA ?_ | with_reducible refine yB ?_ ?_ | ((with_reducible refine yC fun h => ?_); have h' := h; (try simp at h'); (try subst h')) | refine qad9 (k2 _) ⟨rfl, trivial⟩ ⟨rfl, trivial⟩ ?_ | ((refine qax9 hm (by decide) (by decide) rfl (fun _ => rfl) rfl rfl rfl (by rw [hP]; exact qae7) (by rw [hP]; exact qaef) rfl (CoL.refl _) rfl (fun _ => rfl))) | exact trivial)
theorem stf_s (k m : Int) (l : List Entry) (h : TInv k l) (hl : l.length < 1000000) (xs : List Int) (hx : xs.length ≤ 1000000) : SCalls Tryz.prog 138 [.agg [.ptr 0 0], nums .u64 xs] [(0, .abs (qady (some (k, m)) l))] 1 (qaje ((qag5 k l xs).map fun e => (e.act, e.args))) [(0, .abs (qady (some (k, m)) l))] := by
 have k2 := fun q => tfind_a k m l xs h (Nat.le_of_lt hl) hx 0 q
 cases hf : qag5 k l xs <;> rw [hf] at k2
 all_goals
  unfold qawa at k2
  unfold qaje hitc
  (try unfold hitc at k2); (try unfold qaem at k2); dsimp only at k2
  refine qaai (N := 12) Tryz.func138 rfl rfl (by kernel_rfl) qayy (by simp) (by repeat' (first | exact trivial | refine And.intro ?_ ?_ | rfl | decide | exact PureR.ren _)) (by repeat' (first | exact trivial | refine And.intro ?_ ?_ | rfl | decide | exact PureR.ren _)) ?_
  rintro X hP hN hm
  unfold c_stf
  repeat' (first | refine yA ?_ | with_reducible refine yB ?_ ?_ | ((with_reducible refine yC fun h => ?_); have h' := h; (try simp at h'); (try subst h')) | refine qad9 (k2 _) ⟨rfl, trivial⟩ ⟨rfl, trivial⟩ ?_ | ((refine qax9 hm (by decide) (by decide) rfl (fun _ => rfl) rfl rfl rfl (by rw [hP]; exact qae7) (by rw [hP]; exact qaef) rfl (CoL.refl _) rfl (fun _ => rfl))) | exact trivial)
theorem spf_s (w m n : Int) (E : PE) (hw : okWd w) (hargs : ∀ i v x, E i v = some x → x.2.length ≤ 1000000) (xs : List Int) (hx : xs ≠ []) (hf0 : Fits .u64 (el xs 0)) : SCalls Tryz.prog 121 [.agg [.ptr 0 0], nums .u64 xs] [(0, .abs (pT w m n E))] 1 (qaje ((qadp w E (el xs 0)).map fun x => (x.2.1, x.2.2))) [(0, .abs (pT w m n E))] := by
 have hw1 := hw.1
 have hw2 := hw.2
 have hx0 : xs[0]? = some (el xs 0) := by cases xs with | nil => exact absurd rfl hx | cons x l => rfl
 have hlk : 0 < xs.length := List.length_pos_iff.2 hx
 have k2 := fun q => findT_s w m n E (el xs 0) (Fits.of_i64 (by omega) (by omega)) hf0 hargs 0 q
 generalize qadp w E (el xs 0) = F at k2 ⊢
 generalize el xs 0 = x0 at *
 obtain ⟨hx2, hx1⟩ := List.getElem?_eq_some_iff.1 hx0
 clear hx0
 unfold findV qaem at k2
 cases F
 all_goals
  unfold qaje hitc
  simp only [fAct, qbcy, fLen] at k2
  refine qaai (N := 21) Tryz.func121 rfl rfl (by kernel_rfl) qay4 (by simp) (by repeat' (first | exact trivial | refine And.intro ?_ ?_ | rfl | decide | exact PureR.ren _)) (by repeat' (first | exact trivial | refine And.intro ?_ ?_ | rfl | decide | exact PureR.ren _)) ?_
  rintro X hP hN hm
  unfold c_spf
  repeat' (first | refine yA ?_ | with_reducible refine yB ?_ ?_ | ((with_reducible refine yC fun h => ?_); have h' := h; (try simp at h'); (try subst h')) | refine qad9 (k2 _) ⟨rfl, trivial⟩ ⟨rfl, trivial⟩ ?_ | ((refine qax9 hm (by decide) (by decide) rfl (fun _ => rfl) rfl rfl rfl (by rw [hP]; exact qae7) (by rw [hP]; exact qaef) rfl (CoL.refl _) rfl (fun _ => rfl))) | exact trivial)
end Go.Proofs.YtalejfkholifpaaGreat
