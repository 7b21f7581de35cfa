/-
  Texts joined: XStoB. No condition.
-/
import Derived.WalkSpells
import Derived.RegionTactic
import Derived.BigRegion
import Derived.Deep.RegionLaw
import Derived.Test.YtalejfkholifpaaGreatProg
import Derived.Test.YtalejfkholifpaaGreatStoreSetK14
namespace Go.Proofs.YtalejfkholifpaaGreat
set_option linter.all false
open Go.RowKit
attribute [local simp] qaas qaar qaac qaag qaad qaaf qaap qaaq qaab qaa4 SOp.run SX.ev putd puts argS upds SOp.touch SSt.keep SSt.skip gets geth puth delh idOf SV.cells? setL qab7 qab8 sbin eq0 eq1 eqL qab5 qabh qabi qaa5 qaat qaae qaau qaa6 qaam qaan FrzOk qaba qaa0 qaa8 qaa9 qaav qaaz qabe qaa1 qaax qabb qaaw frzS frzH frz frz1 frz0 SlotsM ObjsM ObjM rn ren ren1 ren0 qabp qabs qabt qabo qabf qab1 qab0 CoL qabc qabw dels adds idsH qabq
attribute [local simp] qaay nums
def Fin_.ty : Fin_ → TypeId
 | .ex _ _ _ => 80
 | .px _ _ _ _ => 84
 | .te _ _ _ => 88
def Fin_.fadd : Fin_ → FuncId
 | .ex _ _ _ => 76
 | .px _ _ _ _ => 116
 | .te _ _ _ => 133
def Fin_.fchg : Fin_ → FuncId
 | .ex _ _ _ => 78
 | .px _ _ _ _ => 118
 | .te _ _ _ => 135
def Fin_.fdrop : Fin_ → FuncId
 | .ex _ _ _ => 80
 | .px _ _ _ _ => 120
 | .te _ _ _ => 137
def Fin_.ffind : Fin_ → FuncId
 | .ex _ _ _ => 81
 | .px _ _ _ _ => 121
 | .te _ _ _ => 138
def Fin_.fall : Fin_ → FuncId
 | .ex _ _ _ => 77
 | .px _ _ _ _ => 117
 | .te _ _ _ => 134
def Fin_.fcnt : Fin_ → FuncId
 | .ex _ _ _ => 79
 | .px _ _ _ _ => 119
 | .te _ _ _ => 136
theorem sm_1 : qab3 Tryz.prog 80 "shuntyard/store.add" = some (some (76, false)) := by kernel_rfl
theorem sm_2 : qab3 Tryz.prog 84 "shuntyard/store.add" = some (some (116, false)) := by kernel_rfl
theorem sm_3 : qab3 Tryz.prog 88 "shuntyard/store.add" = some (some (133, false)) := by kernel_rfl
theorem sc_1 : qab3 Tryz.prog 80 "shuntyard/store.change" = some (some (78, false)) := by kernel_rfl
theorem sc_2 : qab3 Tryz.prog 84 "shuntyard/store.change" = some (some (118, false)) := by kernel_rfl
theorem sc_3 : qab3 Tryz.prog 88 "shuntyard/store.change" = some (some (135, false)) := by kernel_rfl
theorem sd_1 : qab3 Tryz.prog 80 "shuntyard/store.drop" = some (some (80, false)) := by kernel_rfl
theorem sd_2 : qab3 Tryz.prog 84 "shuntyard/store.drop" = some (some (120, false)) := by kernel_rfl
theorem sd_3 : qab3 Tryz.prog 88 "shuntyard/store.drop" = some (some (137, false)) := by kernel_rfl
theorem sf_1 : qab3 Tryz.prog 80 "shuntyard/store.find" = some (some (81, false)) := by kernel_rfl
theorem sf_2 : qab3 Tryz.prog 84 "shuntyard/store.find" = some (some (121, false)) := by kernel_rfl
theorem sf_3 : qab3 Tryz.prog 88 "shuntyard/store.find" = some (some (138, false)) := by kernel_rfl
theorem sa_1 : qab3 Tryz.prog 80 "shuntyard/store.all" = some (some (77, false)) := by kernel_rfl
theorem sa_2 : qab3 Tryz.prog 84 "shuntyard/store.all" = some (some (117, false)) := by kernel_rfl
theorem sa_3 : qab3 Tryz.prog 88 "shuntyard/store.all" = some (some (134, false)) := by kernel_rfl
theorem sn_1 : qab3 Tryz.prog 80 "shuntyard/store.count" = some (some (79, false)) := by kernel_rfl
theorem sn_2 : qab3 Tryz.prog 84 "shuntyard/store.count" = some (some (119, false)) := by kernel_rfl
theorem sn_3 : qab3 Tryz.prog 88 "shuntyard/store.count" = some (some (136, false)) := by kernel_rfl
theorem sp_1 : qav2 Tryz.prog 80 = some none := by kernel_rfl
theorem sp_2 : qav2 Tryz.prog 84 = some none := by kernel_rfl
theorem sp_3 : qav2 Tryz.prog 88 = some none := by kernel_rfl
attribute [local irreducible] qab3 qav2
theorem qbeg (F : Fin_) {g : Nat → Option SObj} {x : SV} : Meth Tryz.prog g F.ty x "shuntyard/store.add" F.fadd x := by cases F; (exact qacw sm_1 sp_1); (exact qacw sm_2 sp_2); (exact qacw sm_3 sp_3)
theorem qbee (F : Fin_) {g : Nat → Option SObj} {x : SV} : Meth Tryz.prog g F.ty x "shuntyard/store.change" F.fchg x := by cases F; (exact qacw sc_1 sp_1); (exact qacw sc_2 sp_2); (exact qacw sc_3 sp_3)
theorem qa5s (F : Fin_) {g : Nat → Option SObj} {x : SV} : Meth Tryz.prog g F.ty x "shuntyard/store.drop" F.fdrop x := by cases F; (exact qacw sd_1 sp_1); (exact qacw sd_2 sp_2); (exact qacw sd_3 sp_3)
theorem qara (F : Fin_) {g : Nat → Option SObj} {x : SV} : Meth Tryz.prog g F.ty x "shuntyard/store.find" F.ffind x := by cases F; (exact qacw sf_1 sp_1); (exact qacw sf_2 sp_2); (exact qacw sf_3 sp_3)
theorem qbef (F : Fin_) {g : Nat → Option SObj} {x : SV} : Meth Tryz.prog g F.ty x "shuntyard/store.all" F.fall x := by cases F; (exact qacw sa_1 sp_1); (exact qacw sa_2 sp_2); (exact qacw sa_3 sp_3)
theorem qbed (F : Fin_) {g : Nat → Option SObj} {x : SV} : Meth Tryz.prog g F.ty x "shuntyard/store.count" F.fcnt x := by cases F; (exact qacw sn_1 sp_1); (exact qacw sn_2 sp_2); (exact qacw sn_3 sp_3)
theorem qa4h {w n : Int} {E : PE} (hw : okWd w) (h : PInv w.toNat n E) : n = ((allT w E).length : Int) := by
 unfold allT; rw [if_pos hw]; exact h.cnt
theorem pargs {W : Nat} {n : Int} {E : PE} (h : PInv W n E) : ∀ i v x, E i v = some x → x.2.length ≤ 1000000 := fun i v x hx => by have := (h.ok i v x hx).2.2.2.1; omega
theorem fin_add (F : Fin_) (hF : F.Inv) (e : Entry) (he : EOk e) (hk : (e.keys.length : Int) = F.k) (id q : Nat) (hq : id < q) : SCalls Tryz.prog F.fadd [.agg [.ptr id 0], .agg (qaay e)] [(id, .abs F.I)] q (.int .i64 (F.addV e)) [(id, .abs (F.add e).I)] := by
 cases F with
 | ex k m S => exact qab2 (sxa_s k m S hF.1 e he.small) (fun _ => rfl) (fun _ => rfl) rfl id q hq
 | px w m n E =>
  obtain ⟨h1, h2, h3, h4, h5⟩ := hF
  exact qab2 (spa_s w m n E h1 ⟨by rw [h2.cnt]; omega, by omega⟩ e he (fun h => by rw [h] at hk; simp [Fin_.k] at hk)) (fun _ => rfl) (fun _ => rfl) rfl id q hq
 | te k m l => exact qab2 (sta_s k m l hF.1 (by have := hF.2; omega) e he.small) (fun _ => rfl) (fun _ => rfl) rfl id q hq
theorem fin_chg (F : Fin_) (hF : F.Inv) (e : Entry) (he : EOk e) (hk : (e.keys.length : Int) = F.k) (id q : Nat) (hq : id < q) : SCalls Tryz.prog F.fchg [.agg [.ptr id 0], .agg (qaay e)] [(id, .abs F.I)] q (.int .i64 (F.chgV e)) [(id, .abs (F.chg e).I)] := by
 cases F with
 | ex k m S => exact qab2 (sxc_s k m S hF.1 e he.small) (fun _ => rfl) (fun _ => rfl) rfl id q hq
 | px w m n E => exact qab2 (spc_s w m n E hF.1 e he (fun h => by rw [h] at hk; simp [Fin_.k] at hk)) (fun _ => rfl) (fun _ => rfl) rfl id q hq
 | te k m l => exact qab2 (stc_s k m l hF.1 (by have := hF.2; omega) e he.small) (fun _ => rfl) (fun _ => rfl) rfl id q hq
theorem qbe0 (F : Fin_) (hF : F.Inv) (e : Entry) (he : EOk e) (hk : (e.keys.length : Int) = F.k) (id q : Nat) (hq : id < q) : SCalls Tryz.prog F.fdrop [.agg [.ptr id 0], .agg (qaay e)] [(id, .abs F.I)] q (.int .i64 (F.dropV e)) [(id, .abs (F.drop e).I)] := by
 cases F with
 | ex k m S => exact qab2 (sxd_s k m S hF.1 e he.small) (fun _ => rfl) (fun _ => rfl) rfl id q hq
 | px w m n E =>
  obtain ⟨h1, h2, h3, h4, h5⟩ := hF
  exact qab2 (spd_s w m n E h1 ⟨by rw [h2.cnt]; omega, by omega⟩ e he (fun h => by rw [h] at hk; simp [Fin_.k] at hk)) (fun _ => rfl) (fun _ => rfl) rfl id q hq
 | te k m l => exact qab2 (std_s k m l hF.1 (by have := hF.2; omega) e he.small) (fun _ => rfl) (fun _ => rfl) rfl id q hq
theorem qbez (F : Fin_) (hF : F.Inv) (xs : List Int) (hx : xs.length ≤ 1000000) (hf : AllFit .u64 xs) (hk : (xs.length : Int) = F.k) (id q : Nat) (hq : id < q) : SCalls Tryz.prog F.ffind [.agg [.ptr id 0], nums .u64 xs] [(id, .abs F.I)] q (qaje (F.find xs)) [(id, .abs F.I)] := by
 cases F with
 | ex k m S => exact qab2 (sxf_s k m S hF.1 xs hx) (fun _ => rfl) (fun σ => qaiv _ σ) rfl id q hq
 | px w m n E =>
  have h0 : xs ≠ [] := fun h => by rw [h] at hk; simp [Fin_.k] at hk
  exact qab2 (spf_s w m n E hF.1 (pargs hF.2.1) xs h0 (by unfold el; cases xs with | nil => exact absurd rfl h0 | cons x l => exact hf x (by simp))) (fun _ => rfl) (fun σ => qaiv _ σ) rfl id q hq
 | te k m l => exact qab2 (stf_s k m l hF.1 (by have := hF.2; omega) xs hx) (fun _ => rfl) (fun σ => qaiv _ σ) rfl id q hq
theorem fin_all (F : Fin_) (hF : F.Inv) (id q : Nat) (hq : id < q) : SCalls Tryz.prog F.fall [.agg [.ptr id 0]] [(id, .abs F.I)] q (ents F.all) [(id, .abs F.I)] := by
 cases F with
 | ex k m S => exact qab2 (sxl_s k m S hF.1 (by have := hF.2; omega)) (fun _ => rfl) (fun σ => rfl) rfl id q hq
 | px w m n E =>
  have h2 := qa4h hF.1 hF.2.1
  have h3 := hF.2.2
  exact qab2 (spl_s w m n E hF.1 (pargs hF.2.1) (by omega)) (fun _ => rfl) (fun σ => rfl) rfl id q hq
 | te k m l => exact qab2 (stl_s k m l hF.1 (by have := hF.2; omega)) (fun _ => rfl) (fun σ => rfl) rfl id q hq
theorem fin_cnt (F : Fin_) (hF : F.Inv) (id q : Nat) (hq : id < q) : SCalls Tryz.prog F.fcnt [.agg [.ptr id 0]] [(id, .abs F.I)] q (.int .i64 F.cnt) [(id, .abs F.I)] := by
 cases F with
 | ex k m S => exact qab2 (sxn_s k m S) (fun _ => rfl) (fun σ => rfl) rfl id q hq
 | px w m n E => exact qab2 (spn_s w m n E hF.1) (fun _ => rfl) (fun σ => rfl) rfl id q hq
 | te k m l => exact qab2 (stn_s k m l) (fun _ => rfl) (fun σ => rfl) rfl id q hq
structure StoD where
 F : Fin_
 t : TabD
 w : List Int
 acts : List ActD
 da : Int
 dl : List Int
def scs (s : StoD) (j : Nat) : List SV := .ifc s.F.ty (.agg [.ptr j 0]) :: (tabc s.t ++ [nums .i64 s.w, .view 2 (s.acts.map actc), .int .i64 s.da, nums .u64 s.dl])
def qac2 (s : StoD) (i j : Nat) : Hp := [(i, .cells 76 (scs s j)), (j, .abs s.F.I)]
theorem qagb {f : FuncId} {args : List SV} {s s' : StoD} {r : SV} (h : SCalls Tryz.prog f (.ptr 0 0 :: args) (qac2 s 0 1) 2 r (qac2 s' 0 1)) (ha : ∀ σ, args.map (Go.Proofs.YtalejfkholifpaaGreat.ren σ) = args) (hr : ∀ σ, Go.Proofs.YtalejfkholifpaaGreat.ren σ r = r) (hk : ok2 r = true) (i j q : Nat) (hij : i ≠ j) (hi : i < q) (hj : j < q) : SCalls Tryz.prog f (.ptr i 0 :: args) (qac2 s i j) q r (qac2 s' i j) := by
 have e0 : sg [i, j] q 0 = i := rfl
 have e1 : sg [i, j] q 1 = j := rfl
 have e : ∀ s : StoD, (scs s 1).map (Go.Proofs.YtalejfkholifpaaGreat.ren (sg [i, j] q)) = scs s j := fun s => by simp [scs, tabc, Go.Proofs.YtalejfkholifpaaGreat.ren, ren1, ren0, renA, renB, e1]
 refine qadd [i, j] h rfl (by simp [hij]) (by simp; omega) ?_ ?_ (by simp [idsH, qac2]) (hr _).symm hk ?_ (by simp [idsH, qac2]) (by simp [idsH, qac2, e0, e1])
 ·rw [List.map_cons, ha]; simp [Go.Proofs.YtalejfkholifpaaGreat.ren, ren1, ren0, e0]
 ·exact ⟨⟨.cells _ (scs s j), by rw [e0]; simp [geth, qac2], rfl, by rw [e]; exact CoL.refl _⟩, ⟨.abs s.F.I, by rw [e1]; simp [geth, qac2, hij], rfl⟩, trivial⟩
 ·exact ⟨⟨.cells _ (scs s' j), by rw [e0]; simp [geth, qac2], rfl, rfl, (e _).symm⟩, ⟨.abs s'.F.I, by rw [e1]; simp [geth, qac2, hij], rfl⟩, trivial⟩
end Go.Proofs.YtalejfkholifpaaGreat
