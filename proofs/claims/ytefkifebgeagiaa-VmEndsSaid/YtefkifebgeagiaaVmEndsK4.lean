/-
  Texts joined: XGrdF XVmA. No condition.
-/
import Derived.Test.YtefkifebgeagiaaProg
import Derived.Test.YtefkifebgeagiaaRows
import Derived.Deep.QuietTactic
import Derived.BigQuiet
import Derived.WalkSmall
import Derived.Handy
import Derived.Deep.RegionLaw
import Derived.Deep.Cut
import Derived.Deep.CutRange
import Derived.WalkSpells
import Derived.RegionTactic
import Derived.BigRegion
import Derived.Deep.RegionHeld3
import Derived.Deep.DrawnRows
import Derived.Outline
import Derived.Laws.StructEq
import Derived.Test.YtefkifebgeagiaaVmEndsK3
namespace Go.Proofs.Ytefkifebgeagiaa
set_option linter.all false
open Go.RowKit
theorem qae8 {w : World} {A : Nat → Prop} {ρ : qaau} : ∀ (l : List (IntKind × Int)) {vs : List Value}, Reps w A ρ (l.map fun p => .int p.1 p.2) vs → vs = l.map fun p => .int p.1 p.2
 | [], vs, h => h.nil_inv
 | p :: l, vs, h => by
  obtain ⟨v, us, rfl, h1, h2⟩ := Reps.cons_inv (x := .int p.1 p.2) (xs := l.map fun p => .int p.1 p.2) h
  cases h1
  rw [qae8 l h2]; rfl
theorem qahw {α : Type} {size : Nat} {enc : α → List Value} {ok : α → Prop} {hl : ∀ a, (enc a).length = size} {f : α → List SV} (hf : ∀ w A x vs, Reps w A noPl (f x) vs → vs = enc x) (hsz : ∀ x, (f x).length = size)
  {A : Nat → Prop} {w : World} {ρ : qaau} {xs : List α} {v : Value} (h : RepV w A ρ (.view size (xs.map f)) v) (hok : ∀ x ∈ xs, ok x) : ∃ ao c, v = .slice ao xs.length c ∧ RdL (Lay.flat size enc ok hl) A w ao xs.length c xs := by
 generalize hes : xs.map f = es at h
 cases h with
 | view0 hc ha =>
  have : xs = [] := List.map_eq_nil_iff.1 hes
  subst this
  exact ⟨_, _, rfl, rfl, Nat.zero_le _, hc, ha, fun h => absurd h (by simp)⟩
 | view cv hn hc hm hA hb hz h1 h2 ho =>
  rename_i b off n c
  have hn' : xs.length = n := by rw [← hn, ← hes, List.length_map]
  subst hn'
  refine ⟨_, _, rfl, rfl, hc, hm, (fun e => by cases e), fun _ => ⟨b, off, rfl, hA, hb, fun i hi => ?_⟩⟩
  have hi' : es[i]? = some (f xs[i]) := by rw [← hes, List.getElem?_map, List.getElem?_eq_getElem hi]; rfl
  have hr : Reps w A noPl (f xs[i]) ((List.range size).map (cv i)) := by
   refine ⟨by rw [hsz]; simp, fun j x u hx hu => ?_⟩
   have := h2 i _ j x hi' hx
   rw [List.getElem?_map, Option.map_eq_some_iff] at hu
   obtain ⟨k, hk, rfl⟩ := hu
   obtain ⟨hk1, hk2⟩ := List.getElem?_eq_some_iff.1 hk
   rw [List.getElem_range] at hk2
   subst hk2
   exact this
  have he := hf _ _ _ _ hr
  refine ⟨enc xs[i], ⟨rfl, hok _ (List.getElem_mem hi)⟩, fun j hj => ?_⟩
  have hx : (f xs[i])[j]? = some ((f xs[i])[j]'(by rw [hsz]; exact hj)) := List.getElem?_eq_getElem _
  show w.cell? ⟨b, off + i * size + j, none⟩ = _
  have hj' : j < size := hj
  rw [h1 i _ j _ hi' hx, ← he, List.getElem?_map, List.getElem?_range hj']; rfl
theorem qaii {A : Nat → Prop} {w : World} {ρ : qaau} {xs : List Shape} {v : Value} (h : RepV w A ρ (.view 3 (xs.map scv)) v) (hok : ∀ x ∈ xs, x.wf) : ∃ ao c, v = .slice ao xs.length c ∧ RdL qaba A w ao xs.length c xs :=
 qahw (f := scv) (fun w A x vs h => qae8 [(.i64, x.keys), (.i64, x.acts), (.i64, x.args)] h) (fun _ => rfl) h hok
theorem qapp {A : Nat → Prop} {w : World} {ρ : qaau} {xs : List Ins} {v : Value} (h : RepV w A ρ (.view 6 (xs.map icv)) v) (hok : ∀ x ∈ xs, x.wf) : ∃ ao c, v = .slice ao xs.length c ∧ RdL qadq A w ao xs.length c xs :=
 qahw (f := icv) (fun w A x vs h => qae8 [(.i64, x.op), (.i64, x.r), (.i64, x.s), (.i64, x.k), (.i64, x.to), (.u64, x.n)] h) (fun _ => rfl) h hok
structure PWf (p : Prog) : Prop where
 t : ∀ x ∈ p.tabs, x.wf
 c : ∀ x ∈ p.code, x.wf
def pcv (p : Prog) : List SV := [.int .i64 p.slots, .view 3 (p.tabs.map scv), .view 6 (p.code.map icv)]
theorem qap0 {A : Nat → Prop} {w : World} {ρ : qaau} {p : Prog} {v : Value} (h : RepV w A ρ (.agg (pcv p)) v) (hp : PWf p) : ∃ to_ tc co cc, v = .agg #[.int .i64 p.slots, .slice to_ p.tabs.length tc, .slice co p.code.length cc] ∧ RdL qaba A w to_ p.tabs.length tc p.tabs ∧ RdL qadq A w co p.code.length cc p.code := by
 cases h with
 | agg ho hl hh =>
  obtain ⟨v1, u1, rfl, h1, r1⟩ := Reps.cons_inv ⟨hl, hh⟩
  obtain ⟨v2, u2, rfl, h2, r2⟩ := Reps.cons_inv r1
  obtain ⟨v3, u3, rfl, h3, r3⟩ := Reps.cons_inv r2
  have := r3.nil_inv
  subst this
  cases h1
  obtain ⟨ao, c, rfl, q1⟩ := qaii h2 hp.t
  obtain ⟨co, cc, rfl, q2⟩ := qapp h3 hp.c
  exact ⟨_, _, _, _, rfl, q1, q2⟩
def qanx (e : Int × Int) : SV := .agg [.int .i64 e.1, .int .i64 e.2]
theorem qank {A : Nat → Prop} {w : World} {ρ : qaau} (e : Int × Int) : RepV w A ρ (qanx e) (.agg #[.int .i64 e.1, .int .i64 e.2]) :=
 .agg (vs := [.int .i64 e.1, .int .i64 e.2]) (fun v hv => by simp at hv; rcases hv with rfl | rfl <;> rfl) rfl (Reps.cons .int (Reps.cons .int Reps.nil)).2
theorem qaj1 (p : Prog) (hp : PWf p) (q : Nat) : SCalls Try.prog 47 [.agg (pcv p)] [] q (qanx (qacu p)) [] := by
 refine qah0 (Enters.of Try.func47 rfl rfl) (fun O w vs hO h => ?_) (fun σ => rfl) q
 obtain ⟨v, us, rfl, h1, h2⟩ := Reps.cons_inv h
 have := h2.nil_inv; subst this
 obtain ⟨to_, tc, co, cc, rfl, q1, q2⟩ := qap0 h1 hp
 refine (qaoz p.slots to_ co tc cc p.tabs p.code O w q1 q2).mono ?_
 rintro e w' ⟨rfl, hb⟩
 exact ⟨_, rfl, hb, qank _⟩
end Go.Proofs.Ytefkifebgeagiaa
namespace Go.Proofs.Ytefkifebgeagiaa
set_option linter.all false
open Go.RowKit
attribute [local simp] qab2 qab1 qaa2 qabg qaa3 qabf qabz qab0 qaav qacs SOp.run SX.ev putd puts argS upds SOp.touch SSt.keep SSt.skip gets geth puth delh idOf SV.cells? setL qaf7 qaf8 sbin eq0 eq1 eqL qafp qaef qaeg qaaj qab3 qaaa qab4 qact qaae qaas FrzOk qabj qaa5 qabh qabi qaax qaa4 qab5 qaa6 qaaz qabk qaay frzS frzH frz frz1 frz0 SlotsM ObjsM ObjM rn ren ren1 ren0 qacw qadi qaep qacv qab6 qadj qaeo CoL qabm qabl dels adds idsH qabc
structure VmM where
 regs : List Int
 have_ : List Bool
 slot : List Int
 full : List Bool
 op : Int
 out : List Int
structure VOk (M : VmM) : Prop where
 r : M.regs.length = 10
 h : M.have_.length = 10
def vcg (p : Prog) (b : List Int) (port : Int) (R : List Int) (H : List Bool) (tl : List SV) : List SV :=
 .int .i64 p.slots :: .view 3 (p.tabs.map scv) :: .view 6 (p.code.map icv) :: .nilsl :: nums .u8 b :: .int .i64 port :: (R.map (SV.int .u64) ++ (H.map SV.bool ++ tl))
def vtl (M : VmM) : List SV := [.own 1 M.slot.length, .own 2 M.full.length, .int .i64 M.op, .own 3 M.out.length]
def vtw (M : VmM) : List SV := [.view 1 (M.slot.map fun x => [SV.int .u64 x]), .view 1 (M.full.map fun x => [SV.bool x]), .int .i64 M.op, .view 1 (M.out.map fun x => [SV.int .u8 x])]
def vcl (p : Prog) (b : List Int) (port : Int) (M : VmM) : List SV := vcg p b port M.regs M.have_ (vtl M)
def vcw (p : Prog) (b : List Int) (port : Int) (M : VmM) : List SV := vcg p b port M.regs M.have_ (vtw M)
variable {p : Prog} {b : List Int} {port : Int} {R : List Int} {H : List Bool} {tl : List SV} {M : VmM}
theorem qaec (hR : R.length = 10) (hH : H.length = 10) (ht : tl.length = 4) : (vcg p b port R H tl).length = 30 := by
 unfold vcg; simp [hR, hH, ht]
theorem qaev {r : Nat} (hr : r < R.length) : (vcg p b port R H tl)[6 + r]? = some (.int .u64 R[r]) := by
 unfold vcg
 rw [show 6 + r = r + 1 + 1 + 1 + 1 + 1 + 1 by omega]
 simp only [List.getElem?_cons_succ]
 rw [List.getElem?_append_left (by simpa using hr)]
 simp [hr]
theorem vcg_hav (hR : R.length = 10) {r : Nat} (hr : r < H.length) : (vcg p b port R H tl)[16 + r]? = some (.bool H[r]) := by
 unfold vcg
 rw [show 16 + r = (10 + r) + 1 + 1 + 1 + 1 + 1 + 1 by omega]
 simp only [List.getElem?_cons_succ]
 rw [List.getElem?_append_right (by simp [hR]), List.length_map, hR, Nat.add_sub_cancel_left, List.getElem?_append_left (by simpa using hr)]
 simp [hr]
theorem vcg_end (hR : R.length = 10) (hH : H.length = 10) (j : Nat) : (vcg p b port R H tl)[26 + j]? = tl[j]? := by
 unfold vcg
 rw [show 26 + j = (20 + j) + 1 + 1 + 1 + 1 + 1 + 1 by omega]
 simp only [List.getElem?_cons_succ]
 rw [List.getElem?_append_right (by simp [hR]; omega), List.length_map, hR, List.getElem?_append_right (by simp [hH]; omega), List.length_map, hH]
 congr 1; omega
theorem qabe {h : 4 < (vcg p b port R H tl).length} : (vcg p b port R H tl)[4] = nums .u8 b := rfl
theorem qac8 {h : 5 < (vcg p b port R H tl).length} : (vcg p b port R H tl)[5] = .int .i64 port := rfl
theorem vcg_e {j : Nat} (hR : R.length = 10) (hH : H.length = 10) {h : 26 + j < (vcg p b port R H tl).length} (hj : j < tl.length) : (vcg p b port R H tl)[26 + j] = tl[j] := by
 have := vcg_end (p := p) (b := b) (port := port) (tl := tl) hR hH j
 rw [List.getElem?_eq_getElem h, List.getElem?_eq_getElem hj] at this
 exact Option.some.inj this
theorem qaao {x y z u : SV} (hR : R.length = 10) (hH : H.length = 10) {h : 26 < (vcg p b port R H [x, y, z, u]).length} : (vcg p b port R H [x, y, z, u])[26] = x := vcg_e (j := 0) hR hH (by simp)
theorem qaan {x y z u : SV} (hR : R.length = 10) (hH : H.length = 10) {h : 27 < (vcg p b port R H [x, y, z, u]).length} : (vcg p b port R H [x, y, z, u])[27] = y := vcg_e (j := 1) hR hH (by simp)
theorem qaam {x y z u : SV} (hR : R.length = 10) (hH : H.length = 10) {h : 28 < (vcg p b port R H [x, y, z, u]).length} : (vcg p b port R H [x, y, z, u])[28] = z := vcg_e (j := 2) hR hH (by simp)
theorem qaal {x y z u : SV} (hR : R.length = 10) (hH : H.length = 10) {h : 29 < (vcg p b port R H [x, y, z, u]).length} : (vcg p b port R H [x, y, z, u])[29] = u := vcg_e (j := 3) hR hH (by simp)
theorem qaj6 {r : Nat} {v : Int} (hr : r < R.length) : (vcg p b port R H tl).set (6 + r) (.int .u64 v) = vcg p b port (R.set r v) H tl := by
 unfold vcg
 rw [show 6 + r = r + 1 + 1 + 1 + 1 + 1 + 1 by omega]
 simp only [List.set_cons_succ]
 rw [List.set_append_left _ _ (by simpa using hr), List.map_set]
theorem qaj7 (hR : R.length = 10) {r : Nat} {v : Bool} (hr : r < H.length) : (vcg p b port R H tl).set (16 + r) (.bool v) = vcg p b port R (H.set r v) tl := by
 unfold vcg
 rw [show 16 + r = (10 + r) + 1 + 1 + 1 + 1 + 1 + 1 by omega]
 simp only [List.set_cons_succ]
 rw [List.set_append_right _ _ (by simp [hR]), List.length_map, hR, Nat.add_sub_cancel_left, List.set_append_left _ _ (by simpa using hr), List.map_set]
theorem qaj8 (hR : R.length = 10) (hH : H.length = 10) (j : Nat) (v : SV) : (vcg p b port R H tl).set (26 + j) v = vcg p b port R H (tl.set j v) := by
 unfold vcg
 rw [show 26 + j = (20 + j) + 1 + 1 + 1 + 1 + 1 + 1 by omega]
 simp only [List.set_cons_succ]
 rw [List.set_append_right _ _ (by simp [hR]; omega), List.length_map, hR, List.set_append_right _ _ (by simp [hH]; omega), List.length_map, hH, show 20 + j - 10 - 10 = j by omega]
theorem vcg_d28 {x y z u : SV} (hR : R.length = 10) (hH : H.length = 10) : (vcg p b port R H [x, y, z, u]).drop 28 = [z, u] := by
 unfold vcg
 rw [show 28 = 22 + 1 + 1 + 1 + 1 + 1 + 1 by omega]
 simp only [List.drop_succ_cons]
 rw [List.drop_append, List.length_map, hR, List.drop_eq_nil_of_le (by simp [hR]), List.nil_append, List.drop_append, List.length_map, hH, List.drop_eq_nil_of_le (by simp [hH])]
 rfl
theorem qaag {x y z u v : SV} (hR : R.length = 10) (hH : H.length = 10) : (vcg p b port R H [x, y, z, u]).set 28 v = vcg p b port R H [x, y, v, u] := qaj8 hR hH 2 v
theorem qaaf {x y z u v : SV} (hR : R.length = 10) (hH : H.length = 10) : (vcg p b port R H [x, y, z, u]).set 29 v = vcg p b port R H [x, y, z, v] := qaj8 hR hH 3 v
theorem qaj4 (p : Prog) (b : List Int) (port : Int) (M : VmM) {σ : Nat → Nat} (h1 : σ 1 = 1) (h2 : σ 2 = 2) (h3 : σ 3 = 3) : (vcl p b port M).map (Go.Proofs.Ytefkifebgeagiaa.ren σ) = vcl p b port M := by
 have hi : (Go.Proofs.Ytefkifebgeagiaa.ren σ ∘ SV.int .u64) = SV.int .u64 := rfl
 have hb : (Go.Proofs.Ytefkifebgeagiaa.ren σ ∘ SV.bool) = SV.bool := rfl
 unfold vcl vcg vtl nums
 simp [hi, hb]
 simp [Go.Proofs.Ytefkifebgeagiaa.ren, ren1, ren0, h1, h2, h3]
theorem vcl_ok (p : Prog) (b : List Int) (port : Int) (M : VmM) : (vcl p b port M).all ok2 = true := by
 unfold vcl vcg vtl nums
 simp [ok2]
 exact ⟨rfl, rfl, rfl, rfl, rfl, rfl, fun _ _ => rfl, ⟨fun _ => rfl, fun _ => rfl⟩, rfl, rfl, rfl, rfl⟩
def vobj (p : Prog) (b : List Int) (port : Int) (M : VmM) : Hp := [(0, .cells 91 (vcl p b port M)), (1, .row 39 1 (M.slot.map fun x => [SV.int .u64 x])), (2, .row 4 1 (M.full.map fun x => [SV.bool x])), (3, .row 5 1 (M.out.map fun x => [SV.int .u8 x]))]
theorem qaes (p : Prog) (b : List Int) (port : Int) (M : VmM) : LtH 4 (vobj p b port M) := ⟨by decide, qaj4 _ _ _ _ rfl rfl rfl, by decide, PureR.ren _, by decide, PureR.ren _, by decide, PureR.ren _, trivial⟩
theorem qagb (p : Prog) (b : List Int) (port : Int) (M : VmM) : ∀ i ∈ idsH (vobj p b port M), i < 4 := by intro i hi; simp [idsH, vobj] at hi; omega
theorem qaj5 (p : Prog) (b : List Int) (port : Int) (M : VmM) {σ : Nat → Nat} (h1 : σ 1 = 1) (h2 : σ 2 = 2) (h3 : σ 3 = 3) : CoL (vcl p b port M) ((vcl p b port M).map (Go.Proofs.Ytefkifebgeagiaa.ren σ)) := by rw [qaj4 p b port M h1 h2 h3]; exact CoL.refl _
theorem v_up {f : FuncId} {args : List SV} {r : SV} {p : Prog} {b : List Int} {port : Int} {M M' : VmM} (h : SCalls Try.prog f args (vobj p b port M) 4 r (vobj p b port M')) (q : Nat) (hq : 4 ≤ q) (ha : args = args.map (Go.Proofs.Ytefkifebgeagiaa.ren (sg [0, 1, 2, 3] q))) (hr : r = Go.Proofs.Ytefkifebgeagiaa.ren (sg [0, 1, 2, 3] q) r) (hk : ok2 r = true) : SCalls Try.prog f args (vobj p b port M) q r (vobj p b port M') :=
 qaee [0, 1, 2, 3] h rfl (by decide) (by intro i hi; simp at hi; omega) ha ⟨⟨_, rfl, rfl, qaj5 _ _ _ _ rfl rfl rfl⟩, ⟨_, rfl, rfl, rfl, by rw [PureR.ren]; exact CoLL.refl _⟩, ⟨_, rfl, rfl, rfl, by rw [PureR.ren]; exact CoLL.refl _⟩, ⟨_, rfl, rfl, rfl, by rw [PureR.ren]; exact CoLL.refl _⟩, trivial⟩ (qagb _ _ _ _) hr hk
  ⟨⟨_, rfl, rfl, vcl_ok _ _ _ _, (qaj4 _ _ _ _ rfl rfl rfl).symm⟩, ⟨_, rfl, rfl, rfl, PureR.ok, (PureR.ren _).symm⟩, ⟨_, rfl, rfl, rfl, PureR.ok, (PureR.ren _).symm⟩, ⟨_, rfl, rfl, rfl, PureR.ok, (PureR.ren _).symm⟩, trivial⟩ (fun i hi => by have := qagb _ _ _ _ i hi; omega) (by simp [idsH, vobj]; exact ⟨rfl, rfl, rfl, rfl⟩)
theorem fin_v {X : Cx} {s : SSt} {p : Prog} {b : List Int} {port : Int} {M : VmM} {t : Nat} {r : SV} (hr : (∃ b, r = .bool b) ∨ ∃ n, r = .int .i64 n) (hw : Wk X s ⟨[(t, r)], vobj p b port M, 4⟩) : QFun X [.tmp t] 4 r (vobj p b port M) .ret s :=
 ⟨_, hw, by rcases hr with ⟨b, rfl⟩ | ⟨n, rfl⟩ <;> simp [qanj, resL, resV, one_, gets], ⟨rfl, rfl, rfl, rfl, trivial⟩, by simp⟩
theorem qaqn {X : Cx} {sl : Sl} {hp : Hp} {nx : Nat} {p : Prog} {b : List Int} {port : Int} {M : VmM} {t : Nat} {r : SV} (hm : X.m = 4) (hv : gets sl t = r) (hN : NoN r) (hr : (∃ b, r = .bool b) ∨ ∃ n, r = .int .i64 n) (h0 : geth hp 0 = some (.cells 91 (vcl p b port M))) (h1 : geth hp 1 = some (.row 39 1 (M.slot.map fun x => [SV.int .u64 x]))) (h2 : geth hp 2 = some (.row 4 1 (M.full.map fun x => [SV.bool x]))) (h3 : geth hp 3 = some (.row 5 1 (M.out.map fun x => [SV.int .u8 x]))) : QFun X [.tmp t] 4 r (vobj p b port M) .ret ⟨sl, hp, nx⟩ :=
 fin_v hr (qabw [] hm ⟨by rw [hv, hN]; exact Co.refl _, trivial⟩ ⟨⟨_, h0, rfl, qaj5 p b port M rfl rfl rfl⟩, ⟨_, h1, rfl, rfl, by rw [PureR.ren]; exact CoLL.refl _⟩, ⟨_, h2, rfl, rfl, by rw [PureR.ren]; exact CoLL.refl _⟩, ⟨_, h3, rfl, rfl, by rw [PureR.ren]; exact CoLL.refl _⟩, trivial⟩ rfl (Nat.le_refl _))
def qaet (k : Nat) (p : Prog) (b : List Int) (port : Int) (M : VmM) : Hp := [(0, .cells 91 (vcg p b port M.regs M.have_ [.own 1 M.slot.length, .own 2 M.full.length, .int .i64 M.op, .own k M.out.length])), (1, .row 39 1 (M.slot.map fun x => [SV.int .u64 x])), (2, .row 4 1 (M.full.map fun x => [SV.bool x])), (k, .row 5 1 (M.out.map fun x => [SV.int .u8 x]))]
theorem qaeu (p : Prog) (b : List Int) (port : Int) (R : List Int) (H : List Bool) (n1 n2 n3 k : Nat) (op : Int) {σ : Nat → Nat} (h1 : σ 1 = 1) (h2 : σ 2 = 2) : (vcg p b port R H [.own 1 n1, .own 2 n2, .int .i64 op, .own k n3]).map (Go.Proofs.Ytefkifebgeagiaa.ren σ) = vcg p b port R H [.own 1 n1, .own 2 n2, .int .i64 op, .own (σ k) n3] := by
 have hi : (Go.Proofs.Ytefkifebgeagiaa.ren σ ∘ SV.int .u64) = SV.int .u64 := rfl
 have hb : (Go.Proofs.Ytefkifebgeagiaa.ren σ ∘ SV.bool) = SV.bool := rfl
 unfold vcg nums
 simp [hi, hb]
 simp [Go.Proofs.Ytefkifebgeagiaa.ren, ren1, ren0, h1, h2]
theorem vcg_ok (p : Prog) (b : List Int) (port : Int) (R : List Int) (H : List Bool) (n1 n2 n3 k : Nat) (op : Int) : (vcg p b port R H [.own 1 n1, .own 2 n2, .int .i64 op, .own k n3]).all ok2 = true := by
 unfold vcg nums
 simp [ok2]
 exact ⟨rfl, rfl, rfl, rfl, rfl, rfl, fun _ _ => rfl, ⟨fun _ => rfl, fun _ => rfl⟩, rfl, rfl, rfl, rfl⟩
theorem v_upk {f : FuncId} {args : List SV} {r : SV} {p : Prog} {b : List Int} {port : Int} {M M' : VmM} (h : SCalls Try.prog f args (vobj p b port M) 4 r (qaet 4 p b port M')) (q : Nat) (hq : 4 ≤ q) (ha : args = args.map (Go.Proofs.Ytefkifebgeagiaa.ren (sg [0, 1, 2, 3] q))) (hr : r = Go.Proofs.Ytefkifebgeagiaa.ren (sg [0, 1, 2, 3] q) r) (hk : ok2 r = true) : SCalls Try.prog f args (vobj p b port M) q r (qaet q p b port M') := by
 have e4 : sg [0, 1, 2, 3] q 4 = q := rfl
 have a0 : ¬ (0 = q) := by omega
 have a1 : ¬ (1 = q) := by omega
 have a2 : ¬ (2 = q) := by omega
 refine qaee [0, 1, 2, 3] h rfl (by decide) (by intro i hi; simp at hi; omega) ha ⟨⟨_, rfl, rfl, qaj5 _ _ _ _ rfl rfl rfl⟩, ⟨_, rfl, rfl, rfl, by rw [PureR.ren]; exact CoLL.refl _⟩, ⟨_, rfl, rfl, rfl, by rw [PureR.ren]; exact CoLL.refl _⟩, ⟨_, rfl, rfl, rfl, by rw [PureR.ren]; exact CoLL.refl _⟩, trivial⟩ (qagb _ _ _ _) hr hk
  ⟨⟨_, rfl, rfl, vcg_ok _ _ _ _ _ _ _ _ _ _, ?_⟩, ⟨_, rfl, rfl, rfl, PureR.ok, (PureR.ren _).symm⟩, ⟨_, rfl, rfl, rfl, PureR.ok, (PureR.ren _).symm⟩, ⟨.row 5 1 (M'.out.map fun x => [SV.int .u8 x]), ?_, rfl, rfl, PureR.ok, (PureR.ren _).symm⟩, trivial⟩ (fun i hi => by simp [idsH, qaet] at hi; omega) ?_
 ·rw [qaeu _ _ _ _ _ _ _ _ _ _ rfl rfl, e4]
 ·rw [e4]; simp [qaet, geth, a0, a1, a2]
 ·simp [idsH, qaet, e4]; exact ⟨rfl, rfl, rfl⟩
theorem wk_vk {X : Cx} {sl sl' : Sl} {hp : Hp} {nx : Nat} {p : Prog} {b : List Int} {port : Int} {M : VmM} (k : Nat) (hk : k = 3 ∨ 4 ≤ k) (hm : X.m = 4) (hs : ∀ σ, SlotsM σ sl sl') (h0 : geth hp 0 = some (.cells 91 (vcg p b port M.regs M.have_ [.own 1 M.slot.length, .own 2 M.full.length, .int .i64 M.op, .own k M.out.length]))) (h1 : geth hp 1 = some (.row 39 1 (M.slot.map fun x => [SV.int .u64 x]))) (h2 : geth hp 2 = some (.row 4 1 (M.full.map fun x => [SV.bool x]))) (h3 : geth hp k = some (.row 5 1 (M.out.map fun x => [SV.int .u8 x]))) : Wk X ⟨sl, hp, nx⟩ ⟨sl', qaet 4 p b port M, 5⟩ := by
 have key : ∀ σ : Nat → Nat, σ 0 = 0 → σ 1 = 1 → σ 2 = 2 → σ 4 = k → ObjsM σ hp (qaet 4 p b port M) := fun σ e0 e1 e2 e3 => by
  refine ⟨⟨.cells 91 (vcg p b port M.regs M.have_ [.own 1 M.slot.length, .own 2 M.full.length, .int .i64 M.op, .own k M.out.length]), by rw [e0]; exact h0, rfl, ?_⟩, ⟨.row 39 1 (M.slot.map fun x => [SV.int .u64 x]), by rw [e1]; exact h1, rfl, rfl, by rw [PureR.ren]; exact CoLL.refl _⟩, ⟨.row 4 1 (M.full.map fun x => [SV.bool x]), by rw [e2]; exact h2, rfl, rfl, by rw [PureR.ren]; exact CoLL.refl _⟩, ⟨.row 5 1 (M.out.map fun x => [SV.int .u8 x]), by rw [e3]; exact h3, rfl, rfl, by rw [PureR.ren]; exact CoLL.refl _⟩, trivial⟩
  rw [qaeu _ _ _ _ _ _ _ _ _ _ e1 e2, e3]; exact CoL.refl _
 have a1 : k ≠ 0 := by omega
 have a2 : k ≠ 1 := by omega
 have a3 : k ≠ 2 := by omega
 refine qabw [(4, k)] hm (hs _) (key _ ?_ ?_ ?_ ?_) ?_ (by simp)
 all_goals simp [rn, qabc, diag, qaet, idsH, List.range_succ, a1, a2, a3, Ne.symm a1, Ne.symm a2, Ne.symm a3]
theorem qacd {X : Cx} {sl : Sl} {hp : Hp} {nx : Nat} {p : Prog} {b : List Int} {port : Int} {M : VmM} {t : Nat} {n : Int} (k : Nat) (hk : k = 3 ∨ 4 ≤ k) (hm : X.m = 4) (hv : gets sl t = .int .i64 n) (h0 : geth hp 0 = some (.cells 91 (vcg p b port M.regs M.have_ [.own 1 M.slot.length, .own 2 M.full.length, .int .i64 M.op, .own k M.out.length]))) (h1 : geth hp 1 = some (.row 39 1 (M.slot.map fun x => [SV.int .u64 x]))) (h2 : geth hp 2 = some (.row 4 1 (M.full.map fun x => [SV.bool x]))) (h3 : geth hp k = some (.row 5 1 (M.out.map fun x => [SV.int .u8 x]))) : QFun X [.tmp t] 4 (.int .i64 n) (qaet 4 p b port M) .ret ⟨sl, hp, nx⟩ :=
 ⟨_, wk_vk (sl' := [(t, .int .i64 n)]) k hk hm (fun σ => ⟨by rw [hv]; exact Co.refl _, trivial⟩) h0 h1 h2 h3, by simp [qanj, resL, resV, one_, gets], ⟨rfl, rfl, rfl, rfl, trivial⟩, by simp [idsH, qaet]⟩
theorem qafs {X : Cx} {sl : Sl} {hp : Hp} {nx : Nat} {p : Prog} {b : List Int} {port : Int} {M : VmM} {t u : Nat} {c : Bool} {n : Int} (k : Nat) (hk : k = 3 ∨ 4 ≤ k) (hm : X.m = 4) (hne : t ≠ u) (hc : gets sl t = .bool c) (hv : gets sl u = .int .i64 n) (h0 : geth hp 0 = some (.cells 91 (vcg p b port M.regs M.have_ [.own 1 M.slot.length, .own 2 M.full.length, .int .i64 M.op, .own k M.out.length]))) (h1 : geth hp 1 = some (.row 39 1 (M.slot.map fun x => [SV.int .u64 x]))) (h2 : geth hp 2 = some (.row 4 1 (M.full.map fun x => [SV.bool x]))) (h3 : geth hp k = some (.row 5 1 (M.out.map fun x => [SV.int .u8 x]))) : QFun X [.tmp t, .tmp u] 4 (.tup [.bool c, .int .i64 n]) (qaet 4 p b port M) .ret ⟨sl, hp, nx⟩ :=
 ⟨_, wk_vk (sl' := [(t, .bool c), (u, .int .i64 n)]) k hk hm (fun σ => ⟨by rw [hc]; exact Co.refl _, by rw [hv]; exact Co.refl _, trivial⟩) h0 h1 h2 h3, by simp [qanj, resL, resV, one_, gets, hne, hne.symm], ⟨rfl, rfl, rfl, rfl, trivial⟩, by simp [idsH, qaet]⟩
def putM (M : VmM) (r : Nat) (v : Int) : VmM := { M with regs := M.regs.set r v, have_ := M.have_.set r true }
theorem putM_ok {M : VmM} (h : VOk M) (r : Nat) (v : Int) : VOk (putM M r v) := ⟨by simp [putM, h.r], by simp [putM, h.h]⟩
theorem qapm (p : Prog) (b : List Int) (port : Int) (M : VmM) (h : VOk M) (r : Nat) (v : Int) (hr : r < 10) (q : Nat) (hq : 4 ≤ q) : SCalls Try.prog 71 [.ptr 0 0, .int .i64 r, .int .u64 v] (vobj p b port M) q (.int .i64 0) (vobj p b port (putM M r v)) := by
 refine v_up ?_ q hq rfl rfl rfl
 refine qaar (N := 18) Try.func71 rfl rfl (by kernel_rfl) qaiv (by simp) (by repeat' (first | exact trivial | refine And.intro ?_ ?_ | rfl | decide | exact PureR.ren _)) (qaes p b port M) ?_
 rintro X hP hN hm
 have hr1 : r < M.regs.length := by rw [h.r]; exact hr
 have hr2 : r < M.have_.length := by rw [h.h]; exact hr
 have l1 := fun (R : List Int) (H : List Bool) (hR : R.length = 10) (hH : H.length = 10) => qaec (p := p) (b := b) (port := port) (tl := vtl M) hR hH rfl
 have q1 := h.r
 have q2 := h.h
 obtain ⟨G, hG⟩ : ∃ G, G = vobj p b port (putM M r v) := ⟨_, rfl⟩
 rw [← hG]
 replace hG := Lib.hid hG
 unfold c_vput vobj vcl
 repeat' (first | (with_reducible first | refine zA ?_ | refine zK ?_) | ((with_reducible first | refine qaac ?_ | refine qaap (by rw [hP]; exact qad7) ?_); (try rw [hP]); simp -implicitDefEqProofs [l1, q1, q2, qaj6, qaj7, List.length_set, *]) | ((with_reducible refine qaah ?_); (try simp only [qaaj, qaaa, qaae])) | ((with_reducible refine qagc ?_ ?_); (first | omega | (unfold maxLen; omega)); simp -implicitDefEqProofs [l1, q1, q2, qaj6, qaj7, List.length_set, *]) | ((rw [hG.out]; exact qaqn hm rfl (qab9 _ _) (.inr ⟨_, rfl⟩) rfl rfl rfl rfl)) | fail)
 all_goals trace_state
end Go.Proofs.Ytefkifebgeagiaa
