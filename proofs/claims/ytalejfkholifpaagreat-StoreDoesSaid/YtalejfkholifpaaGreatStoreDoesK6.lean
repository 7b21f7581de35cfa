/-
  Texts joined: XTerQ XTerS XPfxP XPfxT XBitsQ XPfxW XPfxX XPfxY XClone XPfxZ XPfxA XEqN XOwn XCsta XPlnF XPlnG XPlnH XCstb XExbC XCstl XRstB XRstC XRstD XRstE XRstF XRstG XRstH XRstI XRstK XRstL XCrst. No condition.
-/
import Derived.WalkSpells
import Derived.RegionTactic
import Derived.BigRegion
import Derived.Deep.RegionLaw
import Derived.Test.YtalejfkholifpaaGreatProg
import Derived.BigQuiet
import Derived.Deep.QuietTactic
import Derived.Deep.RegionHeld3
import Derived.Deep.DrawnRows
import Derived.Outline
import Derived.Laws.StructEq
import Derived.Laws.Pointers
import Derived.ChangeKeysEq
import Derived.Handy
import Derived.KernelRfl
import Derived.Test.YtalejfkholifpaaGreatStoreDoesK5
set_option linter.all false
namespace Go.Proofs.YtalejfkholifpaaGreat
open Go.RowKit
section
attribute [local simp] qaa6 qaa5 qaak qaas qaal qaar qaa3 qaa4 qaae qabh SOp.run SX.ev putd puts argS upds SOp.touch SSt.keep SSt.skip gets geth puth delh idOf SV.cells? setL qac5 qac6 sbin eq0 eq1 eqL qac2 qaby qab0 qaa2 qaa1 qaac qaa7 qabi qaaj qaad FrzOk qaav qaan qaat qaau qaaf qaam qaa8 qaao qaah qaaw qaag frzS frzH frz frz1 frz0 SlotsM ObjsM ObjM rn ren ren1 ren0 qabk qabw qabz qabj qaa9 qabx qab1 CoL qaax qabr dels adds idsH qabc
theorem qa9l : qag8 Tryz.prog 46 = some true := by kernel_rfl
theorem qaqj : qab8 Tryz.prog 46 = some 2 := by kernel_rfl
def qayz (o : Option Entry) : SV := match o with
 | some e => .tup [.agg (qacc e.act e.args), .bool true]
 | none => .tup [.agg (qacc 0 []), .bool false]
theorem qa1d {X : Cx} {sl : Sl} {hp : Hp} {c : qaew} {l : List Entry} {t u nx id n : Nat} {ty : TypeId} {cs ds : List SV} {v r : SV} (hm : X.m = 2) (hid : 2 ≤ id) (hne : t ≠ u) (hv : gets sl t = v) (hN : NoN v) (hu : gets sl u = .ptr id 0) (h : geth hp id = some (.cells ty cs)) (h0 : geth hp 0 = some (.cells (hty c) (hcs c l.length))) (h1 : geth hp 1 = some (.row 38 6 (l.map qaaa))) (ha : qag8 X.P ty = some true) (hn : qab8 X.P ty = some n) (hl : ds.length = n) (e : CoL cs ds) (hr : r = .tup [.agg ds, v]) (hd : ∀ σ, ds.map (Go.Proofs.YtalejfkholifpaaGreat.ren σ) = ds) : QFun X [.cell u ty, .tmp t] 2 r (hobj c l) .ret ⟨sl, hp, nx⟩ := by
 subst hr hl;have hw : Wk X ⟨sl, hp, nx⟩ ⟨[(u, .ptr 2 0), (t, v)], [(0, .cells (hty c) (hcs c l.length)), (1, .row 38 6 (l.map qaaa)), (2, .cells ty ds)], 3⟩ := by
  refine qabd [(2, id)] hm ⟨?_, ?_, trivial⟩ ⟨⟨_, h0, rfl, qae9 c _ rfl⟩, ⟨_, h1, rfl, rfl, by rw [qab9]; exact CoLL.refl _⟩, ⟨_, h, rfl, by rw [hd]; exact e⟩, trivial⟩ ?_ (by simp)
  ·rw [hu]; exact Co.refl _
  ·rw [hv, hN]; exact Co.refl _
  ·have a1 : ¬ (0 = id) := by omega
   have a2 : ¬ (1 = id) := by omega
   have a3 : ¬ (id = 0) := by omega
   have a4 : ¬ (id = 1) := by omega
   simp [qabc, diag, idsH, List.range_succ, a1, a2, a3, a4]
 refine ⟨_, hw, ?_, ⟨rfl, rfl, trivial⟩, by simp⟩;simp [qafc, resL, resV, one_, gets, ha, SOp.run, SX.ev, geth, hne, hne.symm, hn]
theorem qbbi (xs ym ya : List Int) (j : Nat) (h1 : j < xs.length) (h2 : j < ym.length) (h3 : j < ya.length) : ([j].all fun i => bits .and .u64 (el xs i) (el ym i) == el ya i) = (bits .and .u64 xs[j] ym[j] == ya[j]) := by
 simp [qagx xs j h1, qagx ym j h2, qagx ya j h3]
theorem qbi1 (k m : Int) (l : List Entry) (xs : List Int) (h : TInv k l) (hl : l.length ≤ 1000000) (hx : xs.length ≤ 1000000) : SCalls Tryz.prog 143 [.ptr 0 0, nums .u64 xs] (hobj (some (k, m)) l) 2 (qayz (qal1 k l xs)) (hobj (some (k, m)) l) := by
 obtain ⟨F, hF⟩ : ∃ F, F = qal1 k l xs := ⟨_, rfl⟩
 rw [← hF];unfold qal1 at hF;replace hF := Lib.hid hF;have k1 := fun q hq => h_up (qbk9 k m l hl h.small) q hq rfl rfl rfl
 have hp := qaih h;have hlen : ∀ e ∈ qain l, (e.keys.length : Int) = k ∧ (e.masks.length : Int) = k := fun e he => qahs (h.fit e (hp.mem_iff.1 he))
 have hL : (qain l).length ≤ 1000000 := by rw [hp.length_eq]; exact hl
 generalize qain l = A at k1 hlen hL hF;replace hlen := Lib.hid hlen;clear hp h;have hcl : CoL (hcs (some (k, m)) l.length) ((hcs (some (k, m)) l.length).map id) := by rw [List.map_id]; exact CoL.refl _
 refine yG (N := 58) Tryz.func143 qbj5 (by repeat' (first | exact trivial | refine And.intro ?_ ?_ | rfl | decide | exact PureR.ren _)) (qanz (some (k, m)) l) ?_;rintro X hP hN hm;unfold qbj5;unfold hobj at k1 ⊢;unfold nums;by_cases hk : (xs.length : Int) = k
 ·have e1 : ((xs.length : Int) != k) = false := by simpa using hk
  have hF2 : F = A.find? (fitK xs) := by rw [hF.out, if_pos hk]
  replace hF2 := Lib.hid hF2;repeat' (first | ((with_reducible refine qaab ?_); (try rw [hP]); simp -implicitDefEqProofs [hcs, e1, *]) | ((with_reducible refine qaai ?_); (try simp -implicitDefEqProofs [hcs, e1, *])) | refine yA ?_ | with_reducible refine yB ?_ ?_ | ((with_reducible refine yC fun h => ?_); have h' := h; (try simp at h'); (try subst h')) | (refine yR (k1 _ (by simp)) ?_; simp -implicitDefEqProofs [hcs, e1, *]) | exact trivial)
  refine qabf (qaco (fun s (i : Nat) => s.turn [(22, .int .i64 i)] []) (fun i => i ≤ A.length ∧ F = (A.drop i).find? (fitK xs)) (fun i => A.length - i) 0 ?_ ⟨by simp, hF2.out⟩ ?_)
  ·repeat' (first | exact yD | refine yE ?_ | with_reducible refine yB ?_ ?_ | exact trivial)
  rintro J hJ i ⟨h1, h2⟩;unfold qaok;simp only [zT, puth, Nat.reduceEqDiff, reduceIte, Nat.reduceAdd] at h1 h2 ⊢;clear hF2;replace h2 := Lib.hid h2;rcases Nat.lt_or_ge i A.length with hi | hi
  ·have h3 := h2.out;rw [List.drop_eq_getElem_cons hi, List.find?_cons] at h3;obtain ⟨q1, q2⟩ := hlen.out _ (List.getElem_mem hi);have wi : IntKind.i64.wrap ((i : Int) + 1) = (i : Int) + 1 := qabo (by omega) (by omega);obtain ⟨B, hB⟩ : ∃ B, B = fitK xs A[i] := ⟨_, rfl⟩
   rw [← hB] at h3;unfold fitK at hB;generalize hy : A[i] = y at h3 q1 q2 hB;obtain ⟨ya, ym, yl, yp, yc, yr⟩ := y;dsimp only at q1 q2 hB;replace h3 := Lib.hid h3;replace hB := Lib.hid hB;replace q1 := Lib.hid q1;replace q2 := Lib.hid q2;replace hk := Lib.hid hk;repeat' (first | ((with_reducible refine qaab ?_); (try rw [hP]); simp -implicitDefEqProofs [List.getElem?_eq_getElem hi, hy, qaaa, *]) | ((with_reducible refine qaai ?_); (try simp -implicitDefEqProofs [List.getElem?_eq_getElem hi, hy, qaaa, *])) | refine yA ?_ | with_reducible refine yB ?_ ?_ | ((with_reducible refine yC fun h => ?_); have h' := h; (try simp at h'); (try subst h')) | exact trivial)
   have hJo := hJ;refine qabf (qaco (fun s (z : Nat × Bool) => s.turn [(28, .int .i64 z.1), (8, .bool z.2)] []) (fun z => z.1 ≤ xs.length ∧ z.2 = (List.range z.1).all fun i => bits .and .u64 (el xs i) (el ym i) == el ya i) (fun z => xs.length - z.1) (0, true) ?_ ⟨by simp, by simp⟩ ?_)
   ·repeat' (first | exact yD | refine yE ?_ | with_reducible refine yB ?_ ?_ | exact trivial)
   rintro J hJ ⟨j, b⟩ ⟨g1, g2⟩;unfold qaol;simp only [zT, puth, Nat.reduceEqDiff, reduceIte, Nat.reduceAdd] at g1 g2 ⊢;rcases Nat.lt_or_ge j xs.length with hj | hj
   ·have j1 : j < ya.length := by have := q1.out; have := hk.out; omega
    have j2 : j < ym.length := by have := q2.out; have := hk.out; omega
    have wj : IntKind.i64.wrap ((j : Int) + 1) = (j : Int) + 1 := qabo (by omega) (by omega);have g3 : ((List.range (j + 1)).all fun i => bits .and .u64 (el xs i) (el ym i) == el ya i) = (b && (bits .and .u64 xs[j] ym[j] == ya[j])) := by
     rw [List.range_succ, List.all_append, ← g2, qbbi xs ym ya j hj j2 j1]
    clear g2;replace g3 := Lib.hid g3;cases b
    all_goals
     repeat' (first | ((with_reducible first | refine qaab ?_ | refine qaaz (by rw [hP]; exact mixed) ?_); (try rw [hP]); simp -implicitDefEqProofs [nums, wj, List.getElem?_eq_getElem hj, List.getElem?_eq_getElem j1, List.getElem?_eq_getElem j2, *]) | ((with_reducible refine qaai ?_); (try simp -implicitDefEqProofs [nums, wj, List.getElem?_eq_getElem hj, List.getElem?_eq_getElem j1, List.getElem?_eq_getElem j2, *])) | refine yA ?_ | with_reducible refine yB ?_ ?_ | ((with_reducible refine yC fun h => ?_); have h' := h; (try simp at h'); (try subst h')) | exact yD | refine yE ?_ | ((refine qabs hJ (j + 1, ?_) ?_ ?_ ?_; rotate_left 1; (with_reducible refine qabd [] hm ?_ ?_ ?_ ?_) <;> (try simp only [zT, puth, Nat.reduceEqDiff, reduceIte, Nat.reduceAdd]))) | exact trivial)
     all_goals first | exact ⟨by omega, by rw [g3.out]; rfl⟩ | omega | trace_state
   ·obtain rfl : j = xs.length := by omega
    have hb2 : b = B := by rw [g2, hB.out]
    subst hb2;clear g2;cases b
    all_goals
     repeat' (first | ((with_reducible refine qaab ?_); (try rw [hP]); simp -implicitDefEqProofs [nums, wi, *]) | ((with_reducible first | refine qaai ?_ | refine qabv ?_); (try simp -implicitDefEqProofs [nums, wi, *])) | refine yA ?_ | with_reducible refine yB ?_ ?_ | ((with_reducible refine yC fun h => ?_); have h' := h; (try simp at h'); (try subst h')) | exact yD | refine yE ?_ | ((refine qa1d (c := some (k, m)) (l := l) (v := .bool true) (ds := qacc yc yr) hm (by decide) (by decide) rfl (qaju _) rfl rfl rfl rfl (by rw [hP]; exact qa9l) (by rw [hP]; exact qaqj) rfl (CoL.refl _) ?_ (fun σ => rfl))) | ((refine qabs hJo (i + 1) ?_ ?_ ?_; (with_reducible refine qabd [] hm ?_ ?_ ?_ ?_) <;> (try simp only [zT, puth, Nat.reduceEqDiff, reduceIte, Nat.reduceAdd]))) | exact trivial)
     all_goals first | exact ⟨by omega, by rw [h3.out]⟩ | (rw [h3.out]; rfl) | omega | trace_state
  ·have h4 : F = none := by rw [h2.out, List.drop_eq_nil_of_le hi]; rfl
   subst h4;repeat' (first | ((with_reducible refine qaab ?_); (try rw [hP]); simp -implicitDefEqProofs [Nat.not_lt.2 hi, *]) | ((with_reducible refine qabv ?_); (try simp -implicitDefEqProofs [Nat.not_lt.2 hi, *])) | refine yA ?_ | with_reducible refine yB ?_ ?_ | ((with_reducible refine yC fun h => ?_); have h' := h; (try simp at h'); (try subst h')) | ((refine qa1d (c := some (k, m)) (l := l) (v := .bool false) (ds := qacc 0 []) hm (by decide) (by decide) rfl (qaju _) rfl rfl rfl rfl (by rw [hP]; exact qa9l) (by rw [hP]; exact qaqj) rfl ⟨Co.refl _, Co.nilsl _, trivial⟩ rfl (fun σ => rfl))) | exact trivial)
 ·have e1 : ((xs.length : Int) != k) = true := by simpa using hk
  have hF2 : F = none := by rw [hF.out, if_neg hk]
  subst hF2;repeat' (first | ((with_reducible refine qaab ?_); (try rw [hP]); simp -implicitDefEqProofs [hcs, e1, *]) | refine yA ?_ | with_reducible refine yB ?_ ?_ | ((with_reducible refine yC fun h => ?_); have h' := h; (try simp at h'); (try subst h')) | ((refine qa1d (c := some (k, m)) (l := l) (v := .bool false) (ds := qacc 0 []) hm (by decide) (by decide) rfl (qaju _) rfl rfl rfl rfl (by rw [hP]; exact qa9l) (by rw [hP]; exact qaqj) rfl ⟨Co.refl _, Co.nilsl _, trivial⟩ rfl (fun σ => rfl))) | exact trivial)
theorem qayy (σ : Nat → Nat) (o : Option Entry) : Go.Proofs.YtalejfkholifpaaGreat.ren σ (qayz o) = qayz o := by cases o <;> rfl
theorem qaq9 (c : qaew) (l : List Entry) : ∀ i ∈ idsH (hobj c l), i < 2 := by intro i hi; simp [idsH, hobj] at hi; omega
theorem tfind_a (k m : Int) (l : List Entry) (xs : List Int) (h : TInv k l) (hl : l.length ≤ 1000000) (hx : xs.length ≤ 1000000) (id q : Nat) : SCalls Tryz.prog 143 [.ptr id 0, nums .u64 xs] [(id, .abs (qad1 (some (k, m)) l))] q (qayz (qal1 k l xs)) [(id, .abs (qad1 (some (k, m)) l))] :=
 qah3 (qbi1 k m l xs h hl hx).1 (by decide) (fun σ h => qagm _ _ (h 1 (by decide))) (qaq9 _ _) (qbi1 k m l xs h hl hx) (fun _ => rfl) (fun σ => qayy σ _) id q
theorem tall_a (k m : Int) (l : List Entry) (h : TInv k l) (hl : l.length ≤ 1000000) (id q : Nat) : SCalls Tryz.prog 140 [.ptr id 0] [(id, .abs (qad1 (some (k, m)) l))] q (ents (qain l)) [(id, .abs (qad1 (some (k, m)) l))] :=
 qah3 (qbk9 k m l hl h.small).1 (by decide) (fun σ h => qagm _ _ (h 1 (by decide))) (qaq9 _ _) (qbk9 k m l hl h.small) (fun _ => rfl) (fun σ => rfl) id q
theorem tlen_a (k m : Int) (l : List Entry) (id q : Nat) : SCalls Tryz.prog 132 [.ptr id 0] [(id, .abs (qad1 (some (k, m)) l))] q (.int .i64 l.length) [(id, .abs (qad1 (some (k, m)) l))] :=
 qah3 (tlen_o k m l 2).1 (by decide) (fun σ h => qagm _ _ (h 1 (by decide))) (qaq9 _ _) (tlen_o k m l 2) (fun _ => rfl) (fun σ => rfl) id q
theorem tadd_a (k m : Int) (l : List Entry) (e : Entry) (h : TInv k l) (hl : l.length < 1000000) (he : qacd e) (id q : Nat) (hq : id < q) : SCalls Tryz.prog 139 [.ptr id 0, .agg (qaaa e)] [(id, .abs (qad1 (some (k, m)) l))] q (.int .i64 (addV k m l e)) [(id, .abs (qad1 (some (k, m)) (addR k m l e)))] :=
 qah4 (tadd_s k m l e hl h.small h.fit he) (fun _ => rfl) (fun _ => rfl) rfl id q hq
theorem tdrop_a (k m : Int) (l : List Entry) (e : Entry) (h : TInv k l) (hl : l.length ≤ 1000000) (he : qacd e) (id q : Nat) (hq : id < q) : SCalls Tryz.prog 142 [.ptr id 0, .agg (qaaa e)] [(id, .abs (qad1 (some (k, m)) l))] q (.int .i64 (dropV k l e)) [(id, .abs (qad1 (some (k, m)) (qave k l e)))] :=
 qah4 (tdrop_s k m l e hl h.small he) (fun _ => rfl) (fun _ => rfl) rfl id q hq
theorem tchg_a (k m : Int) (l : List Entry) (e : Entry) (h : TInv k l) (hl : l.length ≤ 1000000) (he : qacd e) (id q : Nat) (hq : id < q) : SCalls Tryz.prog 141 [.ptr id 0, .agg (qaaa e)] [(id, .abs (qad1 (some (k, m)) l))] q (.int .i64 (dropV k l e)) [(id, .abs (qad1 (some (k, m)) (chgR k l e)))] :=
 qah4 (tchg_s k m l e hl h.small he) (fun _ => rfl) (fun _ => rfl) rfl id q hq
theorem tnew_a (k m : Int) (q : Nat) : SCalls Tryz.prog 35 [.int .i64 k, .int .i64 m] [] q (.ptr q 0) [(q, .abs (qad1 (some (k, m)) []))] := by
 have e0 : sg [] q 0 = q := rfl;exact qacp [] (tnew_s k m) rfl (by simp) (by simp) rfl trivial (by simp [idsH]) (by simp [Go.Proofs.YtalejfkholifpaaGreat.ren, ren1, ren0, e0]) rfl ⟨⟨.abs (qad1 (some (k, m)) []), by rw [e0]; simp [geth], rfl⟩, trivial⟩ (by simp [idsH]) (by simp [idsH, e0])
end
def pre (W : Nat) (key : Int) (i : Nat) : Int := key / 2 ^ (W - i)
def kbit (W : Nat) (key : Int) (i : Nat) : Int := key / 2 ^ (W - 1 - i) % 2
theorem qae6 (n : Nat) : (0 : Int) < 2 ^ n := Int.pow_pos (by decide)
theorem qaea (W : Nat) (key : Int) (i : Nat) : 0 ≤ kbit W key i ∧ kbit W key i ≤ 1 := by unfold kbit; omega
theorem qamb {W : Nat} {key : Int} (h0 : 0 ≤ key) (h1 : key < 2 ^ W) : pre W key 0 = 0 := by
 unfold pre; rw [Nat.sub_zero]; exact Int.ediv_eq_zero_of_lt h0 h1
theorem qag3 {W i : Nat} (key : Int) (hi : i < W) : pre W key (i + 1) = 2 * pre W key i + kbit W key i := by
 unfold pre kbit;rw [show W - (i + 1) = W - 1 - i by omega, show W - i = (W - 1 - i) + 1 by omega];generalize W - 1 - i = m;rw [Int.pow_succ, ← Int.ediv_ediv_of_nonneg (Int.le_of_lt (qae6 m))];omega
theorem qank {W : Nat} {key : Int} (h0 : 0 ≤ key) (i : Nat) : 0 ≤ pre W key i := Int.ediv_nonneg h0 (Int.le_of_lt (qae6 _))
theorem pre_lt {W i : Nat} {key : Int} (h1 : key < 2 ^ W) (hi : i ≤ W) : pre W key i < 2 ^ i := by
 unfold pre;refine Int.ediv_lt_of_lt_mul (qae6 _) ?_;rw [← Int.pow_add, show i + (W - i) = W by omega];exact h1
theorem qany {W n : Nat} {key : Int} (h : key % 2 ^ (W - n) = 0) : key = pre W key n * 2 ^ (W - n) := by
 unfold pre;have := Int.emod_add_mul_ediv key (2 ^ (W - n));rw [h, Int.zero_add, Int.mul_comm] at this;exact this.symm
def qafj (width key n : Int) : Bool := decide (1 ≤ width ∧ width ≤ 64 ∧ 0 ≤ n ∧ n ≤ width ∧ key < 2 ^ width.toNat ∧ key % 2 ^ (width - n).toNat = 0)
structure Dat where
 there : Bool
 act : Int
 args : List Int
def qam1 : Dat := ⟨false, 0, []⟩
def ptr (o : Option Nat) : Value := .pointer (o.map fun g => ⟨g, 0, none⟩)
theorem qadp : ptr none = .pointer none := rfl
theorem qacz (g : Nat) : ptr (some g) = .pointer (some ⟨g, 0, none⟩) := rfl
def NodeAt (w : World) (M : Nat → Prop) (adr : Nat → Int → Option Nat) (i : Nat) (v : Int) (g : Nat) (d : Dat) : Prop :=
 ∃ ao n c, Blk w g 103 #[.bool d.there, .int .i64 d.act, .slice ao n c, ptr (adr (i + 1) (2 * v)), ptr (adr (i + 1) (2 * v + 1))] ∧ RdL (Lay.int .u64) (fun k => ¬ M k) w ao n c d.args ∧ Fits .i64 d.act
structure Trie (w : World) (M : Nat → Prop) (adr : Nat → Int → Option Nat) (dat : Nat → Int → Dat) : Prop where
 node : ∀ i v g, adr i v = some g → NodeAt w M adr i v g (dat i v) ∧ ¬ M g
 inj : ∀ i v j u g, adr i v = some g → adr j u = some g → i = j ∧ v = u
 up : ∀ i v, adr (i + 1) v ≠ none → adr i (v / 2) ≠ none
 lt : ∀ k, M k → k < w.heap.size
theorem NodeAt.step {w w' : World} {M : Nat → Prop} {adr : Nat → Int → Option Nat} {i : Nat} {v : Int} {g : Nat} {d : Dat} (h : NodeAt w M adr i v g d) {S : Nat → Prop} (hs : Step S w w') (hM : ∀ k, S k → ¬ M k) (hg : ¬ S g) : NodeAt w' M adr i v g d := by
 obtain ⟨ao, n, c, h1, h2, h3⟩ := h;exact ⟨ao, n, c, (hs.block g h1.lt hg).trans h1, h2.step (hs.mono hM), h3⟩
theorem Trie.step {w w' : World} {M : Nat → Prop} {adr : Nat → Int → Option Nat} {dat : Nat → Int → Dat} (h : Trie w M adr dat) {S : Nat → Prop} (hs : Step S w w') (hM : ∀ k, S k → ¬ M k) (hg : ∀ i v g, adr i v = some g → ¬ S g) : Trie w' M adr dat :=
 ⟨fun i v g e => ⟨(h.node i v g e).1.step hs hM (hg i v g e), (h.node i v g e).2⟩, h.inj, h.up, fun k hk => Nat.lt_of_lt_of_le (h.lt k hk) hs.size⟩
theorem Trie.below {w w' : World} {M : Nat → Prop} {adr : Nat → Int → Option Nat} {dat : Nat → Int → Dat} (h : Trie w M adr dat) (hb : Below w.heap.size w w') : Trie w' M adr dat :=
 h.step (S := fun _ => False) (Step.of hb) (fun _ h => h.elim) (fun _ _ _ _ h => h)
theorem Trie.cells {w : World} {M : Nat → Prop} {adr : Nat → Int → Option Nat} {dat : Nat → Int → Dat} (h : Trie w M adr dat) {i : Nat} {v : Int} {g : Nat} (e : adr i v = some g) :
  ∃ ao n c, w.cell? ⟨g, 0, none⟩ = some (.bool (dat i v).there) ∧ w.cell? ⟨g, 1, none⟩ = some (.int .i64 (dat i v).act) ∧ w.cell? ⟨g, 2, none⟩ = some (.slice ao n c) ∧ w.cell? ⟨g, 3, none⟩ = some (ptr (adr (i + 1) (2 * v))) ∧ w.cell? ⟨g, 4, none⟩ = some (ptr (adr (i + 1) (2 * v + 1))) ∧
   RdL (Lay.int .u64) (fun k => ¬ M k) w ao n c (dat i v).args ∧ g < w.heap.size ∧ (∀ j, w.frozen? ⟨g, j, none⟩ = false) := by
 obtain ⟨⟨ao, n, c, h1, h2, _⟩, _⟩ := h.node i v g e;exact ⟨ao, n, c, by rw [h1.cell]; rfl, by rw [h1.cell]; rfl, by rw [h1.cell]; rfl, by rw [h1.cell]; rfl, by rw [h1.cell]; rfl, h2, h1.lt, fun j => h1.frozen j⟩
theorem Trie.none_up {w : World} {M : Nat → Prop} {adr : Nat → Int → Option Nat} {dat : Nat → Int → Dat} (h : Trie w M adr dat) {W : Nat} {key : Int} {i j : Nat} (hij : i ≤ j) (hj : j ≤ W) (hn : adr i (pre W key i) = none) : adr j (pre W key j) = none := by
 obtain ⟨d, rfl⟩ := Nat.exists_eq_add_of_le hij;clear hij;induction d with
 | zero => exact hn
 | succ d ih =>
  have ih := ih (by omega);cases e : adr (i + d + 1) (pre W key (i + d + 1)) with
  | none => rfl
  | some g =>
   have := h.up (i + d) (pre W key (i + d + 1)) (by rw [e]; simp);have e2 : pre W key (i + d + 1) / 2 = pre W key (i + d) := by rw [qag3 key (by omega)]; have := qaea W key (i + d); omega
   rw [e2, ih] at this;exact absurd rfl this
structure Pfx (w : World) (gt : Nat) (width most n : Int) (M : Nat → Prop) (adr : Nat → Int → Option Nat) (dat : Nat → Int → Dat) : Prop where
 blk : Blk w gt 105 #[.int .i64 width, .int .i64 most, .int .i64 n, ptr (adr 0 0)]
 trie : Trie w M adr dat
 out : ¬ M gt
 root : adr 0 0 ≠ none
theorem Pfx.ne {w : World} {gt : Nat} {width most n : Int} {M : Nat → Prop} {adr : Nat → Int → Option Nat} {dat : Nat → Int → Dat} (h : Pfx w gt width most n M adr dat) {i : Nat} {v : Int} {g : Nat} (e : adr i v = some g) : g ≠ gt := by
 obtain ⟨⟨ao, k, c, h1, _⟩, _⟩ := h.trie.node i v g e;intro he;subst he;have h2 := h.blk;unfold Blk at h1 h2;rw [h1] at h2;injection h2 with h2
 injection h2 with _ h3
 exact absurd h3 (by decide)
theorem qa9h (v w : Int) (h0 : 0 ≤ v) (h1 : v ≤ 18446744073709551615) (hw0 : 1 ≤ w) (hw : w ≤ 64) : bits .and .u64 v (ones w) = v % 2 ^ w.toNat := by
 have hr := qa0d w;unfold ones at hr ⊢;rw [if_pos ⟨hw0, hw⟩] at hr ⊢;obtain ⟨a, rfl⟩ := Int.eq_ofNat_of_zero_le h0;have hp : 0 < 2 ^ w.toNat := Nat.two_pow_pos _;have e1 : qa9u w.toNat = ((2 ^ w.toNat - 1 : Nat) : Int) := by
  unfold qa9u;have : ((2 ^ w.toNat : Nat) : Int) = (2 : Int) ^ w.toNat := by simp
  omega
 rw [e1] at hr ⊢;rw [u64_and_nat a _ (by omega) (by omega), Nat.and_two_pow_sub_one_eq_mod];simp
section
attribute [local go_sem ↓] Go.wp_at_zero Go.wp_at_succ
theorem qadt {x : Int} (h : -9223372036854775808 ≤ x) (h2 : x ≤ 9223372036854775807) : IntKind.i64.wrap x = x := by
 simp [IntKind.wrap, IntKind.bits, IntKind.signed, Int.bmod]; omega
theorem qanl (gt : Nat) (width most n : Int) (M : Nat → Prop) (adr : Nat → Int → Option Nat) (dat : Nat → Int → Dat) (w : World) (h : Pfx w gt width most n M adr dat) :
  Calls Tryz.prog 115 #[.pointer (some ⟨gt, 0, none⟩)] w fun e w' => e = .returned (.int .i64 n) ∧ w = w' := by
 have h0 := h.blk.cell 2;simp at h0;have hz := h.blk.lt;go_enter Tryz.func115, Tryz.ntmps115
 go_wp2_with fail
 go_ret
 exact ⟨rfl, rfl⟩
theorem qaf5 (gt : Nat) (W i : Nat) (key most n : Int) (M : Nat → Prop) (adr : Nat → Int → Option Nat) (dat : Nat → Int → Dat) (w : World) (h : Pfx w gt (W : Int) most n M adr dat) (hW : W ≤ 64) (hi : i < W) (hk : Fits .u64 key) :
  Calls Tryz.prog 131 #[.pointer (some ⟨gt, 0, none⟩), .int .u64 key, .int .i64 (i : Int)] w fun e w' => e = .returned (.int .i64 (kbit W key i)) ∧ w = w' := by
 have h0 := h.blk.cell 0;simp at h0;have hz := h.blk.lt;have hk' := hk.u64;have hcode : bits .and .u64 (key / 2 ^ (W - 1 - i)) 1 = kbit W key i := qap4 key hk'.1 hk'.2 (W - 1 - i);have hr := qaea W key i;have hw : IntKind.i64.wrap (kbit W key i) = kbit W key i := qadt (by omega) (by omega);have H := Lib.hid h;clear h;go_enter Tryz.func131, Tryz.ntmps131
 go_wp2_with fail
 go_ret
 refine ⟨qazq ?_, rfl⟩;first | rfl | (rw [hcode]; exact hw) | exact hw | (simp only [hw]; done)
set_option maxRecDepth 100000 in
set_option maxHeartbeats 2000000 in
theorem qacv (gt : Nat) (width key k most n : Int) (M : Nat → Prop) (adr : Nat → Int → Option Nat) (dat : Nat → Int → Dat) (w : World) (h : Pfx w gt width most n M adr dat) (hw : Fits .i64 width) (hk : Fits .i64 k) (hkey : Fits .u64 key) :
  Calls Tryz.prog 127 #[.pointer (some ⟨gt, 0, none⟩), .int .u64 key, .int .i64 k] w fun e w' => e = .returned (.bool (qafj width key k)) ∧ w = w' := by
 have h0 := h.blk.cell 0;simp at h0;have hz := h.blk.lt;have hk' := hkey.u64;have hwi := hw.i64;have hki := hk.i64;clear h;by_cases c1 : width < 1
 ·have q : qafj width key k = false := by unfold qafj; rw [decide_eq_false_iff_not]; omega
  have Q := Lib.hid q;clear q;go_enter Tryz.func127, Tryz.ntmps127
  go_wp2_with fail
  go_ret
  exact ⟨by rw [Q.out]; rfl, rfl⟩
 have c1' : 1 ≤ width := by omega
 by_cases c2 : 64 < width
 ·have q : qafj width key k = false := by unfold qafj; rw [decide_eq_false_iff_not]; omega
  have Q := Lib.hid q;clear q;go_enter Tryz.func127, Tryz.ntmps127
  go_wp2_with fail
  go_ret
  exact ⟨by rw [Q.out]; rfl, rfl⟩
 have c2' : width ≤ 64 := by omega
 by_cases c3 : k < 0
 ·have q : qafj width key k = false := by unfold qafj; rw [decide_eq_false_iff_not]; omega
  have Q := Lib.hid q;clear q;go_enter Tryz.func127, Tryz.ntmps127
  go_wp2_with fail
  go_ret
  exact ⟨by rw [Q.out]; rfl, rfl⟩
 have c3' : 0 ≤ k := by omega
 by_cases c4 : width < k
 ·have q : qafj width key k = false := by unfold qafj; rw [decide_eq_false_iff_not]; omega
  have Q := Lib.hid q;clear q;go_enter Tryz.func127, Tryz.ntmps127
  go_wp2_with fail
  go_ret
  exact ⟨by rw [Q.out]; rfl, rfl⟩
 have c4' : k ≤ width := by omega
 have hon : ones width = 2 ^ width.toNat - 1 := by unfold ones; rw [if_pos ⟨c1', c2'⟩]; rfl
 by_cases c5 : ones width < key
 ·have q : qafj width key k = false := by unfold qafj; rw [decide_eq_false_iff_not]; omega
  have Q := Lib.hid q;clear q hon;go_enter Tryz.func127, Tryz.ntmps127
  go_wp2_with (go_at_call 49; refine (qake _ _ hw).mono ?_; rintro e w' ⟨rfl, rfl⟩)
  go_ret
  exact ⟨by rw [Q.out]; rfl, rfl⟩
 have c5' : key ≤ ones width := by omega
 by_cases c6 : k = width
 ·have q : qafj width key k = true := by
   unfold qafj; rw [decide_eq_true_iff]
   subst c6;refine ⟨c1', c2', c3', Int.le_refl _, by omega, by simp⟩
  have Q := Lib.hid q;have q6 : (k == width) = true := by rw [beq_iff_eq]; exact c6
  clear q hon c6;go_enter Tryz.func127, Tryz.ntmps127
  go_wp2_with (go_at_call 49; refine (qake _ _ hw).mono ?_; rintro e w' ⟨rfl, rfl⟩)
  go_ret
  exact ⟨by rw [Q.out]; rfl, rfl⟩
 have q6 : (k == width) = false := by rw [beq_eq_false_iff_ne]; exact c6
 have hs : IntKind.i64.wrap (width - k) = width - k := qadt (by omega) (by omega);have hA : bits .and .u64 key (ones (width - k)) = key % 2 ^ (width - k).toNat := qa9h key (width - k) hk'.1 hk'.2 (by omega) (by omega);have hf2 : Fits .i64 (width - k) := Fits.of_i64 (by omega) (by omega);obtain ⟨r, hr⟩ : ∃ r, key % 2 ^ (width - k).toNat = r := ⟨_, rfl⟩
 have hq : qafj width key k = (r == 0) := by
  unfold qafj;rw [← hr, Bool.eq_iff_iff, decide_eq_true_iff, beq_iff_eq];exact ⟨fun h => h.2.2.2.2.2, fun h => ⟨c1', c2', c3', c4', by omega, h⟩⟩
 rw [hr] at hA;have Q := Lib.hid hq;clear hq hon c6 hr;go_enter Tryz.func127, Tryz.ntmps127
 go_wp2_with fail
 refine (qake width _ hw).mono ?_;rintro e w' ⟨rfl, rfl⟩;go_wp2_with fail
 refine (qake (width - k) _ hf2).mono ?_;rintro e w' ⟨rfl, rfl⟩;go_wp2_with fail
 go_ret
 exact ⟨by rw [Q.out]; rfl, rfl⟩
end
section
attribute [local go_sem ↓] Go.wp_at_zero Go.wp_at_succ
theorem qaee {P : Program} {f : FuncId} {args : Array Value} {w : World} {n : Nat} {v : Value}
  (h : Calls P f args (w.drewN n) fun e w' => e = .returned v ∧ w.drewN n = w') : Calls P f args (w.drewN n) fun e w'' => e = .returned v ∧ ∃ m, w'' = w.drewN m :=
 h.mono fun _ _ ⟨he, hm⟩ => ⟨he, n, hm.symm⟩
theorem Pfx.below {w w' : World} {gt : Nat} {width most n : Int} {M : Nat → Prop} {adr : Nat → Int → Option Nat} {dat : Nat → Int → Dat} (h : Pfx w gt width most n M adr dat) (hb : Below w.heap.size w w') : Pfx w' gt width most n M adr dat :=
 ⟨h.blk.below hb h.blk.lt, h.trie.below hb, h.out, h.root⟩
set_option maxRecDepth 100000 in
set_option maxHeartbeats 2000000 in
theorem qaix (gt : Nat) (W k : Nat) (key most n : Int) (M : Nat → Prop) (adr : Nat → Int → Option Nat) (dat : Nat → Int → Dat) (w : World) (h : Pfx w gt (W : Int) most n M adr dat) (hW : W ≤ 64) (hk : k ≤ W) (hkey : Fits .u64 key) (hlt : key < 2 ^ W) :
  Calls Tryz.prog 128 #[.pointer (some ⟨gt, 0, none⟩), .int .u64 key, .int .i64 (k : Int), .bool false] w fun e w' => e = .returned (ptr (adr k (pre W key k))) ∧ Below w.heap.size w w' := by
 have h0 := h.blk.cell 3;simp at h0;have hz := h.blk.lt;have H := Lib.hid h;have hup := fun j (h1 : j ≤ k) (e : adr j (pre W key j) = none) => h.trie.none_up h1 hk e
 have HU := Lib.hid hup;have p0 := qamb (W := W) hkey.u64.1 hlt;obtain ⟨P, hP⟩ : ∃ P, ptr (adr k (pre W key k)) = P := ⟨_, rfl⟩
 obtain ⟨R, hR⟩ : ∃ R, ptr (adr 0 0) = R := ⟨_, rfl⟩
 rw [hR] at h0;rw [hP];have HP := Lib.hid hP;have HR := Lib.hid hR;have HP0 := Lib.hid p0;clear h hup hP hR p0;go_enter Tryz.func128, Tryz.ntmps128
 go_wp2_with fail
 go_loopw [9, 10] (fun p i wr => ∃ j : Nat, j ≤ k ∧ i = .int .i64 j ∧ p = ptr (adr j (pre W key j)) ∧ Below w.heap.size w wr) (fun _ i _ => k - (intOf i).toNat)
 case atStart => exact ⟨0, Nat.zero_le _, rfl, by rw [HP0.out, HR.out], rf _⟩
 case round =>
  obtain ⟨j, hj, rfl, rfl, hbr⟩ := hrel;by_cases hjk : j < k
  ·cases e : adr j (pre W key j) with
   | none =>
    have E : Hid (P = .pointer none) := by show P = _; rw [← HP.out, HU.out j hj e]; rfl
    rw [qadp];go_wp2_with fail
    go_ret
    exact ⟨by rw [E.out]; rfl, hbr⟩
   | some g =>
    rw [qacz];obtain ⟨ao, an, ac, _, _, _, b3, b4, _, hg, _⟩ := (H.out.below hbr).trie.cells e;have hs := qag3 key (show j < W by omega);have hpr := Lib.hid hs;have HB := fun w' (hb : Below w.heap.size w w') => qaf5 gt W j key most n M adr dat w' (H.out.below hb) hW (by omega) hkey
    have hkb : kbit W key j = 0 ∨ kbit W key j = 1 := by have := qaea W key j; omega
    have hgz : g < wr.heap.size := hg;clear hs e hg;rcases hkb with hb | hb
    ·rw [hb] at HB;have HB2 := Lib.hid HB;have hn : Hid (pre W key (j + 1) = 2 * pre W key j) := by show _ = _; rw [hpr.out, hb]; omega
     clear HB hb b4;obtain ⟨q, hq⟩ : ∃ q, adr (j + 1) (2 * pre W key j) = q := ⟨_, rfl⟩
     rw [hq] at b3;have HQ := Lib.hid hq;clear hq;cases q with
     | none =>
      rw [qadp] at b3;go_wp2_with fail
      go_big_quiet ((go_at_call 131; exact qaee (HB2.out _ (qaa0 hbr _))))
      go_wp2_with fail
      go_roundw
      case rel => exact ⟨j + 1, by omega, by go_num, by rw [hn.out, HQ.out]; rfl, qaa0 hbr _⟩
      case measure => simp [intOf]; omega
     | some g2 =>
      rw [qacz] at b3;go_wp2_with fail
      go_big_quiet ((go_at_call 131; exact qaee (HB2.out _ (qaa0 hbr _))))
      go_wp2_with fail
      go_roundw
      case rel => exact ⟨j + 1, by omega, by go_num, by rw [hn.out, HQ.out]; rfl, qaa0 hbr _⟩
      case measure => simp [intOf]; omega
    ·rw [hb] at HB;have HB2 := Lib.hid HB;have hn : Hid (pre W key (j + 1) = 2 * pre W key j + 1) := by show _ = _; rw [hpr.out, hb]
     clear HB hb b3;obtain ⟨q, hq⟩ : ∃ q, adr (j + 1) (2 * pre W key j + 1) = q := ⟨_, rfl⟩
     rw [hq] at b4;have HQ := Lib.hid hq;clear hq;cases q with
     | none =>
      rw [qadp] at b4;go_wp2_with fail
      go_big_quiet ((go_at_call 131; exact qaee (HB2.out _ (qaa0 hbr _))))
      go_wp2_with fail
      go_roundw
      case rel => exact ⟨j + 1, by omega, by go_num, by rw [hn.out, HQ.out]; rfl, qaa0 hbr _⟩
      case measure => simp [intOf]; omega
     | some g2 =>
      rw [qacz] at b4;go_wp2_with fail
      go_big_quiet ((go_at_call 131; exact qaee (HB2.out _ (qaa0 hbr _))))
      go_wp2_with fail
      go_roundw
      case rel => exact ⟨j + 1, by omega, by go_num, by rw [hn.out, HQ.out]; rfl, qaa0 hbr _⟩
      case measure => simp [intOf]; omega
  ·obtain rfl : j = k := by omega
   rw [HP.out];go_wp2_with fail
   go_ret
   exact ⟨rfl, hbr⟩
end
section
attribute [local go_sem ↓] Go.wp_at_zero Go.wp_at_succ
def qafv (adr : Nat → Int → Option Nat) (j : Nat) (u : Int) (o : Option Nat) : Nat → Int → Option Nat := fun i v => if i = j ∧ v = u then o else adr i v
theorem qab7 (adr : Nat → Int → Option Nat) (j : Nat) (u : Int) (o : Option Nat) : qafv adr j u o j u = o := by unfold qafv; rw [if_pos ⟨rfl, rfl⟩]
theorem qabp {adr : Nat → Int → Option Nat} {j i : Nat} {u v : Int} {o : Option Nat} (h : ¬ (i = j ∧ v = u)) : qafv adr j u o i v = adr i v := by unfold qafv; rw [if_neg h]
def qaft (dat : Nat → Int → Dat) (j : Nat) (u : Int) (d : Dat) : Nat → Int → Dat := fun i v => if i = j ∧ v = u then d else dat i v
theorem qae0 (dat : Nat → Int → Dat) (j : Nat) (u : Int) (d : Dat) : qaft dat j u d j u = d := by unfold qaft; rw [if_pos ⟨rfl, rfl⟩]
theorem qad5 {dat : Nat → Int → Dat} {j i : Nat} {u v : Int} {d : Dat} (h : ¬ (i = j ∧ v = u)) : qaft dat j u d i v = dat i v := by unfold qaft; rw [if_neg h]
def qa9w : Array Value := #[.bool false, .int .i64 0, .slice none 0 0, .pointer none, .pointer none]
theorem Pfx.grow {w : World} {gt : Nat} {width most n : Int} {M : Nat → Prop} {adr : Nat → Int → Option Nat} {dat : Nat → Int → Dat} (h : Pfx w gt width most n M adr dat) {j g c : Nat} {u : Int} (hg : adr j u = some g) (hc : c = 0 ∨ c = 1) (hn : adr (j + 1) (2 * u + c) = none) :
  Pfx ((w.setCell ⟨g, 3 + c, none⟩ (.pointer (some ⟨w.heap.size, 0, none⟩))).alloc (.cells qa9w 103)) gt width most n M (qafv adr (j + 1) (2 * u + c) (some w.heap.size)) (qaft dat (j + 1) (2 * u + c) qam1) := by
 have hgt : gt ≠ g := fun e => h.ne hg e.symm
 have hMg : ¬ M g := (h.trie.node _ _ _ hg).2;have hwM : ¬ M w.heap.size := fun hk => Nat.lt_irrefl _ (h.trie.lt _ hk)
 have hs : Step (fun k => k = g) w ((w.setCell ⟨g, 3 + c, none⟩ (.pointer (some ⟨w.heap.size, 0, none⟩))).alloc (.cells qa9w 103)) := (Step.set (fun k => k = g) w ⟨g, 3 + c, none⟩ rfl _).trans (Step.alloc _ _ _);refine ⟨?_, ⟨?_, ?_, ?_, fun k hk => Nat.lt_of_lt_of_le (h.trie.lt k hk) hs.size⟩, h.out, ?_⟩
 ·rw [qabp (by omega)];exact (h.blk.far (p := ⟨g, 3 + c, none⟩) hgt _).alloc _
 ·intro i v b e;by_cases hx : i = j + 1 ∧ v = 2 * u + c
  ·obtain ⟨rfl, rfl⟩ := hx;rw [qab7] at e;cases e
   refine ⟨?_, hwM⟩;rw [qae0];refine ⟨none, 0, 0, ?_, RdL.nil_ _ _ _, Fits.of_i64 (by decide) (by decide)⟩;have hch : ∀ d : Int, d = 0 ∨ d = 1 → adr (j + 1 + 1) (2 * (2 * u + c) + d) = none := fun d hd => by
    cases e : adr (j + 1 + 1) (2 * (2 * u + c) + d) with
    | none => rfl
    | some x =>
     have := h.trie.up (j + 1) (2 * (2 * u + c) + d) (by rw [e]; simp);rw [show (2 * (2 * u + c) + d) / 2 = 2 * u + c by omega, hn] at this;exact absurd rfl this
   have h1 := hch 0 (.inl rfl);have h2 := hch 1 (.inr rfl);rw [Int.add_zero] at h1;rw [qabp (by omega), qabp (by omega), h1, h2];have := Blk.new (w.setCell ⟨g, 3 + c, none⟩ (.pointer (some ⟨w.heap.size, 0, none⟩))) 103 qa9w;rw [show (w.setCell ⟨g, 3 + c, none⟩ (.pointer (some ⟨w.heap.size, 0, none⟩))).heap.size = w.heap.size by simp [World.setCell]] at this;exact this
  ·rw [qabp hx] at e;rw [qad5 hx];obtain ⟨⟨ao, an, ac, b1, b2, b3⟩, hM⟩ := h.trie.node i v b e;refine ⟨⟨ao, an, ac, ?_, b2.step (hs.mono fun k hk => by subst hk; exact hMg), b3⟩, hM⟩;by_cases hij : i = j ∧ v = u
   ·obtain ⟨rfl, rfl⟩ := hij;rw [hg] at e;cases e
    have B := (b1.set_ (3 + c) (.pointer (some ⟨w.heap.size, 0, none⟩))).alloc (.cells qa9w 103);rcases hc with rfl | rfl
    ·rw [show (2 * v + ((0 : Nat) : Int)) = 2 * v by simp, qab7, qabp (by omega)];simpa [ptr] using B
    ·rw [qabp (by simp; omega), show (2 * v + ((1 : Nat) : Int)) = 2 * v + 1 by simp, qab7];simpa [ptr] using B
   ·have hbg : b ≠ g := fun hb => hij (h.trie.inj i v j u g (by rw [e, hb]) hg)
    rw [qabp (by rcases hc with rfl | rfl <;> simp <;> omega), qabp (by rcases hc with rfl | rfl <;> simp <;> omega)];exact (b1.far (p := ⟨g, 3 + c, none⟩) hbg _).alloc _
 ·intro i v i2 v2 b e1 e2;have hlt : ∀ i v b, adr i v = some b → b < w.heap.size := fun i v b e => by obtain ⟨⟨_, _, _, h1, _⟩, _⟩ := h.trie.node i v b e; exact h1.lt
  by_cases hx : i = j + 1 ∧ v = 2 * u + c
  ·by_cases hy : i2 = j + 1 ∧ v2 = 2 * u + c
   ·exact ⟨hx.1.trans hy.1.symm, hx.2.trans hy.2.symm⟩
   ·obtain ⟨rfl, rfl⟩ := hx;rw [qab7] at e1;rw [qabp hy] at e2;cases e1
    exact absurd (hlt _ _ _ e2) (Nat.lt_irrefl _)
  ·rw [qabp hx] at e1;by_cases hy : i2 = j + 1 ∧ v2 = 2 * u + c
   ·obtain ⟨rfl, rfl⟩ := hy;rw [qab7] at e2;cases e2
    exact absurd (hlt _ _ _ e1) (Nat.lt_irrefl _)
   ·rw [qabp hy] at e2;exact h.trie.inj _ _ _ _ _ e1 e2
 ·intro i v hne;by_cases hx : i + 1 = j + 1 ∧ v = 2 * u + c
  ·obtain ⟨h1, rfl⟩ := hx;obtain rfl : i = j := by omega
   rw [show (2 * u + (c : Int)) / 2 = u by rcases hc with rfl | rfl <;> simp <;> omega];unfold qafv;split
   ·simp
   ·rw [hg]; simp
  ·rw [qabp hx] at hne;have := h.trie.up i v hne;unfold qafv;split
   ·simp
   ·exact this
 ·rw [qabp (by omega)]; exact h.root
structure Grown (w wr : World) (adr adr' : Nat → Int → Option Nat) (dat dat' : Nat → Int → Dat) : Prop where
 old : ∀ i v g, adr i v = some g → adr' i v = some g ∧ dat' i v = dat i v
 new : ∀ i v g, adr' i v = some g → adr i v = some g ∨ (w.heap.size ≤ g ∧ adr i v = none ∧ dat' i v = qam1)
 step : Step (fun b => ∃ i v, adr i v = some b) w wr
theorem Grown.refl (w : World) (adr : Nat → Int → Option Nat) (dat : Nat → Int → Dat) : Grown w w adr adr dat dat := ⟨fun _ _ _ e => ⟨e, rfl⟩, fun _ _ _ e => .inl e, Step.refl _ _⟩
theorem Grown.below {w wr w' : World} {adr adr' : Nat → Int → Option Nat} {dat dat' : Nat → Int → Dat} (h : Grown w wr adr adr' dat dat') (hb : Below wr.heap.size wr w') : Grown w w' adr adr' dat dat' := ⟨h.old, h.new, h.step.trans (Step.of hb)⟩
theorem Step.fresh {A B : Nat → Prop} {w wr w' : World} (h : Step A w wr) (k : Step B wr w') (hB : ∀ b, B b → A b ∨ w.heap.size ≤ b) : Step A w w' :=
 ⟨k.os.trans h.os, k.tape.trans h.tape, k.output.trans h.output, Nat.le_trans h.size k.size, fun i hi hA => (k.block i (Nat.lt_of_lt_of_le hi h.size) fun hb => (hB i hb).elim hA fun h2 => absurd hi (Nat.not_lt_of_le h2)).trans (h.block i hi hA)⟩
theorem Grown.add {w wr : World} {gt : Nat} {width most n : Int} {M : Nat → Prop} {adr adr' : Nat → Int → Option Nat} {dat dat' : Nat → Int → Dat} (h : Grown w wr adr adr' dat dat') (hP : Pfx wr gt width most n M adr' dat') {j g c : Nat} {u : Int} (hg : adr' j u = some g) (hc : c = 0 ∨ c = 1) (hn : adr' (j + 1) (2 * u + c) = none) :
  Grown w ((wr.setCell ⟨g, 3 + c, none⟩ (.pointer (some ⟨wr.heap.size, 0, none⟩))).alloc (.cells qa9w 103)) adr (qafv adr' (j + 1) (2 * u + c) (some wr.heap.size)) dat (qaft dat' (j + 1) (2 * u + c) qam1) := by
 refine ⟨fun i v b e => ?_, fun i v b e => ?_, ?_⟩
 ·obtain ⟨h1, h2⟩ := h.old i v b e;have hx : ¬ (i = j + 1 ∧ v = 2 * u + c) := fun hx => by obtain ⟨rfl, rfl⟩ := hx; rw [hn] at h1; cases h1
  rw [qabp hx, qad5 hx];exact ⟨h1, h2⟩
 ·by_cases hx : i = j + 1 ∧ v = 2 * u + c
  ·obtain ⟨rfl, rfl⟩ := hx;rw [qab7] at e;cases e
   refine .inr ⟨h.step.size, ?_, qae0 _ _ _ _⟩;cases e2 : adr (j + 1) (2 * u + c) with
   | none => rfl
   | some x => have := (h.old _ _ _ e2).1; rw [hn] at this; cases this
  ·rw [qabp hx] at e;rw [qad5 hx];exact h.new i v b e
 ·refine h.step.fresh ((Step.set (fun k => k = g) wr ⟨g, 3 + c, none⟩ rfl _).trans (Step.alloc _ _ _)) fun b hb => ?_
  subst hb;rcases h.new j u b hg with e | ⟨e, _⟩
  ·exact .inl ⟨j, u, e⟩
  ·exact .inr e
set_option maxRecDepth 100000 in
set_option maxHeartbeats 4000000 in
theorem qanm (gt : Nat) (W k : Nat) (key most n : Int) (M : Nat → Prop) (adr : Nat → Int → Option Nat) (dat : Nat → Int → Dat) (w : World) (h : Pfx w gt (W : Int) most n M adr dat) (hW : W ≤ 64) (hk : k ≤ W) (hkey : Fits .u64 key) (hlt : key < 2 ^ W) :
  Calls Tryz.prog 128 #[.pointer (some ⟨gt, 0, none⟩), .int .u64 key, .int .i64 (k : Int), .bool true] w fun e w' => ∃ adr' dat', e = .returned (ptr (adr' k (pre W key k))) ∧ adr' k (pre W key k) ≠ none ∧ Pfx w' gt (W : Int) most n M adr' dat' ∧ Grown w w' adr adr' dat dat' := by
 have h0 := h.blk.cell 3;simp at h0;have hz := h.blk.lt;have H := Lib.hid h;have p0 := qamb (W := W) hkey.u64.1 hlt;obtain ⟨R, hR⟩ : ∃ R, ptr (adr 0 0) = R := ⟨_, rfl⟩
 rw [hR] at h0;have HR := Lib.hid hR;have HP0 := Lib.hid p0;clear h hR p0;go_enter Tryz.func128, Tryz.ntmps128
 go_wp2_with fail
 go_loopw [9, 10] (fun p i wr => ∃ (j : Nat) (adr' : Nat → Int → Option Nat) (dat' : Nat → Int → Dat), j ≤ k ∧ i = .int .i64 j ∧ p = ptr (adr' j (pre W key j)) ∧ Pfx wr gt (W : Int) most n M adr' dat' ∧ Grown w wr adr adr' dat dat' ∧ adr' j (pre W key j) ≠ none) (fun _ i _ => k - (intOf i).toNat)
 case atStart => exact ⟨0, adr, dat, Nat.zero_le _, rfl, by rw [HP0.out, HR.out], H.out, Grown.refl _ _ _, by rw [HP0.out]; exact H.out.root⟩
 case round =>
  obtain ⟨j, adr', dat', hj, rfl, rfl, hP, hGr, hne⟩ := hrel;by_cases hjk : j < k
  ·cases hE : adr' j (pre W key j) with
   | none => exact absurd hE hne
   | some g =>
    rw [qacz];obtain ⟨ao, an, ac, _, _, _, b3, b4, _, hg, hfz⟩ := hP.trie.cells hE;have hs := qag3 key (show j < W by omega);have hpr := Lib.hid hs;have HB := fun w' (hb : Below wr.heap.size wr w') => qaf5 gt W j key most n M adr' dat' w' (hP.below hb) hW (by omega) hkey
    have hkb : kbit W key j = 0 ∨ kbit W key j = 1 := by have := qaea W key j; omega
    have hgz : g < wr.heap.size := hg;have HE := Lib.hid hE;clear hs hg hE;rcases hkb with hb | hb
    ·rw [hb] at HB;have HB2 := Lib.hid HB;have hn : Hid (pre W key (j + 1) = 2 * pre W key j) := by show _ = _; rw [hpr.out, hb]; omega
     clear HB hb b4;obtain ⟨q, hq⟩ : ∃ q, adr' (j + 1) (2 * pre W key j) = q := ⟨_, rfl⟩
     rw [hq] at b3;cases q with
     | none =>
      rw [qadp] at b3;have HQ := Lib.hid hq;clear hq;go_wp2_with fail
      go_big_quiet ((go_at_call 131; exact qaee (HB2.out _ (qaa0 (rf _) _))))
      have hPd := hP.below (qaa0 (rf wr) nq);have hGd := hGr.below (qaa0 (rf wr) nq);clear hgz hfz b3 HB2;generalize wr.drewN nq = wd at hPd hGd ⊢;obtain ⟨ao2, an2, ac2, x0, x1, x2, x3, x4, x5, hgz, hfz⟩ := hPd.trie.cells HE.out;clear x0 x1 x2 x5 x4;rw [HQ.out, qadp] at x3;have hfr := hfz 3;have HG := Lib.hid (Pfx.grow hPd (c := 0) HE.out (.inl rfl) (by simpa using HQ.out));have HGr := Lib.hid (hGd.add hPd HE.out (c := 0) (.inl rfl) (by simpa using HQ.out));clear hfz;go_wp2_with fail
      go_roundw
      case rel =>
       have e2 : pre W key (j + 1) = 2 * pre W key j + ((0 : Nat) : Int) := by rw [hn.out]; simp
       exact ⟨j + 1, _, _, by omega, by go_num, by rw [e2, qab7]; rfl, HG.out, HGr.out, by rw [e2, qab7]; simp⟩
      case measure => simp [intOf]; omega
     | some g2 =>
      rw [qacz] at b3;have HQ := Lib.hid hq;clear hq;go_wp2_with fail
      go_big_quiet ((go_at_call 131; exact qaee (HB2.out _ (qaa0 (rf _) _))))
      go_wp2_with fail
      go_roundw
      case rel => exact ⟨j + 1, adr', dat', by omega, by go_num, by rw [hn.out, HQ.out]; rfl, hP.below (qaa0 (rf _) _), hGr.below (qaa0 (rf _) _), by rw [hn.out, HQ.out]; simp⟩
      case measure => simp [intOf]; omega
    ·rw [hb] at HB;have HB2 := Lib.hid HB;have hn : Hid (pre W key (j + 1) = 2 * pre W key j + 1) := by show _ = _; rw [hpr.out, hb]
     clear HB hb b3;obtain ⟨q, hq⟩ : ∃ q, adr' (j + 1) (2 * pre W key j + 1) = q := ⟨_, rfl⟩
     rw [hq] at b4;cases q with
     | none =>
      rw [qadp] at b4;have HQ := Lib.hid hq;clear hq;go_wp2_with fail
      go_big_quiet ((go_at_call 131; exact qaee (HB2.out _ (qaa0 (rf _) _))))
      have hPd := hP.below (qaa0 (rf wr) nq);have hGd := hGr.below (qaa0 (rf wr) nq);clear hgz hfz b4 HB2;generalize wr.drewN nq = wd at hPd hGd ⊢;obtain ⟨ao2, an2, ac2, x0, x1, x2, x3, x4, x5, hgz, hfz⟩ := hPd.trie.cells HE.out;clear x0 x1 x2 x5 x3;rw [HQ.out, qadp] at x4;have hfr := hfz 4;have HG := Lib.hid (Pfx.grow hPd (c := 1) HE.out (.inr rfl) (by simpa using HQ.out));have HGr := Lib.hid (hGd.add hPd HE.out (c := 1) (.inr rfl) (by simpa using HQ.out));clear hfz;go_wp2_with fail
      go_roundw
      case rel =>
       have e2 : pre W key (j + 1) = 2 * pre W key j + ((1 : Nat) : Int) := by rw [hn.out]; simp
       exact ⟨j + 1, _, _, by omega, by go_num, by rw [e2, qab7]; rfl, HG.out, HGr.out, by rw [e2, qab7]; simp⟩
      case measure => simp [intOf]; omega
     | some g2 =>
      rw [qacz] at b4;have HQ := Lib.hid hq;clear hq;go_wp2_with fail
      go_big_quiet ((go_at_call 131; exact qaee (HB2.out _ (qaa0 (rf _) _))))
      go_wp2_with fail
      go_roundw
      case rel => exact ⟨j + 1, adr', dat', by omega, by go_num, by rw [hn.out, HQ.out]; rfl, hP.below (qaa0 (rf _) _), hGr.below (qaa0 (rf _) _), by rw [hn.out, HQ.out]; simp⟩
      case measure => simp [intOf]; omega
  ·obtain rfl : j = k := by omega
   obtain ⟨P, hPP⟩ : ∃ P, ptr (adr' j (pre W key j)) = P := ⟨_, rfl⟩
   have HPP := Lib.hid hPP;rw [hPP];clear hPP;go_wp2_with fail
   go_ret
   exact ⟨adr', dat', by rw [HPP.out]; rfl, hne, hP, hGr⟩
end
theorem qae3 (ao : Option Addr) (n cap : Nat) (xs : List Int) (w : World) (hr : Rd w .u64 ao n cap xs) (hn : n ≤ 1000000) :
  Calls Tryz.prog 32 #[.slice ao n cap] w fun e w' => ∃ r, e = .returned r ∧ Mine w' w.heap.size 70 .u64 r xs ∧ Below w.heap.size w w' := by
 have hq := fun w : World => Lib.run_eql_slice_nil (P := Tryz.prog) w 24 70 ao n cap 0 0 Tryz.underlying24
 cases ao with
 | none =>
  have h0 := hr.nil rfl;have h1 := hr.le;have h2 := hr.len;obtain rfl : cap = 0 := h0;obtain rfl : n = 0 := by omega
  obtain rfl : xs = [] := List.eq_nil_of_length_eq_zero h2;go_enter Tryz.func32, Tryz.ntmps32
  go_wp2_with fail
  go_ret
  exact ⟨_, rfl, Mine.nil _ _ _ _, Below.refl _ _⟩
 | some a =>
  have hr' : Rd (w.alloc (.cells #[] 70)) .u64 (some a) n cap xs := hr.below ((Below.refl _ _).alloc (Nat.le_refl _) _);have hm : Mine (w.alloc (.cells #[] 70)) w.heap.size 70 .u64 (.slice (some ⟨w.heap.size, 0, none⟩) 0 0) [] := ⟨World.ownsRow_made w #[] 0 (Nat.le_refl _) (by simp [maxLen]) rfl, by simp [AllFit]⟩
  go_enter Tryz.func32, Tryz.ntmps32
  go_wp2_with (at_builtin; refine qai9 (v := .slice (some ⟨w.heap.size, 0, none⟩) 0 0) (xs := []) rfl _ _ 24 rfl qbld w.heap.size rfl hm rfl hr' (by simp; omega) (by omega) (by simp) ?_; intro r' w2 hm2 hg2)
  go_ret
  exact ⟨_, rfl, hm2, ((Below.refl _ _).alloc (Nat.le_refl _) _).grown hg2 (by simp) (by simp [Value.ownBlock])⟩
section
attribute [local go_sem ↓] Go.wp_at_zero Go.wp_at_succ
theorem Pfx.say {w w' : World} {gt : Nat} {width most n : Int} {M M' : Nat → Prop} {adr : Nat → Int → Option Nat} {dat : Nat → Int → Dat} (h : Pfx w gt width most n M adr dat) {i : Nat} {v : Int} {g : Nat} (hg : adr i v = some g) (hs : Step (fun k => k = g) w w')
  (hM : ∀ k, M k → M' k) (hM2 : ∀ k, M' k → M k ∨ w.heap.size ≤ k) (hM3 : ∀ k, M' k → k < w'.heap.size) {d : Dat} (hb : NodeAt w' M' adr i v g d) : Pfx w' gt width most n M' adr (qaft dat i v d) := by
 have hold : ∀ k, k < w.heap.size → ¬ M k → ¬ M' k := fun k hk hn hm => (hM2 k hm).elim hn fun h2 => Nat.not_lt_of_le h2 hk
 have hng : ¬ gt = g := fun e => h.ne hg e.symm
 refine ⟨(hs.block gt h.blk.lt hng).trans h.blk, ⟨fun j u b e => ?_, h.trie.inj, h.trie.up, hM3⟩, hold _ h.blk.lt h.out, h.root⟩;obtain ⟨⟨ao, an, ac, b1, b2, b3⟩, b4⟩ := h.trie.node j u b e;refine ⟨?_, hold _ b1.lt b4⟩;by_cases hx : j = i ∧ u = v
 ·obtain ⟨rfl, rfl⟩ := hx;rw [hg] at e;cases e
  rw [qae0];exact hb
 ·rw [qad5 hx];have hbg : ¬ b = g := fun e2 => hx (h.trie.inj j u i v g (by rw [e, e2]) hg)
  refine ⟨ao, an, ac, (hs.block b b1.lt hbg).trans b1, ?_, b3⟩;have h1 := b2.step (hs.mono fun k hk => by subst hk; exact (h.trie.node _ _ _ hg).2);exact h1.weaken fun k hk _ hm => hk (hM k hm)
theorem Pfx.count {w : World} {gt : Nat} {width most n : Int} {M : Nat → Prop} {adr : Nat → Int → Option Nat} {dat : Nat → Int → Dat} (h : Pfx w gt width most n M adr dat) (n' : Int) : Pfx (w.setCell ⟨gt, 2, none⟩ (.int .i64 n')) gt width most n' M adr dat := by
 have hs := Step.set (fun k => k = gt) w ⟨gt, 2, none⟩ rfl (.int .i64 n');refine ⟨by have := h.blk.set_ 2 (.int .i64 n'); simpa using this, h.trie.step hs (fun k hk => by subst hk; exact h.out) (fun i v g e hk => h.ne e hk), h.out, h.root⟩
def ent (adr : Nat → Int → Option Nat) (dat : Nat → Int → Dat) (i : Nat) (v : Int) : Option (Int × List Int) := match adr i v with
 | some _ => if (dat i v).there then some ((dat i v).act, (dat i v).args) else none
 | none => none
theorem qadl {adr : Nat → Int → Option Nat} {dat : Nat → Int → Dat} {i : Nat} {v : Int} (h : adr i v = none) : ent adr dat i v = none := by unfold ent; rw [h]
theorem qac1 {adr : Nat → Int → Option Nat} {dat : Nat → Int → Dat} {i : Nat} {v : Int} {g : Nat} (h : adr i v = some g) : ent adr dat i v = if (dat i v).there then some ((dat i v).act, (dat i v).args) else none := by unfold ent; rw [h]
def PfxObj (w : World) (Fp : Nat → Prop) (gt : Nat) (width most n : Int) (E : Nat → Int → Option (Int × List Int)) : Prop :=
 ∃ M adr dat, Pfx w gt width most n M adr dat ∧ (∀ i v, ent adr dat i v = E i v) ∧ Fp gt ∧ (∀ k, M k → Fp k) ∧ (∀ i v g, adr i v = some g → Fp g) ∧ ∀ k, Fp k → k < w.heap.size
theorem PfxObj.below {w w' : World} {Fp : Nat → Prop} {gt : Nat} {width most n : Int} {E : Nat → Int → Option (Int × List Int)} (h : PfxObj w Fp gt width most n E) (hb : Below w.heap.size w w') : PfxObj w' Fp gt width most n E := by
 obtain ⟨M, adr, dat, h1, h2, h3, h4, h5, h6⟩ := h;exact ⟨M, adr, dat, h1.below hb, h2, h3, h4, h5, fun k hk => Nat.lt_of_lt_of_le (h6 k hk) hb.size⟩
instance {Fp : Nat → Prop} {gt : Nat} {width most n : Int} {E : Nat → Int → Option (Int × List Int)} : Mono (fun w => PfxObj w Fp gt width most n E) := ⟨fun h hb => h.below hb⟩
theorem PfxObj.step {w w' : World} {Fp : Nat → Prop} {gt : Nat} {width most n : Int} {E : Nat → Int → Option (Int × List Int)} (h : PfxObj w Fp gt width most n E) {S : Nat → Prop} (hs : Step S w w') (hd : ∀ k, S k → ¬ Fp k) : PfxObj w' Fp gt width most n E := by
 obtain ⟨M, adr, dat, h1, h2, h3, h4, h5, h6⟩ := h;exact ⟨M, adr, dat, ⟨(hs.block gt h1.blk.lt fun hk => hd _ hk h3).trans h1.blk, h1.trie.step hs (fun k hk hm => hd k hk (h4 k hm)) (fun i v g e hk => hd g hk (h5 i v g e)), h1.out, h1.root⟩, h2, h3, h4, h5, fun k hk => Nat.lt_of_lt_of_le (h6 k hk) hs.size⟩
def qaef (E : Nat → Int → Option (Int × List Int)) (i : Nat) (v : Int) (x : Option (Int × List Int)) : Nat → Int → Option (Int × List Int) := fun j u => if j = i ∧ u = v then x else E j u
def qach (width most n : Int) (E : Nat → Int → Option (Int × List Int)) (key k : Int) : Int :=
 if qafj width key k = false then 6 else if (E k.toNat (pre width.toNat key k.toNat)).isSome then 7 else if most ≤ n then 10 else 0
def qafx (width most n : Int) (E : Nat → Int → Option (Int × List Int)) (key k : Int) : Int := if qach width most n E key k = 0 then n + 1 else n
def qaf6 (width most n : Int) (E : Nat → Int → Option (Int × List Int)) (key k act : Int) (args : List Int) : Nat → Int → Option (Int × List Int) := if qach width most n E key k = 0 then qaef E k.toNat (pre width.toNat key k.toNat) (some (act, args)) else E
theorem qafq {width most n : Int} {E : Nat → Int → Option (Int × List Int)} {key k : Int} (h : qach width most n E key k ≠ 0) (act : Int) (args : List Int) : qafx width most n E key k = n ∧ qaf6 width most n E key k act args = E := by unfold qafx qaf6; rw [if_neg h, if_neg h]; exact ⟨rfl, rfl⟩
theorem qajs {width most n : Int} {E : Nat → Int → Option (Int × List Int)} {key k : Int} (h : qach width most n E key k = 0) (act : Int) (args : List Int) : qafx width most n E key k = n + 1 ∧ qaf6 width most n E key k act args = qaef E k.toNat (pre width.toNat key k.toNat) (some (act, args)) := by unfold qafx qaf6; rw [if_pos h, if_pos h]; exact ⟨rfl, rfl⟩
theorem qadj {width key k : Int} (h : qafj width key k = true) : ∃ W K : Nat, width = W ∧ k = K ∧ 1 ≤ W ∧ W ≤ 64 ∧ K ≤ W ∧ key < 2 ^ W ∧ key % 2 ^ (W - K) = 0 := by
 unfold qafj at h;rw [decide_eq_true_iff] at h;obtain ⟨h1, h2, h3, h4, h5, h6⟩ := h;refine ⟨width.toNat, k.toNat, by omega, by omega, by omega, by omega, by omega, h5, ?_⟩;rw [show width.toNat - k.toNat = (width - k).toNat by omega]; exact h6
theorem Grown.ent {w wr : World} {adr adr' : Nat → Int → Option Nat} {dat dat' : Nat → Int → Dat} (h : Grown w wr adr adr' dat dat') (i : Nat) (v : Int) : ent adr' dat' i v = ent adr dat i v := by
 cases e : adr' i v with
 | none =>
  rw [qadl e];cases e2 : adr i v with
  | none => rw [qadl e2]
  | some g => have := (h.old i v g e2).1; rw [e] at this; cases this
 | some g =>
  rw [qac1 e];rcases h.new i v g e with e2 | ⟨_, e2, e3⟩
  ·rw [qac1 e2, (h.old i v g e2).2]
  ·rw [qadl e2, e3]; rfl
def qasl (w4 : World) (g : Nat) (act : Int) (sl : Value) : World := ((w4.setCell ⟨g, 0, none⟩ (.bool true)).setCell ⟨g, 1, none⟩ (.int .i64 act)).setCell ⟨g, 2, none⟩ sl
theorem qane (w4 : World) (g : Nat) (act : Int) (sl : Value) : Step (fun k => k = g) w4 (qasl w4 g act sl) :=
 ((Step.set (fun k => k = g) w4 ⟨g, 0, none⟩ rfl _).trans (Step.set (fun k => k = g) _ ⟨g, 1, none⟩ rfl _)).trans (Step.set (fun k => k = g) _ ⟨g, 2, none⟩ rfl _)
theorem Pfx.said {w3 w4 : World} {gt : Nat} {width most n act : Int} {args : List Int} {M : Nat → Prop} {adr : Nat → Int → Option Nat} {dat : Nat → Int → Dat} (h : Pfx w3 gt width most n M adr dat) {i : Nat} {v : Int} {g : Nat} (hg : adr i v = some g) (hb : Below w3.heap.size w3 w4) {a4 : Option Addr} {n4 c4 : Nat}
  (hm : Mine w4 w3.heap.size 70 .u64 (.slice a4 n4 c4) args) (hact : Fits .i64 act) :
  Pfx (qasl w4 g act (.slice a4 n4 c4)) gt width most n (fun k => M k ∨ (Value.slice a4 n4 c4).ownBlock = some k) adr (qaft dat i v ⟨true, act, args⟩) := by
 have hs := qane w4 g act (.slice a4 n4 c4);obtain ⟨⟨ao, an, ac, b1, b2, b3⟩, b4⟩ := h.trie.node i v g hg;have B4 := b1.below hb b1.lt;refine h.say hg ((Step.of hb).trans hs) (fun k hk => .inl hk) (fun k hk => hk.imp id fun e => (hm.1.lt k e).1) (fun k hk => ?_) ?_
 ·have h2 : (qasl w4 g act (.slice a4 n4 c4)).heap.size = w4.heap.size := by simp [qasl, World.setCell]
  rw [h2];rcases hk with hk | hk
  ·exact Nat.lt_of_lt_of_le (h.trie.lt k hk) hb.size
  ·exact (hm.1.lt k hk).2
 ·refine ⟨a4, n4, c4, ?_, ?_, hact⟩
  ·have := ((B4.set_ 0 (.bool true)).set_ 1 (.int .i64 act)).set_ 2 (.slice a4 n4 c4);unfold qasl;simpa using this
  ·have hr := hm.rd_;have hne : ∀ b off, a4 = some ⟨b, off, none⟩ → 0 < n4 → ¬ (fun k => k = g) b := by
    intro b off e _ hbg;have hown : (Value.slice a4 n4 c4).ownBlock = some g := by rw [e]; show some b = some g; rw [show b = g from hbg]
    have := (hm.1.lt g hown).1;exact Nat.not_lt_of_le this b1.lt
   have hr2 : Rd (qasl w4 g act (.slice a4 n4 c4)) .u64 a4 n4 c4 args := by
    have hl := hr.len;refine ⟨hr.len, hr.fit, hr.le, hr.max, fun h0 => ?_, hr.nil⟩;obtain ⟨b, off, e, hc⟩ := hr.here h0;exact ⟨b, off, e, fun j hj => hs.cell (hc j hj) (hne b off e (by omega))⟩
   refine hr2.lay _ fun a ha _ hk => hk (.inr ?_)
   rw [ha]; rfl
theorem PfxObj.added {w w2 w3 w4 : World} {Fp : Nat → Prop} {gt : Nat} {width most n act : Int} {args : List Int} {M : Nat → Prop} {adr adr' : Nat → Int → Option Nat} {dat dat' : Nat → Int → Dat} {E : Nat → Int → Option (Int × List Int)} (n' : Int)
  (h2 : ∀ i v, ent adr dat i v = E i v) (h3 : Fp gt) (h4 : ∀ k, M k → Fp k) (h5 : ∀ i v g, adr i v = some g → Fp g) (h6 : ∀ k, Fp k → k < w.heap.size) (hB : Below w.heap.size w w2) (hG : Grown w2 w3 adr adr' dat dat') (hP : Pfx w3 gt width most n M adr' dat')
  {i : Nat} {v : Int} {g : Nat} (hg : adr' i v = some g) (hb : Below w3.heap.size w3 w4) {a4 : Option Addr} {n4 c4 : Nat} (hm : Mine w4 w3.heap.size 70 .u64 (.slice a4 n4 c4) args) (hact : Fits .i64 act) :
  ∃ Fp', PfxObj ((qasl w4 g act (.slice a4 n4 c4)).setCell ⟨gt, 2, none⟩ (.int .i64 n')) Fp' gt width most n' (qaef E i v (some (act, args))) ∧ (∀ b, Fp' b → Fp b ∨ w.heap.size ≤ b) ∧ Step Fp w ((qasl w4 g act (.slice a4 n4 c4)).setCell ⟨gt, 2, none⟩ (.int .i64 n')) := by
 have hnode : ∀ i v b, adr' i v = some b → Fp b ∨ w.heap.size ≤ b := fun i v b e => by
  rcases hG.new i v b e with h | ⟨h, _⟩
  ·exact .inl (h5 i v b h)
  ·exact .inr (Nat.le_trans hB.size h)
 have hsz : w.heap.size ≤ w3.heap.size := Nat.le_trans hB.size hG.step.size;have hown : ∀ k, (Value.slice a4 n4 c4).ownBlock = some k → w3.heap.size ≤ k ∧ k < w4.heap.size := fun k hk => hm.1.lt k hk
 have hs2 : (qasl w4 g act (.slice a4 n4 c4)).heap.size = w4.heap.size := by simp [qasl, World.setCell]
 refine ⟨fun b => Fp b ∨ (∃ i v, adr' i v = some b) ∨ (Value.slice a4 n4 c4).ownBlock = some b, ⟨_, adr', qaft dat' i v ⟨true, act, args⟩, (hP.said hg hb hm hact).count n', fun j u => ?_, .inl h3, fun k hk => ?_, fun j u b e => .inr (.inl ⟨j, u, e⟩), fun k hk => ?_⟩, fun b hk => ?_, ?_⟩
 ·unfold qaef;by_cases hx : j = i ∧ u = v
  ·obtain ⟨rfl, rfl⟩ := hx;rw [if_pos ⟨rfl, rfl⟩, qac1 hg, qae0]; rfl
  ·rw [if_neg hx, ← h2 j u, ← hG.ent j u];unfold ent;rw [qad5 hx]
 ·rcases hk with hk | hk
  ·exact .inl (h4 k hk)
  ·exact .inr (.inr hk)
 ·have : ((qasl w4 g act (.slice a4 n4 c4)).setCell ⟨gt, 2, none⟩ (.int .i64 n')).heap.size = w4.heap.size := by rw [← hs2]; simp [World.setCell]
  rw [this];rcases hk with hk | ⟨j, u, e⟩ | hk
  ·exact Nat.lt_of_lt_of_le (h6 k hk) (Nat.le_trans hsz hb.size)
  ·obtain ⟨⟨_, _, _, b1, _⟩, _⟩ := hP.trie.node j u k e;exact Nat.lt_of_lt_of_le b1.lt hb.size
  ·exact (hown k hk).2
 ·rcases hk with hk | ⟨j, u, e⟩ | hk
  ·exact .inl hk
  ·exact hnode j u b e
  ·exact .inr (Nat.le_trans hsz (hown b hk).1)
 ·have s1 : Step Fp w w3 := ((Step.of hB : Step Fp w w2)).trans (hG.step.mono fun b ⟨j, u, e⟩ => h5 j u b e);refine ((s1.trans (Step.of hb)).fresh (qane w4 g act (.slice a4 n4 c4)) fun b hbg => ?_).trans (Step.set Fp _ ⟨gt, 2, none⟩ h3 _);rw [show b = g from hbg];exact hnode i v g hg
end
section
attribute [local go_sem ↓] Go.wp_at_zero Go.wp_at_succ
theorem Rd.step_ {w w' : World} {k : IntKind} {ao : Option Addr} {n cap : Nat} {xs : List Int} (h : Rd w k ao n cap xs) {S : Nat → Prop} (hs : Step S w w') (hS : ∀ b off, ao = some ⟨b, off, none⟩ → 0 < n → ¬ S b) : Rd w' k ao n cap xs := by
 have hl := h.len;refine ⟨h.len, h.fit, h.le, h.max, fun h0 => ?_, h.nil⟩;obtain ⟨b, off, e, hc⟩ := h.here h0;exact ⟨b, off, e, fun i hi => hs.cell (hc i hi) (hS b off e (by omega))⟩
theorem Below.drew0_ (w : World) : Below w.heap.size w w.drew := ⟨rfl, rfl, rfl, Nat.le_refl _, fun _ _ => rfl⟩
theorem Rd.noNode {w : World} {ao : Option Addr} {n cap : Nat} {xs : List Int} (h : Rd w .u64 ao n cap xs) {M : Nat → Prop} {adr : Nat → Int → Option Nat} {dat : Nat → Int → Dat} (ht : Trie w M adr dat) : ∀ b off, ao = some ⟨b, off, none⟩ → 0 < n → ¬ ∃ i v, adr i v = some b := by
 rintro b off e h0 ⟨i, v, hg⟩;have hl := h.len;obtain ⟨b2, off2, e2, hc⟩ := h.here (by omega);rw [e] at e2;cases e2
 have hx := hc 0 (by omega);obtain ⟨⟨a1, a2, a3, hb, _⟩, _⟩ := ht.node i v b hg;rw [Nat.add_zero, hb.cell] at hx;have : off = 0 ∨ off = 1 ∨ off = 2 ∨ off = 3 ∨ off = 4 ∨ 5 ≤ off := by omega
 rcases this with rfl | rfl | rfl | rfl | rfl | h5
 ·simp at hx
 ·simp at hx
 ·simp at hx
 ·simp [ptr] at hx
 ·simp [ptr] at hx
 ·rw [Array.getElem?_eq_none (by simpa using h5)] at hx; cases hx
set_option maxRecDepth 100000 in
set_option maxHeartbeats 4000000 in
theorem qa0a (gt : Nat) (Fp : Nat → Prop) (width most n key k act : Int) (ao : Option Addr) (an ac : Nat) (args : List Int) (E : Nat → Int → Option (Int × List Int)) (w : World) (h : PfxObj w Fp gt width most n E) (hw : Fits .i64 width) (hkey : Fits .u64 key) (hk : Fits .i64 k) (hact : Fits .i64 act) (hr : Rd w .u64 ao an ac args) (han : an ≤ 1000000) (hn : 0 ≤ n ∧ n ≤ 1000000) :
  Calls Tryz.prog 122 #[.pointer (some ⟨gt, 0, none⟩), .int .u64 key, .int .i64 k, .agg #[.int .i64 act, .slice ao an ac]] w fun e w' => e = .returned (.int .i64 (qach width most n E key k)) ∧
   ∃ Fp', PfxObj w' Fp' gt width most (qafx width most n E key k) (qaf6 width most n E key k act args) ∧ (∀ b, Fp' b → Fp b ∨ w.heap.size ≤ b) ∧ Step Fp w w' := by
 have HO := Lib.hid h;obtain ⟨M, adr, dat, h1, h2, h3, h4, h5, h6⟩ := h;have hal := al (rf w) (.cells #[.int .i64 act, .slice ao an ac] 46);have H1 := Lib.hid (h1.below hal);by_cases hf : qafj width key k = true
 case neg =>
  have hf' : qafj width key k = false := by simpa using hf
  have hc : qach width most n E key k = 6 := by unfold qach; rw [if_pos hf']
  obtain ⟨e1, e2⟩ := qafq (show qach width most n E key k ≠ 0 by rw [hc]; decide) act args;rw [hc, e1, e2];have HF := Lib.hid hf';clear hf hf' hc e1 e2 h6 h5 h4 h3 h2;go_enter Tryz.func122, Tryz.ntmps122
  go_wp2_with fail
  refine (qacv _ _ _ _ _ _ _ _ _ _ H1.out hw hk hkey).mono ?_;rintro e w' ⟨rfl, rfl⟩;rw [HF.out];go_wp2_with fail
  go_ret
  exact ⟨rfl, Fp, HO.out.below hal, fun b hb => .inl hb, Step.of hal⟩
 obtain ⟨W, K, rfl, rfl, hW1, hW, hK, hlt, hmod⟩ := qadj hf;have HF := Lib.hid hf;have hE := h2 K (pre W key K);have HA := Lib.hid (qaix gt W K key most n M adr dat);go_enter Tryz.func122, Tryz.ntmps122
 go_wp2_with fail
 refine (qacv _ _ _ _ _ _ _ _ _ _ H1.out hw hk hkey).mono ?_;rintro e w' ⟨rfl, rfl⟩;rw [HF.out];go_wp2_with fail
 refine (qaix gt W K key most n M adr dat _ H1.out hW hK hkey hlt).mono ?_;rintro e w2 ⟨rfl, hb2⟩;have hB2 := ov hal hb2;have H2 := Lib.hid (H1.out.below hb2);have hbox : w2.cell? ⟨w.heap.size, 0, none⟩ = some (.int .i64 act) ∧ w2.cell? ⟨w.heap.size, 1, none⟩ = some (.slice ao an ac) := by
  obtain ⟨x, y⟩ := (Blk.new w 46 #[.int .i64 act, .slice ao an ac]).two;exact ⟨keep x hb2, keep y hb2⟩
 obtain ⟨hx0, hx1⟩ := hbox;have hxz : w.heap.size < w2.heap.size := by have := hb2.size; simp at this; omega
 clear hb2 hal;have hcs : (∃ g, adr K (pre W key K) = some g ∧ (dat K (pre W key K)).there = true) ∨ (E K (pre W key K) = none ∧ (adr K (pre W key K) = none ∨ ∃ g, adr K (pre W key K) = some g ∧ (dat K (pre W key K)).there = false)) := by
  cases e : adr K (pre W key K) with
  | none => exact .inr ⟨by rw [← hE, qadl e], .inl rfl⟩
  | some g =>
   cases t : (dat K (pre W key K)).there with
   | true => exact .inl ⟨g, rfl, rfl⟩
   | false => exact .inr ⟨by rw [← hE, qac1 e, t]; rfl, .inr ⟨g, rfl, rfl⟩⟩
 rcases hcs with ⟨g, e, t⟩ | ⟨hE0, hcs⟩
 ·have hc : Hid (qach (W : Int) most n E key (K : Int) = 7) := by
   show _ = _;unfold qach;rw [if_neg (by rw [HF.out]; decide), if_pos];show (E K (pre W key K)).isSome = true;rw [← hE, qac1 e, t]; rfl
  rw [e, qacz];obtain ⟨_, _, _, y0, _, _, _, _, _, hgz, _⟩ := H2.out.trie.cells e;rw [t] at y0;clear hx0 hx1 hE t e h2 h3 h4 h5 h6 h1;go_wp2_with fail
  go_ret
  obtain ⟨e1, e2⟩ := qafq (show qach (W : Int) most n E key (K : Int) ≠ 0 by rw [hc.out]; decide) act args;rw [hc.out, e1, e2];exact ⟨rfl, Fp, HO.out.step (S := fun _ => False) (Step.of hB2) (fun _ h => h.elim), fun b hb => .inl hb, Step.of hB2⟩
 have HE0 := Lib.hid hE0;have T0 := H2.out.blk.cell 1;have T1 := H2.out.blk.cell 2;simp at T0 T1;have Tz := H2.out.blk.lt;have hc : Hid (qach (W : Int) most n E key (K : Int) = if most ≤ n then 10 else 0) := by
  show _ = _;unfold qach;rw [if_neg (by rw [HF.out]; decide), if_neg];show ¬ (E K (pre W key K)).isSome = true;rw [HE0.out]; decide
 have H6 := Lib.hid h6;have H5 := Lib.hid h5;have H24 := Lib.hid (And.intro h2 h4);have hCs := hcs;clear hE hE0 h1 h2 h4 h5 h6 hCs;have hmd : ∃ p : Value, ptr (adr K (pre W key K)) = p ∧ (p = .pointer none ∨ ∃ g, p = .pointer (some ⟨g, 0, none⟩) ∧ w2.cell? ⟨g, 0, none⟩ = some (.bool false) ∧ g < w2.heap.size) := by
  rcases hcs with e | ⟨g, e, t⟩
  ·exact ⟨_, by rw [e]; rfl, .inl rfl⟩
  ·obtain ⟨_, _, _, y0, _, _, _, _, _, hgz, _⟩ := H2.out.trie.cells e;rw [t] at y0;exact ⟨_, by rw [e]; rfl, .inr ⟨g, rfl, y0, hgz⟩⟩
 obtain ⟨p, hp, hpc⟩ := hmd;rw [hp];clear hp hcs;by_cases hfull : most ≤ n
 ·have hfull' : decide (most ≤ n) = true := decide_eq_true hfull;have hc2 : Hid (qach (W : Int) most n E key (K : Int) = 10) := by show _ = _; rw [hc.out, if_pos hfull]
  clear hx0 hx1;rcases hpc with rfl | ⟨g, rfl, y0, hgz⟩
  all_goals
   go_wp2_with fail
   go_big_quiet (fail)
   go_wp2_with fail
   go_ret
   obtain ⟨e1, e2⟩ := qafq (show qach (W : Int) most n E key (K : Int) ≠ 0 by rw [hc2.out]; decide) act args;rw [hc2.out, e1, e2];exact ⟨rfl, Fp, HO.out.step (S := fun _ => False) (Step.of (qaa0 hB2 _)) (fun _ h => h.elim), fun b hb => .inl hb, Step.of (qaa0 hB2 _)⟩
 have hfull' : decide (most ≤ n) = false := decide_eq_false hfull;have hc2 : Hid (qach (W : Int) most n E key (K : Int) = 0) := by show _ = _; rw [hc.out, if_neg hfull]
 rcases hpc with rfl | ⟨g0, rfl, y0, hgz0⟩
 all_goals
  go_wp2_with fail
  go_big_quiet (fail)
  go_wp2_with fail
  refine (qanm gt W K key most n M adr dat _ (H2.out.below (qaa0 (rf _) _)) hW hK hkey hlt).mono ?_;rintro e w3 ⟨adr', dat', rfl, hne, hP3, hG3⟩;cases e3 : adr' K (pre W key K) with
  | none => exact absurd e3 hne
  | some g =>
   rw [qacz];have hnb : ∀ i v b, adr i v = some b → b < w.heap.size := fun i v b hb => H6.out b (H5.out i v b hb)
   have hd0 : w3.cell? ⟨w.heap.size, 0, none⟩ = some (.int .i64 act) := hG3.step.cell (keep hx0 (qaa0 (rf _) _)) (fun ⟨i, v, hb⟩ => Nat.lt_irrefl _ (hnb i v _ hb));have hd1 : w3.cell? ⟨w.heap.size, 1, none⟩ = some (.slice ao an ac) := hG3.step.cell (keep hx1 (qaa0 (rf _) _)) (fun ⟨i, v, hb⟩ => Nat.lt_irrefl _ (hnb i v _ hb));have hr3 : Rd w3 .u64 ao an ac args := ((hr.below hB2).below (qaa0 (rf w2) nq)).step_ hG3.step (Rd.noNode ((hr.below hB2).below (qaa0 (rf w2) nq)) (H2.out.below (qaa0 (rf w2) nq)).trie);have hxz3 : w.heap.size < w3.heap.size := Nat.lt_of_lt_of_le hxz hG3.step.size;obtain ⟨⟨na, nn, nc, B3, _, _⟩, nM⟩ := hP3.trie.node _ _ _ e3;have hgne : ¬ w.heap.size = g := by
    intro hh;rcases hG3.new _ _ _ e3 with h | ⟨h, _⟩
    ·have := hnb _ _ _ h; omega
    ·have hs : (w2.drewN nq).heap.size = w2.heap.size := rfl;rw [hs] at h; omega
   have hr4 := hr3.below (Below.drew0_ w3);have hd0' : w3.drew.cell? ⟨w.heap.size, 0, none⟩ = some (.int .i64 act) := hd0;have hd1' : w3.drew.cell? ⟨w.heap.size, 1, none⟩ = some (.slice ao an ac) := hd1;clear hx0 hx1;go_wp2_with fail
   go_region_law ((first
    | (go_simp; go_at_call 32; refine (qae3 _ _ _ _ _ (hr4.below (rf _)) han).mono ?_; rintro e w4 ⟨r4, rfl, hm4, hb4⟩; obtain ⟨a4, c4, rfl⟩ := hm4.form; have B4 : Blk w4 g _ _ := Blk.below (w := w3.drew) B3 hb4 B3.lt; have m0 := B4.cell 0; have m1 := B4.cell 1; have m2 := B4.cell 2; simp at m0 m1 m2; have mf0 := B4.frozen 0; have mf1 := B4.frozen 1; have mf2 := B4.frozen 2; have mz := B4.lt; have m5 := keep hd0' hb4; have m6 := keep hd1' hb4; have m7 : w.heap.size < w4.heap.size := Nat.lt_of_lt_of_le hxz3 hb4.size)))
   all_goals
    have hFin := PfxObj.added (n + 1) H24.out.1 h3 H24.out.2 H5.out H6.out (qaa0 hB2 nq) hG3 hP3 e3 ((Below.drew0_ w3).trans hb4) hm4 hact;have hwr : IntKind.i64.wrap (n + 1) = n + 1 := qadt (by omega) (by omega);have hPs := hP3.said e3 ((Below.drew0_ w3).trans hb4) hm4 hact;have t2 := hPs.blk.cell 2;simp at t2;have tz := hPs.blk.lt;have tf := hPs.blk.frozen 2;have HFin := Lib.hid hFin;clear hFin hPs m0 m1 m2 mf0 mf1 mf2 m5 m6 B4 B3 hd0 hd1 hd0' hd1' hm4 hb4;change Exit.then _ _ _ _ (qasl w4 g act (.slice a4 args.length c4))
    generalize qasl w4 g act (.slice a4 args.length c4) = wF at *;go_wp2_with fail
    go_ret
    obtain ⟨e1, e2⟩ := qajs (show qach (W : Int) most n E key (K : Int) = 0 from hc2.out) act args;rw [hc2.out, e1, e2];exact ⟨rfl, HFin.out⟩
end
theorem qa1j (p q : Option Addr) (w : World) : (Op.equalIn 10000 101 (.agg #[.pointer p, .pointer q]) (.agg #[.pointer none, .pointer none])).run Tryz.prog w = .ok (p.isNone && q.isNone) w := by
 have h := fun (w : World) (d : Nat) (p : Option Addr) => run_equalIn_pointer_nil (P := Tryz.prog) w d 100 p (by kernel_rfl)
 obtain ⟨i, hi⟩ := Option.isSome_iff_exists.1 (show (Tryz.prog.info? 100).isSome = true by kernel_rfl);rw [show (10000 : Nat) = 9999 + 1 from rfl, run_equalIn_array w 9999 _ _ Tryz.underlying101 hi];rw [show Tryz.prog.cellsOf 100 = 1 by kernel_rfl, show List.range 2 = [0, 1] from rfl];have h0 : ∀ (a b : Value) (w : World), (part 100 #[a, b] 0).run Tryz.prog w = .ok a w := fun a b w => by simp [part, go_sem, Tryz.underlying100]
 have h1 : ∀ (a b : Value) (w : World), (part 100 #[a, b] 1).run Tryz.prog w = .ok b w := fun a b w => by simp [part, go_sem, Tryz.underlying100]
 simp only [Op.eqItems, Sem.run_bind, Nat.zero_mul, Nat.one_mul, h0, h1, Result.andThen_ok];have h9 : ∀ (w : World) (p : Option Addr), (Op.equalIn 9999 100 (.pointer p) (.pointer none)).run Tryz.prog w = .ok p.isNone w := fun w p => h w 9998 p
 clear h hi;cases p <;> cases q <;> simp [h1, h9]
theorem qaf2 {P : Program} {ops : Array Oper} {o : Oper} {a : Act} {w : World} {K : Act → World → Prop} {Q : Exit → Act → World → Prop} {E : Prop} (hgd : o.guard = none) (s x : Operand) (t : TypeId)
  (ho : o.op = .call { callee := .builtin .append, args := #[s, x], argTypes := #[t, t] })
  {α : Type} {L : Lay α} [One L] {A : Nat → Prop} {e : TypeId} {bytes : Nat} {z : Value} (ty : SliceTy P t e L.size bytes z) {Fp : Nat → Prop}
  {v : Value} {xs : List α} (hs : a.eval s = v) (hown : OwnL L A w Fp e v xs) (hA : ∀ k, v.ownBlock = some k → A k)
  {ao : Option Addr} {m c : Nat} {ys : List α} (hx : a.eval x = .slice ao m c) (hr : Src L A w ao m c ys)
  (h63 : xs.length + m ≤ maxLen) (hsz : (xs.length + m) * bytes ≤ 140737488355328)
  (h : ∀ v' w', OwnL L A w' (fun k => Fp k ∨ k = w.heap.size) e v' (xs ++ ys) → Step (fun k => v.ownBlock = some k) w w' → K (a.put o.dst v') w') :
  if Region.wanted o (yielded ops a.tmps) = true then Oper.wp P o a w K Q else E := by
 rw [if_pos (by simp [Region.wanted, hgd])];exact qalw s x t ho ty hs hown hA hx hr h63 hsz h
abbrev qa3q : List SOper := [Oa 1 (.box 38 (.t 0)), Oa 2 (.alloc 46 [(.int .i64 0), .nilsl])]
abbrev qa3p : List SOper := [Fa 3 4 1, La 4 3, Fa 5 5 1, La 6 5, Oa 7 (.build [(.int .i64 0), .nilsl] [(0, 1, (.t 4)), (1, 1, (.t 6))]), Va 2 2 7]
def qbj7 : SCode := (Sf qa3q [1, 2] (Sf qa3p [2] .ret))
abbrev qbnz : List SOper := [Oa 2 (.box 80 (.t 0)), Oa 3 (.box 38 (.t 1)), Ka 4 0]
abbrev qbny : List SOper := [Fa 5 0 2, Od 6 (Pa 5) 1, Fa 7 0 3, Od 8 (Pa 7) 4, Sa 9 6 3, Qh 10 83 [9] 16, Qh 11 82 [6, 8, 10] 63, Od 4 (Pm 11) 127]
def c_sxa : SCode := (Sf qbnz [2, 3] (.seq (Rt qbny [4]) .ret))
abbrev qbnx : List SOper := [Oa 2 (.box 80 (.t 0)), Oa 3 (.box 38 (.t 1)), Ka 4 0]
abbrev qbnw : List SOper := [Fa 5 0 2, Od 6 (Pa 5) 1, Fa 7 0 3, Od 8 (Pa 7) 4, Sa 9 6 3, Qh 10 83 [9] 16, Qh 11 85 [6, 8, 10] 63, Od 4 (Pm 11) 127]
def c_sxc : SCode := (Sf qbnx [2, 3] (.seq (Rt qbnw [4]) .ret))
abbrev qbnv : List SOper := [Oa 2 (.box 80 (.t 0)), Oa 3 (.box 38 (.t 1)), Ka 4 0]
abbrev qbnu : List SOper := [Fa 5 0 2, La 6 5, Fa 7 0 3, La 8 7, Qc 9 86 [6, 8], Ma 4 9]
def c_sxd : SCode := (Sf qbnv [2, 3] (Sf qbnu [4] .ret))
abbrev qbnt : List SOper := [Oa 2 (.box 80 (.t 0)), Oa 4 (.alloc 46 [(.int .i64 0), .nilsl]), Oa 5 (.mv (.c (.bool false)))]
abbrev qbns : List SOper := [Fa 6 0 2, La 7 6, Ma 8 1, Qc 9 87 [7, 8], Oa 10 (.extr (.t 9) 0), Oa 11 (.extr (.t 9) 1), Va 2 4 10, Ma 5 11]
def c_sxf : SCode := (Sf qbnt [1, 2, 4] (Sf qbns [4, 5] .ret))
abbrev qbnr : List SOper := [Oa 1 (.box 80 (.t 0)), Oa 2 (.mv (.c .nilsl))]
abbrev qbnq : List SOper := [Fa 3 0 1, La 4 3, Qc 5 84 [4], Ma 2 5]
def c_sxl : SCode := (Sf qbnr [1] (Sf qbnq [2] .ret))
abbrev qbnp : List SOper := [Oa 1 (.box 80 (.t 0)), Ka 2 0]
abbrev qbno : List SOper := [Fa 3 0 1, La 4 3, Qc 5 75 [4], Ma 2 5]
def c_sxn : SCode := (Sf qbnp [1] (Sf qbno [2] .ret))
abbrev qboo : List SOper := [Oa 2 (.box 84 (.t 0)), Oa 3 (.box 38 (.t 1)), Ka 4 0]
abbrev qbon : List SOper := [Fa 5 0 2, Od 6 (Pa 5) 1, Fa 7 0 3, Od 8 (Pa 7) 4, Od 9 (.iaddr 1 (.t 8) (.c (.int .i64 0))) 12, Od 10 (Pa 9) 28, Fa 11 2 3, Od 12 (Pa 11) 64, Sa 13 6 3, Qh 14 83 [13] 256, Qh 15 122 [6, 10, 12, 14] 1023, Od 4 (Pm 15) 2047]
def c_spa : SCode := (Sf qboo [2, 3] (.seq (Rt qbon [4]) .ret))
abbrev qbom : List SOper := [Oa 2 (.box 84 (.t 0)), Oa 3 (.box 38 (.t 1)), Ka 4 0]
abbrev qbol : List SOper := [Fa 5 0 2, Od 6 (Pa 5) 1, Fa 7 0 3, Od 8 (Pa 7) 4, Od 9 (.iaddr 1 (.t 8) (.c (.int .i64 0))) 12, Od 10 (Pa 9) 28, Fa 11 2 3, Od 12 (Pa 11) 64, Sa 13 6 3, Qh 14 83 [13] 256, Qh 15 124 [6, 10, 12, 14] 1023, Od 4 (Pm 15) 2047]
def c_spc : SCode := (Sf qbom [2, 3] (.seq (Rt qbol [4]) .ret))
abbrev qbok : List SOper := [Oa 2 (.box 84 (.t 0)), Oa 3 (.box 38 (.t 1)), Ka 4 0]
abbrev qboj : List SOper := [Fa 5 0 2, Od 6 (Pa 5) 1, Fa 7 0 3, Od 8 (Pa 7) 4, Od 9 (.iaddr 1 (.t 8) (.c (.int .i64 0))) 12, Od 10 (Pa 9) 28, Fa 11 2 3, Od 12 (Pa 11) 64, Qh 13 125 [6, 10, 12] 255, Od 4 (Pm 13) 511]
def c_spd : SCode := (Sf qbok [2, 3] (.seq (Rt qboj [4]) .ret))
abbrev qboi : List SOper := [Oa 2 (.box 84 (.t 0)), Oa 4 (.alloc 46 [(.int .i64 0), .nilsl]), Oa 5 (.mv (.c (.bool false)))]
abbrev qboh : List SOper := [Fa 10 0 2, Od 11 (Pa 10) 1, Ma 12 1, Od 13 (.iaddr 1 (.t 12) (.c (.int .i64 0))) 4, Od 14 (Pa 13) 12, Qh 15 126 [11, 14] 31, Od 9 (Pm 15) 63, Od 16 (.extr (.t 9) 0) 127, Od 17 (.extr (.t 9) 1) 127, Od 18 (.extr (.t 9) 2) 127, Oa 6 (.alloc 46 [(.int .i64 0), .nilsl]), Og (.store 2 (.t 6) (.t 16)) 1279, Od 7 (Pm 17) 3583, Od 8 (Pm 18) 8191]
abbrev qbog : List SOper := [Sa 19 2 6, Ma 20 8, Va 2 4 19, Ma 5 20]
def c_spf : SCode := (Sf qboi [1, 2, 4] (.seq (Rt qboh [4, 6, 8]) (Sf qbog [4, 5] .ret)))
abbrev qbof : List SOper := [Oa 1 (.box 84 (.t 0)), Oa 2 (.mv (.c .nilsl))]
abbrev qboe : List SOper := [Fa 3 0 1, La 4 3, Qc 5 123 [4], Ma 2 5]
def c_spl : SCode := (Sf qbof [1] (Sf qboe [2] .ret))
abbrev qbod : List SOper := [Oa 1 (.box 84 (.t 0)), Ka 2 0]
abbrev qboc : List SOper := [Fa 3 0 1, La 4 3, Qc 5 115 [4], Ma 2 5]
def c_spn : SCode := (Sf qbod [1] (Sf qboc [2] .ret))
abbrev qbob : List SOper := [Oa 2 (.box 88 (.t 0)), Oa 3 (.box 38 (.t 1)), Ka 4 0]
abbrev qboa : List SOper := [Fa 5 0 2, La 6 5, Sa 7 6 3, Qc 8 139 [6, 7], Ma 4 8]
def c_sta : SCode := (Sf qbob [2, 3] (Sf qboa [4] .ret))
abbrev qbn9 : List SOper := [Oa 2 (.box 88 (.t 0)), Oa 3 (.box 38 (.t 1)), Ka 4 0]
abbrev qbn8 : List SOper := [Fa 5 0 2, La 6 5, Sa 7 6 3, Qc 8 141 [6, 7], Ma 4 8]
def c_stc : SCode := (Sf qbn9 [2, 3] (Sf qbn8 [4] .ret))
abbrev qbn7 : List SOper := [Oa 2 (.box 88 (.t 0)), Oa 3 (.box 38 (.t 1)), Ka 4 0]
abbrev qbn6 : List SOper := [Fa 5 0 2, La 6 5, Sa 7 6 3, Qc 8 142 [6, 7], Ma 4 8]
def c_std : SCode := (Sf qbn7 [2, 3] (Sf qbn6 [4] .ret))
abbrev qbn5 : List SOper := [Oa 2 (.box 88 (.t 0)), Oa 4 (.alloc 46 [(.int .i64 0), .nilsl]), Oa 5 (.mv (.c (.bool false)))]
abbrev qbn4 : List SOper := [Fa 6 0 2, La 7 6, Ma 8 1, Qc 9 143 [7, 8], Oa 10 (.extr (.t 9) 0), Oa 11 (.extr (.t 9) 1), Va 2 4 10, Ma 5 11]
def c_stf : SCode := (Sf qbn5 [1, 2, 4] (Sf qbn4 [4, 5] .ret))
abbrev qbn3 : List SOper := [Oa 1 (.box 88 (.t 0)), Oa 2 (.mv (.c .nilsl))]
abbrev qbn2 : List SOper := [Fa 3 0 1, La 4 3, Qc 5 140 [4], Ma 2 5]
def c_stl : SCode := (Sf qbn3 [1] (Sf qbn2 [2] .ret))
abbrev qbn1 : List SOper := [Oa 1 (.box 88 (.t 0)), Ka 2 0]
abbrev qbn0 : List SOper := [Fa 3 0 1, La 4 3, Qc 5 132 [4], Ma 2 5]
def c_stn : SCode := (Sf qbn1 [1] (Sf qbn0 [2] .ret))
section
attribute [local simp] qaa6 qaa5 qaak qaas qaal qaar qaa3 qaa4 qaae qabh SOp.run SX.ev putd puts argS upds SOp.touch SSt.keep SSt.skip gets geth puth delh idOf SV.cells? setL qac5 qac6 sbin eq0 eq1 eqL qac2 qaby qab0 qaa2 qaa1 qaac qaa7 qabi qaaj qaad FrzOk qaav qaan qaat qaau qaaf qaam qaa8 qaao qaah qaaw qaag frzS frzH frz frz1 frz0 SlotsM ObjsM ObjM rn ren ren1 ren0 qabk qabw qabz qabj qaa9 qabx qab1 CoL qaax qabr dels adds idsH qabc
section
attribute [local simp] qa9x refc qaz1 qa9y qakg opc actc tabc qa9v qbam nums jc
theorem mask_w (w : Int) (hw : Fits .i64 w) (q : Nat) : SCalls Tryz.prog 49 [.int .i64 w] [] q (.int .u64 (if w ≤ 64 then 2 ^ w.toNat - 1 else 0)) [] := by
 refine qbaa (Enters.of Tryz.func49 rfl rfl) (fun O w1 vs hO h => ?_) (fun σ => rfl) q;obtain ⟨v, us, rfl, h1, h2⟩ := Reps.cons_inv h;have := h2.nil_inv; subst this
 cases h1
 refine (qake w w1 hw).mono ?_;rintro e w' ⟨rfl, rfl⟩;refine ⟨_, rfl, .refl _ _, ?_⟩;have : ones w = if w ≤ 64 then 2 ^ w.toNat - 1 else 0 := by
  unfold ones qa9u;by_cases h0 : 1 ≤ w
  ·by_cases h1 : w ≤ 64
   ·rw [if_pos ⟨h0, h1⟩, if_pos h1]
   ·rw [if_neg (by omega), if_neg h1]
  ·rw [if_neg (by omega), if_pos (by omega), show w.toNat = 0 by omega]; rfl
 rw [this]; exact .int
end
section
attribute [local simp] qa9x refc qaz1 qa9y qakg opc actc tabc qa9v qbam nums jc
def qaeu (v : Int) : List Int → Nat → Int
 | [], _ => -1
 | x :: l, i => if v = x then (i : Int) else qaeu v l (i + 1)
theorem qan3 (v : Int) {l : List Int} {i : Nat} (hi : i < l.length) : qaeu v (l.drop i) i = if v = l[i] then (i : Int) else qaeu v (l.drop (i + 1)) (i + 1) := by
 rw [List.drop_eq_getElem_cons hi]; rfl
theorem qak3 (v : Int) : ∀ (l : List Int) (i : Nat), decide (0 ≤ qaeu v l i) = l.contains v
 | [], i => rfl
 | x :: l, i => by
  unfold qaeu;rw [List.contains_cons];by_cases h : v = x
  ·subst h; simp
  ·rw [if_neg h, qak3 v l (i + 1)]; simp [h]
theorem index_s (l : List Int) (v : Int) (hl : l.length ≤ 1000000) : SCalls Tryz.prog 57 [nums .i64 l, .int .i64 v] [] 0 (.int .i64 (qaeu v l 0)) [] := by
 refine yF (N := 19) Tryz.func57 qbkn ?_;rintro X hP hN hm;have hF : qaeu v l 0 = qaeu v (l.drop 0) 0 := rfl;generalize qaeu v l 0 = F at hF;replace hF := Lib.hid hF;unfold qbkn;repeat' (first | refine yA ?_ | exact trivial)
 refine qabf (qaco (fun s (i : Nat) => s.turn [(8, .int .i64 i)] []) (fun i => i ≤ l.length ∧ F = qaeu v (l.drop i) i) (fun i => l.length - i) 0 ?_ ⟨by simp, hF.out⟩ ?_)
 ·repeat' (first | exact yD | refine yE ?_ | with_reducible refine yB ?_ ?_ | exact trivial)
 rintro J hJ i ⟨h1, h2⟩;unfold qapo;simp only [zT, puth, Nat.reduceEqDiff, reduceIte, Nat.reduceAdd] at h1 h2 ⊢;rcases Nat.lt_or_ge i l.length with hi | hi
 ·rw [qan3 v hi] at h2;generalize hxx : l[i] = x at h2;have wi : IntKind.i64.wrap ((i : Int) + 1) = (i : Int) + 1 := qabo (by omega) (by omega);replace h2 := Lib.hid h2;cases hv : (v == x)
  ·have hv' : ¬ v = x := by simpa using hv
   repeat' (first | refine yA ?_ | with_reducible refine yB ?_ ?_ | ((with_reducible refine yC fun h => ?_); have h' := h; (try simp at h'); (try subst h')) | exact yD | refine yE ?_ | ((refine qabs hJ (i + 1) ?_ ?_ ?_; (with_reducible refine qabd [] hm ?_ ?_ ?_ ?_) <;> (try simp only [zT, puth, Nat.reduceEqDiff, reduceIte, Nat.reduceAdd]))) | exact trivial)
   exact ⟨by omega, by rw [h2.out, if_neg hv']⟩
  ·have hv' : v = x := by simpa using hv
   replace hv' := Lib.hid hv';repeat' (first | refine yA ?_ | with_reducible refine yB ?_ ?_ | ((with_reducible refine yC fun h => ?_); have h' := h; (try simp at h'); (try subst h')) | exact trivial)
   rw [h2.out, if_pos hv'.out]
 ·obtain rfl : i = l.length := by omega
  rw [List.drop_length] at h2;replace h2 := Lib.hid h2;repeat' (first | refine yA ?_ | with_reducible refine yB ?_ ?_ | ((with_reducible refine yC fun h => ?_); have h' := h; (try simp at h'); (try subst h')) | exact trivial)
  rw [h2.out]; rfl
theorem qa1s (l : List Int) (v : Int) (hl : l.length ≤ 1000000) (q : Nat) : SCalls Tryz.prog 48 [nums .i64 l, .int .i64 v] [] q (.bool (l.contains v)) [] := by
 refine qabt ?_ (fun _ => rfl) (fun _ => rfl) rfl q;refine yF (N := 9) Tryz.func48 qap1 ?_;rintro X hP hN hm;have hi := qak3 v l 0;have hc := fun q => yQ (index_s l v hl) q
 generalize qaeu v l 0 = I at hi hc;unfold qap1;repeat' (first | refine yA ?_ | refine qabe (hc _) ?_ | exact trivial)
 all_goals (exact decide_eq_decide.2 Iff.rfl)
end
section
attribute [local simp] qa9x refc qaz1 qa9y qakg opc actc tabc qa9v qbam nums jc
theorem qafl {xs ks : List Int} {i : Nat} (h1 : i < xs.length) (h2 : i < ks.length) : qacf (xs.drop i) (ks.drop i) = (qaja xs[i] ks[i] || qacf (xs.drop (i + 1)) (ks.drop (i + 1))) := by
 rw [List.drop_eq_getElem_cons h1, List.drop_eq_getElem_cons h2]; rfl
def AW (acts : List ActD) : Prop := ∀ a ∈ acts, ∀ w ∈ a.w, Fits .i64 w
theorem qbab (t : TabD) (acts : List ActD) (act : Int) (args : List Int) (ha : AW acts) (hl : t.acts.length ≤ 1000000) (hl2 : args.length ≤ 1000000) (hr : ∀ k ∈ t.acts, 0 ≤ k ∧ k < acts.length) (q : Nat) : SCalls Tryz.prog 37 [.agg (tabc t), .view 2 (acts.map actc), .int .i64 act, nums .u64 args] [] q (.int .i64 (qaec t.acts acts act args)) [] := by
 refine qabt ?_ (fun _ => rfl) (fun _ => rfl) rfl q;refine yF (N := 42) Tryz.func37 c_says ?_;rintro X hP hN hm;have hc := fun q => qa1s t.acts act hl q
 unfold c_says;cases hin : t.acts.contains act
 ·rw [hin] at hc;have hz : qaec t.acts acts act args = 5 := by unfold qaec; rw [hin]; rfl
  rw [hz];repeat' (first | refine yA ?_ | with_reducible refine yB ?_ ?_ | ((with_reducible refine yC fun h => ?_); have h' := h; (try simp at h'); (try subst h')) | refine qabe (hc _) ?_ | exact trivial)
  rfl
 ·rw [hin] at hc;obtain ⟨hr0, hr1⟩ := hr act (by simpa using hin);have hlt : act.toNat < acts.length := by omega
  have hAm := ha acts[act.toNat] (List.getElem_mem hlt);have hF : qaec t.acts acts act args = if args.length ≠ acts[act.toNat].w.length then 2 else if qacf args acts[act.toNat].w = true then 6 else 0 := by
   unfold qaec;have : actW acts act = acts[act.toNat].w := by unfold actW; rw [List.getElem?_eq_getElem hlt]; rfl
   rw [hin, this]; rfl
  generalize qaec t.acts acts act args = F at hF;generalize hA : acts[act.toNat] = A at hAm hF;replace hAm := Lib.hid hAm;by_cases hlen : args.length = A.w.length
  ·rw [if_neg (by simpa using hlen)] at hF;have kl : ((args.length : Int) != (A.w.length : Int)) = false := by simp [hlen]
   replace hF := Lib.hid hF;replace hlen := Lib.hid hlen;repeat' (first | refine yA ?_ | with_reducible refine yB ?_ ?_ | ((with_reducible refine yC fun h => ?_); have h' := h; (try simp at h'); (try subst h')) | refine qabe (hc _) ?_ | exact trivial)
   refine qabf (qaco (fun s (i : Nat) => s.turn [(29, .int .i64 i)] []) (fun i => i ≤ args.length ∧ F = if qacf (args.drop i) (A.w.drop i) = true then 6 else 0) (fun i => args.length - i) 0 ?_ ⟨by simp, hF.out⟩ ?_)
   ·repeat' (first | exact yD | refine yE ?_ | with_reducible refine yB ?_ ?_ | exact trivial)
   rintro J hJ i ⟨h1, h2⟩;unfold qatq;simp only [zT, puth, Nat.reduceEqDiff, reduceIte, Nat.reduceAdd] at h1 h2 ⊢;rcases Nat.lt_or_ge i args.length with hi | hi
   ·have hi2 : i < A.w.length := by have := hlen.out; omega
    rw [qafl hi hi2] at h2;have hms := fun q => mask_w A.w[i] (hAm.out _ (List.getElem_mem hi2)) q
    generalize hw : A.w[i] = w at h2 hms;generalize hx : args[i] = x at h2;have wi : IntKind.i64.wrap ((i : Int) + 1) = (i : Int) + 1 := qabo (by omega) (by omega);replace h2 := Lib.hid h2;cases hv : qaja x w
    ·unfold qaja at hv;repeat' (first | refine yA ?_ | with_reducible refine yB ?_ ?_ | ((with_reducible refine yC fun h => ?_); have h' := h; (try simp at h'); (try subst h')) | refine qabe (hms _) ?_ | exact yD | refine yE ?_ | ((refine qabs hJ (i + 1) ?_ ?_ ?_; (with_reducible refine qabd [] hm ?_ ?_ ?_ ?_) <;> (try simp only [zT, puth, Nat.reduceEqDiff, reduceIte, Nat.reduceAdd]))) | exact trivial)
     refine ⟨by omega, ?_⟩;rw [h2.out, show qaja x w = false from hv, Bool.false_or]
    ·unfold qaja at hv;repeat' (first | refine yA ?_ | with_reducible refine yB ?_ ?_ | ((with_reducible refine yC fun h => ?_); have h' := h; (try simp at h'); (try subst h')) | refine qabe (hms _) ?_ | exact trivial)
     rw [h2.out, show qaja x w = true from hv]; rfl
   ·obtain rfl : i = args.length := by omega
    rw [List.drop_length] at h2;replace h2 := Lib.hid h2;repeat' (first | refine yA ?_ | with_reducible refine yB ?_ ?_ | ((with_reducible refine yC fun h => ?_); have h' := h; (try simp at h'); (try subst h')) | exact trivial)
    rw [h2.out]; rfl
  ·rw [if_pos (by simpa using hlen)] at hF;have kl : ((args.length : Int) != (A.w.length : Int)) = true := by simp; omega
   replace hF := Lib.hid hF;repeat' (first | refine yA ?_ | with_reducible refine yB ?_ ?_ | ((with_reducible refine yC fun h => ?_); have h' := h; (try simp at h'); (try subst h')) | refine qabe (hc _) ?_ | exact trivial)
   rw [hF.out]
set_option maxHeartbeats 4000000 in
theorem qaqf (t : TabD) (ws : List Int) (acts : List ActD) (ha : AW acts) (h1 : t.acts.length ≤ 1000000) (h2 : t.args.length ≤ 1000000) (h3 : ws.length ≤ 1000000) (h4 : acts.length ≤ 1000000) (q : Nat) : SCalls Tryz.prog 22 [.agg (tabc t), nums .i64 ws, .view 2 (acts.map actc)] [] q (.int .i64 (qadf t ws acts)) [] := by
 refine qabt ?_ (fun _ => rfl) (fun _ => rfl) rfl q;refine yF (N := 101) Tryz.func22 qa3n ?_;rintro X hP hN hm;have hsays := fun (hr : ∀ k ∈ t.acts, 0 ≤ k ∧ k < acts.length) q => qbab t acts t.def_ t.args ha h1 h2 hr q
 replace hsays := Lib.hid hsays;replace ha := Lib.hid ha;obtain ⟨n, hn⟩ : ∃ n, ws.length = n := ⟨_, rfl⟩
 obtain ⟨m, hma⟩ : ∃ m, t.acts.length = m := ⟨_, rfl⟩
 unfold qa3n;by_cases g1 : t.kind < 1 ∨ 3 < t.kind
 ·have hz : qadf t ws acts = 5 := by unfold qadf; rw [if_pos g1]
  rw [hz];have k1 : (t.kind != 1) = true := by simp; omega
  have k2 : (t.kind != 2) = true := by simp; omega
  have k3 : (t.kind != 3) = true := by simp; omega
  replace g1 := Lib.hid g1;repeat' (first | refine yA ?_ | with_reducible refine yB ?_ ?_ | ((with_reducible refine yC fun h => ?_); have h' := h; (try simp at h'); (try subst h')) | exact trivial)
  rfl
 by_cases g2 : ws.length < 1 ∨ 3 < ws.length ∨ (t.kind = 2 ∧ 1 < ws.length) ∨ t.acts.length < 1 ∨ 4 < t.acts.length
 ·have hz : qadf t ws acts = 2 := by unfold qadf; rw [if_neg g1, if_pos g2]
  rw [hz];replace g1 := Lib.hid g1;replace g2 := Lib.hid g2;repeat' (first | refine yA ?_ | with_reducible refine yB ?_ ?_ | ((with_reducible refine yC fun h => ?_); have h' := h; (try simp at h'); (try subst h')) | exact trivial)
  all_goals (first | rfl | (exfalso; have q := g2.out; have q1 := g1.out; omega))
 by_cases g3 : t.cap < 0 ∨ 16 < t.cap
 ·have hz : qadf t ws acts = 1 := by unfold qadf; rw [if_neg g1, if_neg g2, if_pos g3]
  rw [hz];replace g1 := Lib.hid g1;replace g2 := Lib.hid g2;replace g3 := Lib.hid g3;repeat' (first | refine yA ?_ | with_reducible refine yB ?_ ?_ | ((with_reducible refine yC fun h => ?_); have h' := h; (try simp at h'); (try subst h')) | exact trivial)
  all_goals (first | rfl | (exfalso; have q := g2.out; have q1 := g1.out; have q3 := g3.out; omega))
 have hF : qadf t ws acts = if (ws.drop 0).any wOut = true then 6 else if (t.acts.drop 0).any (aOut acts.length) = true then 1 else qaec t.acts acts t.def_ t.args := by
  unfold qadf; rw [if_neg g1, if_neg g2, if_neg g3]; rfl
 generalize qadf t ws acts = F at hF;replace hF := Lib.hid hF;have l0 : ((ws.length : Int) == 0) = false := by rw [beq_eq_false_iff_ne]; omega
 have l3 : decide (3 < (ws.length : Int)) = false := by rw [decide_eq_false_iff_not]; omega
 have a0 : ((t.acts.length : Int) == 0) = false := by rw [beq_eq_false_iff_ne]; omega
 have a4 : decide (4 < (t.acts.length : Int)) = false := by rw [decide_eq_false_iff_not]; omega
 have q0 : decide (t.cap < 0) = false := by rw [decide_eq_false_iff_not]; omega
 have q16 : decide (16 < t.cap) = false := by rw [decide_eq_false_iff_not]; omega
 have hks : ((t.kind != 1) = false ∧ (t.kind == 2) = false) ∨ ((t.kind != 1) = true ∧ (t.kind != 2) = false ∧ (t.kind == 2) = true ∧ ((ws.length : Int) != 1) = false) ∨ ((t.kind != 1) = true ∧ (t.kind != 2) = true ∧ (t.kind != 3) = false ∧ (t.kind == 2) = false) := by
  by_cases e1 : t.kind = 1
  ·left; rw [e1]; exact ⟨rfl, rfl⟩
  by_cases e2 : t.kind = 2
  ·right; left; refine ⟨by simpa using e1, by simpa using e2, by simpa using e2, ?_⟩
   rw [bne_eq_false_iff_eq]; omega
  ·right; right; refine ⟨by simpa using e1, by simpa using e2, ?_, by simpa using e2⟩
   rw [bne_eq_false_iff_eq]; omega
 clear g1 g2 g3 hn hma n m;rcases hks with ⟨k1, k2⟩ | ⟨k1, k2, k3, k4⟩ | ⟨k1, k2, k3, k4⟩
 all_goals
  repeat' (first | refine yA ?_ | with_reducible refine yB ?_ ?_ | ((with_reducible refine yC fun h => ?_); have h' := h; (try simp at h'); (try subst h')) | exact trivial)
  clear k1 k2 a0 a4 q0 q16 l0 l3;refine qabf (qaco (fun s (i : Nat) => s.turn [(67, .int .i64 i)] []) (fun i => i ≤ ws.length ∧ F = if (ws.drop i).any wOut = true then 6 else if (t.acts.drop 0).any (aOut acts.length) = true then 1 else qaec t.acts acts t.def_ t.args) (fun i => ws.length - i) 0 ?_ ⟨by simp, hF.out⟩ ?_)
  ·repeat' (first | exact yD | refine yE ?_ | with_reducible refine yB ?_ ?_ | exact trivial)
  rintro J hJ i ⟨h5, h6⟩;unfold qale;simp only [zT, puth, Nat.reduceEqDiff, reduceIte, Nat.reduceAdd] at h5 h6 ⊢;rcases Nat.lt_or_ge i ws.length with hi | hi
  ·rw [qamw _ hi] at h6;generalize hxx : ws[i] = x at h6;have wi : IntKind.i64.wrap ((i : Int) + 1) = (i : Int) + 1 := qabo (by omega) (by omega);replace h6 := Lib.hid h6;cases hv : wOut x
   ·have hv1 : decide (x < 1) = false ∧ decide (48 < x) = false := by simpa [wOut] using hv
    obtain ⟨v1, v2⟩ := hv1;repeat' (first | refine yA ?_ | with_reducible refine yB ?_ ?_ | ((with_reducible refine yC fun h => ?_); have h' := h; (try simp at h'); (try subst h')) | exact yD | refine yE ?_ | ((refine qabs hJ (i + 1) ?_ ?_ ?_; (with_reducible refine qabd [] hm ?_ ?_ ?_ ?_) <;> (try simp only [zT, puth, Nat.reduceEqDiff, reduceIte, Nat.reduceAdd]))) | exact trivial)
    exact ⟨by omega, by rw [h6.out, hv, Bool.false_or]⟩
   ·replace hv := Lib.hid hv;repeat' (first | refine yA ?_ | with_reducible refine yB ?_ ?_ | ((with_reducible refine yC fun h => ?_); have h' := h; (try simp at h'); (try subst h')) | exact yD | refine yE ?_ | ((refine qabs hJ (i + 1) ?_ ?_ ?_; (with_reducible refine qabd [] hm ?_ ?_ ?_ ?_) <;> (try simp only [zT, puth, Nat.reduceEqDiff, reduceIte, Nat.reduceAdd]))) | exact trivial)
    all_goals (first | (exfalso; have q := hv.out; simp only [wOut, Bool.or_eq_true, decide_eq_true_eq] at q; omega) | (rw [h6.out, hv.out]; rfl))
  ·obtain rfl : i = ws.length := by omega
   have h7 : F = if (t.acts.drop 0).any (aOut acts.length) = true then 1 else qaec t.acts acts t.def_ t.args := by rw [h6, List.drop_length]; rfl
   replace h7 := Lib.hid h7;replace h6 := Lib.hid h6;repeat' (first | refine yA ?_ | with_reducible refine yB ?_ ?_ | ((with_reducible refine yC fun h => ?_); have h' := h; (try simp at h'); (try subst h')) | exact trivial)
   refine qabf (qaco (fun s (i : Nat) => s.turn [(81, .int .i64 i)] []) (fun i => i ≤ t.acts.length ∧ (∀ k ∈ t.acts.take i, aOut acts.length k = false) ∧ F = if (t.acts.drop i).any (aOut acts.length) = true then 1 else qaec t.acts acts t.def_ t.args) (fun i => t.acts.length - i) 0 ?_ ⟨by simp, by simp, h7.out⟩ ?_)
   ·repeat' (first | exact yD | refine yE ?_ | with_reducible refine yB ?_ ?_ | exact trivial)
   rintro J hJ i ⟨h8, h9, h10⟩;unfold qald;simp only [zT, puth, Nat.reduceEqDiff, reduceIte, Nat.reduceAdd] at h8 h9 h10 ⊢;replace h9 := Lib.hid h9;rcases Nat.lt_or_ge i t.acts.length with hi | hi
   ·rw [qamw _ hi] at h10;have htk : t.acts.take (i + 1) = t.acts.take i ++ [t.acts[i]] := List.take_succ_eq_append_getElem hi;generalize hxx : t.acts[i] = x at h10 htk;have wi : IntKind.i64.wrap ((i : Int) + 1) = (i : Int) + 1 := qabo (by omega) (by omega);replace h10 := Lib.hid h10;replace htk := Lib.hid htk;cases hv : aOut acts.length x
    ·have hv1 : decide (x < 0) = false ∧ decide ((acts.length : Int) ≤ x) = false := by simpa [aOut] using hv
     obtain ⟨v1, v2⟩ := hv1;replace hv := Lib.hid hv;repeat' (first | refine yA ?_ | with_reducible refine yB ?_ ?_ | ((with_reducible refine yC fun h => ?_); have h' := h; (try simp at h'); (try subst h')) | exact yD | refine yE ?_ | ((refine qabs hJ (i + 1) ?_ ?_ ?_; (with_reducible refine qabd [] hm ?_ ?_ ?_ ?_) <;> (try simp only [zT, puth, Nat.reduceEqDiff, reduceIte, Nat.reduceAdd]))) | exact trivial)
     refine ⟨by omega, fun k hk => ?_, by rw [h10.out, hv.out, Bool.false_or]⟩;rw [htk.out, List.mem_append] at hk;rcases hk with hk | hk
     ·exact h9.out k hk
     ·rw [List.mem_singleton.1 hk]; exact hv.out
    ·replace hv := Lib.hid hv;repeat' (first | refine yA ?_ | with_reducible refine yB ?_ ?_ | ((with_reducible refine yC fun h => ?_); have h' := h; (try simp at h'); (try subst h')) | exact yD | refine yE ?_ | ((refine qabs hJ (i + 1) ?_ ?_ ?_; (with_reducible refine qabd [] hm ?_ ?_ ?_ ?_) <;> (try simp only [zT, puth, Nat.reduceEqDiff, reduceIte, Nat.reduceAdd]))) | exact trivial)
     all_goals (first | (exfalso; have q := hv.out; simp only [aOut, Bool.or_eq_true, decide_eq_true_eq] at q; omega) | (rw [h10.out, hv.out]; rfl))
   ·obtain rfl : i = t.acts.length := by omega
    have h11 : ∀ k ∈ t.acts, 0 ≤ k ∧ k < acts.length := fun k hk => by
     have := h9.out k (by rw [List.take_length]; exact hk);unfold aOut at this; rw [Bool.or_eq_false_iff, decide_eq_false_iff_not, decide_eq_false_iff_not] at this; omega
    have h12 : F = qaec t.acts acts t.def_ t.args := by rw [h10, List.drop_length]; rfl
    have hs := hsays.out h11;replace hs := Lib.hid hs;replace h11 := Lib.hid h11;replace h10 := Lib.hid h10;replace h12 := Lib.hid h12;repeat' (first | refine yA ?_ | with_reducible refine yB ?_ ?_ | ((with_reducible refine yC fun h => ?_); have h' := h; (try simp at h'); (try subst h')) | refine qabe (hs.out _) ?_ | exact trivial)
    rw [h12.out]
end
end
abbrev qbdy : List SOper := [Oa 3 (.box 26 (.t 0)), Oa 6 (.mv (.c .nil)), Oa 7 (.alloc 34 [(.int .i64 0), (.int .i64 0)])]
abbrev qbdx : List SOper := [Sa 12 6 3, Ma 13 1, Ma 14 2, Qc 15 22 [12, 13, 14], Ma 8 15]
abbrev qbdw : List SOper := [Ma 16 8, Ca 17 .neq 16 0]
abbrev qbdv : List SOper := [Ma 18 8, Oa 19 (.build [(.int .i64 0), (.int .i64 0)] [(0, 1, (.t 18)), (1, 1, (.c (.int .i64 (-1))))]), Oa 6 (.mv (.c .nil)), Va 2 7 19]
abbrev qbdu : List SOper := [Ma 20 1, Qh 21 31 [20] 1, Fa 22 4 3, Od 23 (Pa 22) 4, Fa 24 5 3, Od 25 (Pa 24) 16, Qh 26 32 [25] 51, Od 27 (.build [(.int .i64 0), .nilsl] [(0, 1, (.t 23)), (1, 1, (.t 26))]) 127, Od 28 (.build [.niliface, (.int .i64 0), .nilsl, .nilsl, (.int .i64 0), (.int .i64 0), .nilsl, .nilsl, .nilsl, (.int .i64 0), .nilsl] [(7, 1, (.t 21)), (9, 2, (.t 27))]) 255, Od 29 (.box 76 (.t 28)) 511, Od 9 (Pm 29) 1023]
abbrev qbdt : List SOper := [Ma 30 9, Sa 31 6 3, Oa 32 (.nilc (.t 30)), Fa 33 1 32, Va 6 33 31]
abbrev qbds : List SOper := [Ma 34 9, Fa 35 2 3, La 36 35, Qc 37 31 [36], Oa 38 (.nilc (.t 34)), Fa 39 1 38, Fa 40 2 39, Va 1 40 37]
abbrev qbdr : List SOper := [Ma 41 2, Na 42 41, Ka 43 0]
abbrev qbdq : List SOper := [Ba 44 .lss 43 42]
abbrev qa31 : List SOper := [Ia 45 2 41 43, Sa 46 2 45, Oa 11 (.alloc 69 [.nilsl, .nilsl]), Va 2 11 46]
abbrev qa30 : List SOper := [Ma 47 9, Ma 48 9, Od 49 (.nilc (.t 48)) 2, Od 50 (Pf 8 49) 6, Od 51 (Pa 50) 14, Fa 52 0 11, Od 53 (Pa 52) 32, Qh 54 31 [53] 96, Od 55 (.build [.nilsl, .nilsl] [(0, 1, (.t 54))]) 224, Od 56 (.mkrow 69 2 1 [.nilsl, .nilsl] [(0, (.t 55))]) 480, Od 57 (.app 69 2 48 (.t 51) (.t 56)) 1022, Od 58 (.nilc (.t 47)) 2047, Od 59 (Pf 8 58) 4095, Og (.store 1 (.t 59) (.t 57)) 8191]
abbrev qa3z : List SOper := [Ca 60 .add 43 1, Ma 43 60]
def qatk : SCode := (Sf qbdq [1, 3, 7, 9, 41, 42, 43, 44] (.seq (Ce 44 0) (.seq (.block 1 (Sf qa31 [1, 3, 7, 9, 11, 41, 42, 43] (Rt qa30 [1, 3, 7, 9, 41, 42, 43]))) (Rf qa3z [1, 3, 7, 9, 41, 42, 43]))))
abbrev qaox : List SOper := [Fa 61 0 3, La 62 61]
abbrev qa3y : List SOper := [Ca 74 .eql 62 1, Ma 73 74]
abbrev qa3x : List SOper := [Ma 75 9, Ma 76 1, Na 77 76, Fa 78 3 3, La 79 78, Qc 80 33 [77, 79], Oa 81 (.build [.nil] [(0, 1, (.t 80))]), Oa 82 (.mkifc 80 (.t 81)), Oa 83 (.nilc (.t 75)), Fa 84 0 83, Va 1 84 82]
abbrev qa3w : List SOper := [Ca 86 .eql 62 2, Ma 85 86]
abbrev qa3v : List SOper := [Ma 87 9, Ma 88 1, Od 89 (.iaddr 1 (.t 88) (.c (.int .i64 0))) 2, Od 90 (Pa 89) 6, Fa 91 3 3, Od 92 (Pa 91) 16, Qh 93 34 [90, 92] 62, Od 94 (.build [.nil] [(0, 1, (.t 93))]) 126, Od 95 (.mkifc 84 (.t 94)) 254, Od 96 (.nilc (.t 87)) 511, Od 97 (Pf 0 96) 1023, Og (.store 1 (.t 97) (.t 95)) 2047]
abbrev qa3u : List SOper := [Ma 63 9, Ma 64 1, Na 65 64, Fa 66 3 3, La 67 66, Qc 68 35 [65, 67], Oa 69 (.build [.nil] [(0, 1, (.t 68))]), Oa 70 (.mkifc 88 (.t 69)), Oa 71 (.nilc (.t 63)), Fa 72 0 71, Va 1 72 70]
abbrev qa3t : List SOper := [Ma 98 9, Oa 99 (.build [(.int .i64 0), (.int .i64 0)] []), Ma 6 98, Va 2 7 99]
def qbdz : SCode := (Sf qbdy [1, 2, 3, 7] (.seq (Sf qbdx [1, 2, 3, 7, 8] (Sf qbdw [1, 2, 3, 7, 8, 17] (Cn 17 (Sf qbdv [6, 7] .ret) .skip))) (.seq (Rt qbdu [1, 2, 3, 7, 9]) (Sf qbdt [1, 2, 3, 7, 9] (Sf qbds [1, 2, 3, 7, 9] (.seq (Sf qbdr [1, 3, 7, 9, 41, 42, 43] (Bl 0 qatk)) (.seq (Sf qaox [1, 3, 7, 9, 62] (.block 2 (Sf qa3y [1, 3, 7, 9, 62, 73] (Cn 73 (Rf qa3x [7, 9]) (Sf qa3w [1, 3, 7, 9, 85] (Cn 85 (Rt qa3v [7, 9]) (Rf qa3u [7, 9]))))))) (Sf qa3t [6, 7] .ret))))))))
abbrev qa4s : List SOper := [Oa 4 (.mv (.c (.bool false)))]
abbrev qa4r : List SOper := [Ma 7 1, Na 8 7, Ka 9 0]
abbrev qa4q : List SOper := [Ba 10 .lss 9 8]
abbrev qa4p : List SOper := [Ma 11 9, Ia 12 1 7 9, La 13 12, Ma 5 11, Ma 6 13]
abbrev qa4o : List SOper := [Ma 14 6, Ma 15 0, Oa 16 (.nilc (.t 15)), Fa 17 7 16, La 18 17, Ma 19 5, Ia 20 1 18 19, La 21 20, Qc 22 49 [21], Ba 23 .gtr 14 22]
abbrev qa4n : List SOper := [Oa 4 (.mv (.c (.bool false)))]
abbrev qa4m : List SOper := [Ca 24 .add 9 1, Ma 9 24]
def qaoz : SCode := (Sf qa4q [0, 7, 8, 9, 10] (.seq (Ce 10 0) (.seq (.block 1 (Sf qa4p [0, 5, 6, 7, 8, 9] (Sf qa4o [0, 7, 8, 9, 23] (Cn 23 (Sf qa4n [4] .ret) .skip)))) (Rf qa4m [0, 7, 8, 9]))))
abbrev qa4l : List SOper := [Oa 4 (.mv (.c (.bool true)))]
def qbkb : SCode := (Sf qa4s [0, 1] (.seq (Sf qa4r [0, 7, 8, 9] (Bl 0 qaoz)) (Sf qa4l [4] .ret)))
abbrev qa4k : List SOper := [Oa 3 (.box 38 (.t 1)), Ka 4 0]
abbrev qa4j : List SOper := [Ma 6 0, Oa 7 (.nilc (.t 6)), Fa 8 1 7, Fa 9 0 8, La 10 9, Ca 11 .eql 10 3, Ma 5 11]
abbrev qa4i : List SOper := [Fa 13 0 3, Od 14 (Pa 13) 1, Od 15 (Pn 14) 3, Ma 16 0, Od 17 (.nilc (.t 16)) 8, Od 18 (Pf 7 17) 24, Od 19 (Pa 18) 56, Od 20 (Pn 19) 120, Od 21 (Pb .neq 15 20) 255, Od 22 (Pm 21) 511, Of 23 (Pm 5) 22 false 1023, Of 24 (Pm 23) 22 false 2047, Of 25 (Pf 1 3) 24 true 4095, Of 26 (Pa 25) 24 true 8191, Of 27 (Pn 26) 24 true 16383, Of 28 (Pm 0) 24 true 4095, Of 29 (.nilc (.t 28)) 24 true 36863, Of 30 (Pf 7 29) 24 true 102399, Of 31 (Pa 30) 24 true 233471, Of 32 (Pn 31) 24 true 495615, Of 33 (Pb .neq 27 32) 24 true 1048575, Of 34 (Pu 24 33) 22 false 2097151, Od 35 (Pt 22 34) 4194303, Od 12 (Pm 35) 8388607]
abbrev qa4h : List SOper := [Ka 4 2]
abbrev qa4g : List SOper := [Ma 37 5, Oa 38 (.un .not (.t 37)), Ma 39 38, Oe 40 (Pf 1 3) 39 true, Oe 41 (Pa 40) 39 true, Oe 42 (Pn 41) 39 true, Oe 43 (Pc .gtr 42 0) 39 true, Oe 44 (Pm 43) 39 true, Oe 45 (Pf 3 3) 44 false, Oe 46 (Pa 45) 44 false, Oe 47 (Pc .neq 46 0) 44 false, Oe 48 (Pt 44 47) 39 true, Ua 49 39 48, Ma 50 49, Oe 51 (Pm 0) 50 false, Oe 52 (.nilc (.t 51)) 50 false, Oe 53 (Pf 1 52) 50 false, Oe 54 (Pf 0 53) 50 false, Oe 55 (Pa 54) 50 false, Oe 56 (Pc .neq 55 2) 50 false, Oe 57 (Pm 56) 50 false, Oe 58 (Pf 2 3) 57 true, Oe 59 (Pa 58) 57 true, Oe 60 (Pc .neq 59 0) 57 true, Oe 61 (Pu 57 60) 50 false, Ta 62 50 61, Ma 36 62]
abbrev qa4f : List SOper := [Ka 4 4]
abbrev qa4e : List SOper := [Ma 64 0, Fa 65 0 3, La 66 65, Qc 67 38 [64, 66], Oa 68 (.un .not (.t 67)), Ma 69 68, Oe 70 (Pm 5) 69 false, Oe 71 (Pm 70) 69 false, Oe 72 (Pm 0) 71 true, Oe 73 (Pf 1 3) 71 true, Oe 74 (Pa 73) 71 true, Qi 75 38 [72, 74] 71 true 0, Oe 76 (.un .not (.t 75)) 71 true, Oe 77 (Pu 71 76) 69 false, Ta 78 69 77, Ma 63 78]
abbrev qa4d : List SOper := [Ka 4 6]
abbrev qa4c : List SOper := [Ka 4 0]
def qbka : SCode := (Sf qa4k [0, 3] (Sf qa4j [0, 3, 5] (.seq (.block 0 (.seq (Rt qa4i [0, 3, 5, 12]) (Cn 12 (Sf qa4h [4] .ret) (Sf qa4g [0, 3, 5, 36] (Cn 36 (Sf qa4f [4] .ret) (Sf qa4e [63] (Cn 63 (Sf qa4d [4] .ret) .skip))))))) (Sf qa4c [4] .ret))))
abbrev qbff : List SOper := [Oa 3 (.box 38 (.t 1)), Ka 4 0]
abbrev qbfe : List SOper := [Ma 7 0, Sa 8 6 3, Qc 9 36 [7, 8], Ma 5 9]
abbrev qbfd : List SOper := [Ma 10 5, Ca 11 .neq 10 0]
abbrev qbfc : List SOper := [Ma 12 5, Ma 4 12]
abbrev qbfb : List SOper := [Ma 13 0, Od 14 (.nilc (.t 13)) 1, Od 15 (Pf 1 14) 3, Od 16 (Ps 6 15) 7, Ma 17 0, Od 18 (.nilc (.t 17)) 16, Od 19 (Pf 8 18) 48, Od 20 (Pa 19) 112, Fa 21 4 3, Od 22 (Pa 21) 256, Fa 23 5 3, Od 24 (Pa 23) 1024, Qh 25 37 [16, 20, 22, 24] 4095, Od 6 (Pm 25) 8191]
abbrev qbfa : List SOper := [Ma 26 6, Ca 27 .neq 26 0]
abbrev qbe9 : List SOper := [Ma 28 6, Ma 4 28]
abbrev qbe8 : List SOper := [Ma 29 0, Od 30 (.nilc (.t 29)) 1, Od 31 (Pf 0 30) 3, Od 32 (Pa 31) 7, Sa 33 6 3, ⟨(some 34), .mv (.c .any), some ((.c (.fn (.method "shuntyard/store.add") [] [])), [(.t 32), (.t 33)]), none, 31⟩, Od 4 (Pm 34) 63]
def c_sadd : SCode := (Sf qbff [0, 3] (.seq (Sf qbfe [0, 3, 5] (Sf qbfd [0, 3, 5, 11] (Cn 11 (Sf qbfc [4] .ret) .skip))) (.seq (.seq (Rt qbfb [0, 3, 6]) (Sf qbfa [0, 3, 6, 27] (Cn 27 (Sf qbe9 [4] .ret) .skip))) (.seq (Rt qbe8 [4]) .ret))))
abbrev qbeo : List SOper := [Oa 3 (.box 38 (.t 1)), Ka 4 0]
abbrev qben : List SOper := [Ma 7 0, Sa 8 6 3, Qc 9 36 [7, 8], Ma 5 9]
abbrev qbem : List SOper := [Ma 10 5, Ca 11 .neq 10 0]
abbrev qbel : List SOper := [Ma 12 5, Ma 4 12]
abbrev qbek : List SOper := [Ma 13 0, Od 14 (.nilc (.t 13)) 1, Od 15 (Pf 1 14) 3, Od 16 (Ps 6 15) 7, Ma 17 0, Od 18 (.nilc (.t 17)) 16, Od 19 (Pf 8 18) 48, Od 20 (Pa 19) 112, Fa 21 4 3, Od 22 (Pa 21) 256, Fa 23 5 3, Od 24 (Pa 23) 1024, Qh 25 37 [16, 20, 22, 24] 4095, Od 6 (Pm 25) 8191]
abbrev qbej : List SOper := [Ma 26 6, Ca 27 .neq 26 0]
abbrev qbei : List SOper := [Ma 28 6, Ma 4 28]
abbrev qbeh : List SOper := [Ma 29 0, Od 30 (.nilc (.t 29)) 1, Od 31 (Pf 0 30) 3, Od 32 (Pa 31) 7, Sa 33 6 3, ⟨(some 34), .mv (.c .any), some ((.c (.fn (.method "shuntyard/store.change") [] [])), [(.t 32), (.t 33)]), none, 31⟩, Od 4 (Pm 34) 63]
def c_schg : SCode := (Sf qbeo [0, 3] (.seq (Sf qben [0, 3, 5] (Sf qbem [0, 3, 5, 11] (Cn 11 (Sf qbel [4] .ret) .skip))) (.seq (.seq (Rt qbek [0, 3, 6]) (Sf qbej [0, 3, 6, 27] (Cn 27 (Sf qbei [4] .ret) .skip))) (.seq (Rt qbeh [4]) .ret))))
abbrev qa43 : List SOper := [Oa 3 (.box 38 (.t 1)), Ka 4 0]
abbrev qa42 : List SOper := [Ma 6 0, Sa 7 6 3, Qc 8 36 [6, 7], Ma 5 8]
abbrev qa41 : List SOper := [Ma 9 5, Ca 10 .neq 9 0]
abbrev qa40 : List SOper := [Ma 11 5, Ma 4 11]
abbrev qa4z : List SOper := [Ma 12 0, Od 13 (.nilc (.t 12)) 1, Od 14 (Pf 0 13) 3, Od 15 (Pa 14) 7, Sa 16 6 3, ⟨(some 17), .mv (.c .any), some ((.c (.fn (.method "shuntyard/store.drop") [] [])), [(.t 15), (.t 16)]), none, 31⟩, Od 4 (Pm 17) 63]
def qbke : SCode := (Sf qa43 [0, 3] (.seq (Sf qa42 [0, 3, 5] (Sf qa41 [0, 3, 5, 10] (Cn 10 (Sf qa40 [4] .ret) .skip))) (.seq (Rt qa4z [4]) .ret)))
abbrev qbeg : List SOper := [Oa 3 (.box 46 (.t 1)), Ka 4 0]
abbrev qbef : List SOper := [Ma 6 0, Od 7 (.nilc (.t 6)) 1, Od 8 (Pf 1 7) 3, Od 9 (Ps 6 8) 7, Ma 10 0, Od 11 (.nilc (.t 10)) 16, Od 12 (Pf 8 11) 48, Od 13 (Pa 12) 112, Fa 14 0 3, Od 15 (Pa 14) 256, Fa 16 1 3, Od 17 (Pa 16) 1024, Qh 18 37 [9, 13, 15, 17] 4095, Od 5 (Pm 18) 8191]
abbrev qbee : List SOper := [Ma 19 5, Ca 20 .neq 19 0]
abbrev qbed : List SOper := [Ma 21 5, Ma 4 21]
abbrev qbec : List SOper := [Ma 22 0, Fa 23 0 3, Od 24 (Pa 23) 2, Fa 25 1 3, Od 26 (Pa 25) 8, Qh 27 32 [26] 24, Od 28 (.build [(.int .i64 0), .nilsl] [(0, 1, (.t 24)), (1, 1, (.t 27))]) 62, Od 29 (.nilc (.t 22)) 127, Od 30 (Pf 9 29) 255, Og (.store 2 (.t 30) (.t 28)) 511]
abbrev qbeb : List SOper := [Ka 4 0]
def c_sdef : SCode := (Sf qbeg [0, 3] (.seq (.seq (Rt qbef [0, 3, 5]) (Sf qbee [0, 3, 5, 20] (Cn 20 (Sf qbed [4] .ret) .skip))) (.seq (Rt qbec []) (Sf qbeb [4] .ret))))
abbrev qa4y : List SOper := [Oa 4 (.alloc 46 [(.int .i64 0), .nilsl]), Oa 5 (.mv (.c (.bool false)))]
abbrev qa4x : List SOper := [Ma 8 1, Na 9 8, Ma 10 0, Oa 11 (.nilc (.t 10)), Fa 12 7 11, La 13 12, Na 14 13, Ba 15 .eql 9 14, Ma 16 15, Oe 17 (Pm 0) 16 true, Oe 18 (Pm 1) 16 true, Qi 19 38 [17, 18] 16 true 0, Ua 20 16 19]
abbrev qa4w : List SOper := [Ma 22 0, Oa 23 (.nilc (.t 22)), Fa 24 0 23, La 25 24, Ma 26 1, ⟨(some 27), .mv (.c .any), some ((.c (.fn (.method "shuntyard/store.find") [] [])), [(.t 25), (.t 26)]), none, 0⟩, Ma 21 27, Oa 28 (.extr (.t 21) 0), Oa 29 (.extr (.t 21) 1), Oa 6 (.alloc 46 [(.int .i64 0), .nilsl]), Va 2 6 28, Ma 7 29]
abbrev qa4v : List SOper := [Ma 30 7]
abbrev qa4u : List SOper := [Sa 31 2 6, Va 2 4 31, Oa 5 (.mv (.c (.bool true)))]
abbrev qa4t : List SOper := [Ma 32 0, Od 33 (.nilc (.t 32)) 1, Od 34 (Pf 9 33) 3, Od 35 (Pf 0 34) 7, Od 36 (Pa 35) 15, Ma 37 0, Od 38 (.nilc (.t 37)) 32, Od 39 (Pf 9 38) 96, Od 40 (Pf 1 39) 224, Od 41 (Pa 40) 480, Qh 42 32 [41] 992, Od 43 (.build [(.int .i64 0), .nilsl] [(0, 1, (.t 36)), (1, 1, (.t 42))]) 2047, Og (.store 2 (.t 4) (.t 43)) 4095, Od 5 (.mv (.c (.bool false))) 8191]
def qbkc : SCode := (Sf qa4y [0, 1, 4] (.seq (Sf qa4x [0, 1, 4, 20] (Cn 20 (Sf qa4w [0, 4, 6, 7] (Sf qa4v [0, 4, 6, 30] (Cn 30 (Sf qa4u [4, 5] .ret) .skip))) .skip)) (.seq (Rt qa4t [4, 5]) .ret)))
abbrev qbe7 : List SOper := [Oa 2 (.mv (.c .nilsl))]
abbrev qbe6 : List SOper := [Ma 3 0, Oa 4 (.nilc (.t 3)), Fa 5 0 4, La 6 5, ⟨(some 7), .mv (.c .any), some ((.c (.fn (.method "shuntyard/store.all") [] [])), [(.t 6)]), none, 0⟩, Ma 2 7]
def c_sall : SCode := (Sf qbe7 [0] (Sf qbe6 [2] .ret))
abbrev qbea : List SOper := [Ka 2 0]
abbrev qbd9 : List SOper := [Ma 3 0, Oa 4 (.nilc (.t 3)), Fa 5 0 4, La 6 5, ⟨(some 7), .mv (.c .any), some ((.c (.fn (.method "shuntyard/store.count") [] [])), [(.t 6)]), none, 0⟩, Ma 2 7]
def c_slen : SCode := (Sf qbea [0] (Sf qbd9 [2] .ret))
abbrev qawy : List SOper := [Ka 2 0]
abbrev qawx : List SOper := [Ma 3 0, Oa 4 (.nilc (.t 3)), Fa 5 7 4, La 6 5, Na 7 6, Ma 2 7]
def qa3r : SCode := (Sf qawy [0] (Sf qawx [2] .ret))
abbrev qaw0 : List SOper := [Oa 2 (.alloc 46 [(.int .i64 0), .nilsl])]
abbrev qawz : List SOper := [Ma 3 0, Od 4 (.nilc (.t 3)) 1, Od 5 (Pf 9 4) 3, Od 6 (Pf 0 5) 7, Od 7 (Pa 6) 15, Ma 8 0, Od 9 (.nilc (.t 8)) 32, Od 10 (Pf 9 9) 96, Od 11 (Pf 1 10) 224, Od 12 (Pa 11) 480, Qh 13 32 [12] 992, Od 14 (.build [(.int .i64 0), .nilsl] [(0, 1, (.t 7)), (1, 1, (.t 13))]) 2047, Og (.store 2 (.t 2) (.t 14)) 4095]
def qa3s : SCode := (Sf qaw0 [0, 2] (.seq (Rt qawz [2]) .ret))
theorem ents_nd {k m : Int} {S : XTab} (h : XInv k m S) : (qagw S).Nodup := by
 rw [List.nodup_iff_pairwise_ne];exact (qan5 h).imp fun {a b} hne e => hne (congrArg XSlot.keys e)
abbrev qawf : List SOper := [Oa 3 (.box 26 (.t 0)), Oa 6 (.mv (.c (.bool false)))]
abbrev qawe : List SOper := [Fa 8 2 3, La 9 8, Na 10 9, Ca 11 .gtr 10 50, Ma 12 11, Oe 13 (Pf 5 3) 12 false, Oe 14 (Pa 13) 12 false, Oe 15 (Pn 14) 12 false, Oe 16 (Pc .gtr 15 50) 12 false, Ta 17 12 16, Ma 18 17, Oe 19 (Pm 1) 18 false, Oe 20 (Pn 19) 18 false, Oe 21 (Pc .gtr 20 50) 18 false, Ta 22 18 21, Ma 23 22, Oe 24 (Pm 2) 23 false, Oe 25 (Pn 24) 23 false, Oe 26 (Pc .gtr 25 50) 23 false, Ta 27 23 26]
abbrev qawd : List SOper := [Oa 6 (.mv (.c (.bool true)))]
abbrev qawc : List SOper := [Ka 7 0]
abbrev qawb : List SOper := [Ma 28 7, Ma 29 2, Na 30 29, Ba 31 .lss 28 30]
abbrev qawa : List SOper := [Ma 34 2, Ma 35 7, Ia 36 2 34 35, Fa 37 0 36, La 38 37, Na 39 38, Ca 40 .gtr 39 50]
abbrev qav9 : List SOper := [Oa 6 (.mv (.c (.bool true)))]
abbrev qav8 : List SOper := [Ma 32 7, Ca 33 .add 32 1, Ma 7 33]
def qalc : SCode := (.seq (Sf qawb [2, 7, 31] (Ce 31 0)) (.seq (.block 1 (Sf qawa [2, 7, 40] (Cn 40 (Sf qav9 [6] .ret) .skip))) (Rf qav8 [2, 7])))
abbrev qav7 : List SOper := [Oa 6 (.mv (.c (.bool false)))]
def qa2w : SCode := (Sf qawf [1, 2, 3] (.seq (Sf qawe [2, 27] (Cn 27 (Sf qawd [6] .ret) .skip)) (.seq (Sf qawc [2, 7] (Bl 0 qalc)) (Sf qav7 [6] .ret))))
section
structure RsD where
 t : TabD
 w : List Int
 acts : List ActD
 da : Int
 dl : List Int
attribute [local simp] qaa6 qaa5 qaak qaas qaal qaar qaa3 qaa4 qaae qabh SOp.run SX.ev putd puts argS upds SOp.touch SSt.keep SSt.skip gets geth puth delh idOf SV.cells? setL qac5 qac6 sbin eq0 eq1 eqL qac2 qaby qab0 qaa2 qaa1 qaac qaa7 qabi qaaj qaad FrzOk qaav qaan qaat qaau qaaf qaam qaa8 qaao qaah qaaw qaag frzS frzH frz frz1 frz0 SlotsM ObjsM ObjM rn ren ren1 ren0 qabk qabw qabz qabj qaa9 qabx qab1 CoL qaax qabr dels adds idsH qabc qabn qaca qacq
def qaaq (B : RsD) (k ks wd ms : Int) (id n : Nat) : SObj := .cells 65 [.int .i64 B.t.kind, .view 2 (B.t.keys.map refc), (.view 1 (B.t.acts.map fun x => [.int .i64 x])), .int .i64 B.t.cap, .int .i64 B.t.def_, (.view 1 (B.t.args.map fun x => [.int .u64 x])), (.view 1 (B.w.map fun x => [.int .i64 x])), .view 2 (B.acts.map actc), .int .i64 k, .int .i64 ks, .int .i64 wd, .int .i64 ms, .own id n, .int .i64 B.da, (.view 1 (B.dl.map fun x => [.int .u64 x]))]
def qabm (B : RsD) (k ks wd ms : Int) (L : List Entry) : Hp := [(0, qaaq B k ks wd ms 1 L.length), (1, qabq L)]
theorem qac8 (B : RsD) (k ks wd ms : Int) (L : List Entry) : LtH 2 (qabm B k ks wd ms L) := ⟨by omega, rfl, by omega, qabn _ L, trivial⟩
def qaay (B : RsD) (a b : Nat) (k ks wd ms : Int) (L : List Entry) : Hp := [(a, qaaq B k ks wd ms b L.length), (b, qabq L)]
theorem qafb {B : RsD} {o : Nat} {f : FuncId} {args : List SV} {r : SV} {k ks wd ms : Int} {L : List Entry} (h : SCalls Tryz.prog f (.ptr 0 o :: args) (qabm B k ks wd ms L) 2 r (qabm B k ks wd ms L)) (ha : ∀ σ, args.map (ren σ) = args) (hr : ∀ σ, ren σ r = r) (hk : ok2 r = true)
  (a b q : Nat) (hab : a ≠ b) (haq : a < q) (hbq : b < q) : SCalls Tryz.prog f (.ptr a o :: args) (qaay B a b k ks wd ms L) q r (qaay B a b k ks wd ms L) := by
 have e0 : sg [a, b] q 0 = a := rfl;have e1 : sg [a, b] q 1 = b := rfl;have g0 : geth (qaay B a b k ks wd ms L) a = some (qaaq B k ks wd ms b L.length) := by simp [qaay, geth]
 have g1 : geth (qaay B a b k ks wd ms L) b = some (qabq L) := by simp [qaay, geth, hab]
 refine qacp [a, b] h rfl (by simp [hab]) (by simp; omega) ?_ ⟨⟨_, g0, rfl, .refl _⟩, ⟨_, g1, rfl, rfl, ?_⟩, trivial⟩ (by simp [idsH, qabm]) (hr _).symm hk ⟨⟨_, g0, rfl, rfl, rfl⟩, ⟨_, g1, rfl, rfl, ?_, ?_⟩, trivial⟩ (by simp [idsH, qabm]) rfl
 ·show _ = _ :: args.map _;rw [ha]; rfl
 ·rw [qabn]; exact .refl _
 ·intro x hx;obtain ⟨e, _, rfl⟩ := List.mem_map.1 hx;rfl
 ·exact (qabn _ L).symm
end
section
attribute [local simp] qaa6 qaa5 qaak qaas qaal qaar qaa3 qaa4 qaae qabh SOp.run SX.ev putd puts argS upds SOp.touch SSt.keep SSt.skip gets geth puth delh idOf SV.cells? setL qac5 qac6 sbin eq0 eq1 eqL qac2 qaby qab0 qaa2 qaa1 qaac qaa7 qabi qaaj qaad FrzOk qaav qaan qaat qaau qaaf qaam qaa8 qaao qaah qaaw qaag frzS frzH frz frz1 frz0 SlotsM ObjsM ObjM rn ren ren1 ren0 qabk qabw qabz qabj qaa9 qabx qab1 CoL qaax qabr dels adds idsH qabc
section
attribute [local simp] qabn qaca qacq
theorem qbmn (B : RsD) (k ks wd ms : Int) (L : List Entry) (e : Entry) (hs : qacd e) : SCalls Tryz.prog 52 [.ptr 0 8, .agg (qaaa e)] (qabm B k ks wd ms L) 2 (.int .i64 (mayC k ks wd e)) (qabm B k ks wd ms L) := by
 refine yG (N := 136) Tryz.func52 c_may ⟨rfl, rfl, trivial⟩ (qac8 B _ _ _ _ _) ?_;rintro X hP hN hm;have fin : ∀ (r : Int) hp nx, r = mayC k ks wd e → QFun X (Tryz.f52).results.toList 2 (.int .i64 (mayC k ks wd e)) (qabm B k ks wd ms L) .ret ⟨[(4, .int .i64 r)], (0, qaaq B k ks wd ms 1 L.length) :: (1, qabq L) :: hp, nx⟩ := fun r hp nx hr => by
  rw [hr];exact (qabu (s' := ⟨[(4, .int .i64 (mayC k ks wd e))], qabm B k ks wd ms L, 2⟩) (qabl [(0, 0), (1, 1)] hm rfl (Nat.le_refl _) (by simp -implicitDefEqProofs []) (by simp -implicitDefEqProofs [qabm, qaaq, qabq])) rfl ⟨rfl, rfl, trivial⟩ (by simp))
 simp only [qaaq, qabq] at fin;have hk1 : (e.keys.length : Int) = 1 → e.keys[0]? = some (el e.keys 0) := fun h => by
  have : 0 < e.keys.length := by omega
  simp [el, this]
 have hwr : 0 ≤ e.len → e.len ≤ wd → wd ≤ 64 → IntKind.i64.wrap (wd - e.len) = wd - e.len := fun a b c => IntWalk.i64_in _ ⟨by omega, by omega⟩
 obtain ⟨hs1, hs2, hs3⟩ := hs;unfold c_may qabm qaaq qabq;repeat' (first | (with_reducible first | refine qabb ?_ | refine qabg ?_) | ((with_reducible refine qadv ?_ ?_); (focus rfl)) | ((with_reducible first | refine qaab ?_ | refine qaaz (by rw [hP]; exact mixed) ?_); (try rw [hP]); simp -implicitDefEqProofs [qaaa, nums, *]) | ((with_reducible refine qaai ?_); (try simp -implicitDefEqProofs [qaaa, nums, *])) | ((with_reducible refine qaba ?_); (try simp only [qaa2, qaac, qaaj])) | ((with_reducible refine qaap rfl (fun h => ?_) (fun h => ?_)) <;> have h' := h <;> (try simp at h') <;> (try subst h')) | ((with_reducible refine qacn (fun h => ?_) (fun h => ?_)) <;> have h' := h <;> (try simp at h') <;> (try subst h') <;> simp -implicitDefEqProofs [qaaa, nums, *]) | ((first | refine qabe (yQ (qayq _ _) _) ?_ | refine qabe (yQ (qbl7 _) _) ?_); simp -implicitDefEqProofs [qaaa, nums, *]) | (refine fin _ _ _ ?_) | fail)
 all_goals try (unfold mayC; (repeat' split) <;> first | rfl | omega | (simp_all [qau2]; done))
 case refine_2.refine_2.refine_1.refine_2.refine_2.refine_2.refine_2 =>
  refine qabf (qadm (fun s n => ∃ i : Nat, s = ⟨[(0, .ptr 0 8), (3, .ptr 2 0), (6, .int .i64 i)], [(0, qaaq B 3 e.keys.length wd ms 1 L.length), (1, qabq L), (2, .cells 38 (qaaa e))], 3⟩ ∧ i ≤ e.keys.length ∧ (∀ j, j < i → (bits .and .u64 (el e.keys j) (el e.masks j) == el e.keys j) = true) ∧ n = e.keys.length - i) (qabl [(0, 0), (1, 1), (2, 2)] hm rfl (by simp) (by simp -implicitDefEqProofs) (by simp -implicitDefEqProofs [qaaq, qabq, qaaa, nums])) ⟨0, rfl, by omega, by omega, rfl⟩ ?_);rintro s n ⟨i, rfl, h1, h2, rfl⟩;have hl : e.masks.length = e.keys.length := by omega
  have g1 : i < e.keys.length → e.keys[i]? = some (el e.keys i) := fun h => by simp [el, h]
  have g2 : i < e.keys.length → e.masks[i]? = some (el e.masks i) := fun h => by have := hl ▸ h; simp [el, this]
  unfold qa7u;repeat' (first | (with_reducible first | refine qabb ?_ | refine qabg ?_) | ((with_reducible refine qadv ?_ ?_); (focus rfl)) | ((with_reducible first | refine qaab ?_ | refine qaaz (by rw [hP]; exact mixed) ?_); (try rw [hP]); simp -implicitDefEqProofs [qaaa, nums, qaaq, qabq, *]) | ((with_reducible first | refine qaai ?_ | refine qabv ?_); (try simp -implicitDefEqProofs [qaaa, nums, qaaq, qabq, *])) | ((with_reducible refine qaba ?_); (try simp only [qaa2, qaac, qaaj])) | ((with_reducible refine qaap rfl (fun h => ?_) (fun h => ?_)) <;> have h' := h <;> (try simp at h') <;> (try subst h')) | (refine fin _ _ _ ?_) | ((rw [qabo (by omega) (by omega)]; refine qab3 (qabl [(0, 0), (1, 1), (2, 2)] hm rfl (by simp) (by simp -implicitDefEqProofs) (by simp -implicitDefEqProofs [qaaq, qabq, qaaa, nums])) ⟨i + 1, rfl, ?_, ?_, rfl⟩ (by omega))) | fail)
  ·have hf := mayB_f (ks := e.keys) (ms := e.masks) ‹i < e.keys.length› (by rw [qagx _ _ ‹_›, qagx _ _ (by omega)]; assumption);unfold mayC; simp [hf]
  ·omega
  ·intro j hj;rcases Nat.lt_or_ge j i with h4 | h4
   ·simpa using h2 j h4
   ·obtain rfl : j = i := by omega
    rw [qagx _ _ ‹_›, qagx _ _ (by omega)]; simpa using h'
  ·have ht := mayB_t (ks := e.keys) (ms := e.masks) fun j hj => h2 j (by omega)
   unfold mayC;rw [if_neg (by omega), if_neg (by omega), if_pos rfl, if_pos (by omega), if_pos ht]
end
section
attribute [local simp] qabn qaca qacq
theorem one_sZ (B : RsD) (k ks wd ms : Int) (L : List Entry) (a b : Entry) (hs : qacd a) : SCalls Tryz.prog 59 [.ptr 0 8, .agg (qaaa a), .agg (qaaa b)] (qabm B k ks wd ms L) 2 (.bool (oneB k a b)) (qabm B k ks wd ms L) := by
 refine yG (N := 46) Tryz.func59 c_rone ⟨rfl, rfl, rfl, trivial⟩ (qac8 B _ _ _ _ _) ?_;rintro X hP hN hm;obtain ⟨hs1, hs2, hs3⟩ := hs;have fin : ∀ (r : Bool) hp nx, r = oneB k a b → QFun X (Tryz.f59).results.toList 2 (.bool (oneB k a b)) (qabm B k ks wd ms L) .ret ⟨[(6, .bool r)], (0, qaaq B k ks wd ms 1 L.length) :: (1, qabq L) :: hp, nx⟩ := fun r hp nx hr => by
  rw [hr];exact (qabu (s' := ⟨[(6, .bool (oneB k a b))], qabm B k ks wd ms L, 2⟩) (qabl [(0, 0), (1, 1)] hm rfl (Nat.le_refl _) (by simp -implicitDefEqProofs []) (by simp -implicitDefEqProofs [qabm, qaaq, qabq])) rfl ⟨rfl, rfl, trivial⟩ (by simp))
 simp only [qaaq, qabq] at fin;unfold c_rone qabm qaaq qabq;repeat' (first | (with_reducible refine qabb ?_) | ((with_reducible refine qaab ?_); (try rw [hP]); simp -implicitDefEqProofs [qaaa, nums, *]) | ((with_reducible refine qaai ?_); (try simp -implicitDefEqProofs [qaaa, nums, *])) | ((with_reducible refine qaba ?_); (try simp only [qaa2, qaac, qaaj])) | ((with_reducible refine qaap rfl (fun h => ?_) (fun h => ?_)) <;> have h' := h <;> (try simp at h') <;> (try subst h')) | ((with_reducible refine qacn (fun h => ?_) (fun h => ?_)) <;> have h' := h <;> (try simp at h') <;> (try subst h') <;> simp -implicitDefEqProofs [qaaa, nums, *]) | (refine qabe (qaff _ _ (by assumption) _) ?_; simp -implicitDefEqProofs [qaaa, nums, *]) | (refine fin _ _ _ ?_) | fail)
 all_goals try (unfold oneB; simp_all; done)
theorem at_sZ (B : RsD) (k ks wd ms : Int) (L : List Entry) (e : Entry) (hs : ∀ a ∈ L, qacd a) (hL : L.length ≤ 1000000) : SCalls Tryz.prog 53 [.ptr 0 8, .agg (qaaa e)] (qabm B k ks wd ms L) 2 (.int .i64 (atI k L e)) (qabm B k ks wd ms L) := by
 refine yG (N := 26) Tryz.func53 c_rat ⟨rfl, rfl, trivial⟩ (qac8 B _ _ _ _ _) ?_;rintro X hP hN hm;have fin : ∀ (r : Int) hp nx, r = atI k L e → QFun X (Tryz.f53).results.toList 2 (.int .i64 (atI k L e)) (qabm B k ks wd ms L) .ret ⟨[(4, .int .i64 r)], (0, qaaq B k ks wd ms 1 L.length) :: (1, qabq L) :: hp, nx⟩ := fun r hp nx hr => by
  rw [hr];exact (qabu (s' := ⟨[(4, .int .i64 (atI k L e))], qabm B k ks wd ms L, 2⟩) (qabl [(0, 0), (1, 1)] hm rfl (Nat.le_refl _) (by simp -implicitDefEqProofs []) (by simp -implicitDefEqProofs [qabm, qaaq, qabq])) rfl ⟨rfl, rfl, trivial⟩ (by simp))
 simp only [qaaq, qabq] at fin;unfold c_rat qabm qaaq qabq;repeat' (first | (with_reducible refine qabb ?_) | ((with_reducible refine qaab ?_); (try rw [hP]); simp -implicitDefEqProofs [qaaa, nums, *]) | fail)
 refine qabf (qadm (fun s n => ∃ i : Nat, s = ⟨[(0, .ptr 0 8), (3, .ptr 2 0), (5, .int .i64 i)], [(0, qaaq B k ks wd ms 1 L.length), (1, qabq L), (2, .cells 38 (qaaa e))], 3⟩ ∧ i ≤ L.length ∧ (∀ j a, j < i → L[j]? = some a → oneB k a e = false) ∧ n = L.length - i) (qabl [(0, 0), (1, 1), (2, 2)] hm rfl (by simp) (by simp -implicitDefEqProofs) (by simp -implicitDefEqProofs [qaaq, qabq, qaaa, nums])) ⟨0, rfl, by omega, by intro j a hj; omega, rfl⟩ ?_);rintro s n ⟨i, rfl, h1, h2, rfl⟩;unfold qa7a;repeat' (first | (with_reducible first | refine qabb ?_ | refine qabg ?_) | ((with_reducible refine qadv ?_ ?_); (focus rfl)) | ((with_reducible first | refine qaab ?_ | refine qaaz (by rw [hP]; exact mixed) ?_); (try rw [hP]); simp -implicitDefEqProofs [qaaa, nums, qaaq, qabq, qaay, *]) | ((with_reducible first | refine qaai ?_ | refine qabv ?_); (try simp -implicitDefEqProofs [qaaa, nums, qaaq, qabq, qaay, *])) | ((with_reducible refine qaba ?_); (try simp only [qaa2, qaac, qaaj])) | ((with_reducible refine qaap rfl (fun h => ?_) (fun h => ?_)) <;> have h' := h <;> (try simp at h') <;> (try subst h')) | (refine yH (qafb (one_sZ B k ks wd ms L _ _ (hs _ (by simp))) (fun σ => rfl) (fun σ => rfl) rfl 0 1 _ (by decide) (by simp) (by simp)) ?_; simp -implicitDefEqProofs [qaaa, nums, qaaq, qabq, qaay, *]) | (refine fin _ _ _ ?_) | ((rw [qabo (by omega) (by omega)]; refine qab3 (qabl [(0, 0), (1, 1), (2, 2)] hm rfl (by simp) (by simp -implicitDefEqProofs) (by simp -implicitDefEqProofs [qaaq, qabq, qaaa, nums])) ⟨i + 1, rfl, ?_, ?_, rfl⟩ (by omega))) | fail)
 ·exact (atI_yes ‹_› h2 h).symm
 ·omega
 ·exact qaeg ‹_› h2 h
 ·exact (atI_no fun j a hj ha => h2 j a (by omega) ha).symm
end
section
attribute [local simp] qabn qaca qacq
theorem qbjn (B : RsD) (k ks wd ms : Int) (L : List Entry) (e : Entry) (hs : qacd e) : SCalls Tryz.prog 54 [.ptr 0 8, .agg (qaaa e)] (qabm B k ks wd ms L) 2 (.agg (qaaa (qais k e))) (qabm B k ks wd ms L) := by
 refine yG (N := 21) Tryz.func54 c_kept ⟨rfl, rfl, trivial⟩ (qac8 B _ _ _ _ _) ?_;rintro X hP hN hm;have fin : ∀ x cs nx, CoL cs (qaaa (qais k e)) → QFun X (Tryz.f54).results.toList 2 (.agg (qaaa (qais k e))) (qabm B k ks wd ms L) .ret ⟨[(4, .ptr 3 0)], [(0, qaaq B k ks wd ms 1 L.length), (1, qabq L), (2, x), (3, .cells 38 cs)], nx⟩ := fun x cs nx hc =>
  qabu (s' := ⟨[(4, .ptr 3 0)], [(0, qaaq B k ks wd ms 1 L.length), (1, qabq L), (3, .cells 38 (qaaa (qais k e)))], 4⟩) (qabl [(0, 0), (1, 1), (3, 3)] hm rfl (by simp) (by simp -implicitDefEqProofs) (by simp -implicitDefEqProofs [qaaq, qabq]; exact hc)) (by simp -implicitDefEqProofs [hP, qafc, resL, resV, qai8, qahc, one_, qaaa, nums]) ⟨rfl, rfl, trivial⟩ (by simp)
 unfold c_kept qabm qaaq qabq;repeat' (first | (with_reducible refine qabb ?_) | ((with_reducible refine qaab ?_); (try rw [hP]); simp -implicitDefEqProofs [qaaa, nums, *]) | ((with_reducible refine qaai ?_); (try simp -implicitDefEqProofs [qaaa, nums, *])) | ((with_reducible refine qaba ?_); (try simp only [qaa2, qaac, qaaj])) | ((with_reducible refine qaap rfl (fun h => ?_) (fun h => ?_)) <;> have h' := h <;> (try simp at h') <;> (try subst h')) | (refine qabe (qarl _ hs _) ?_; simp -implicitDefEqProofs [qaaa, nums, *]) | (refine fin _ _ _ ?_) | fail)
 all_goals (simp -implicitDefEqProofs [qaaa, nums, qais, *])
end
section
attribute [local simp] qabn qaca qacq
theorem qbjr (B : RsD) (k ks wd ms : Int) (L : List Entry) (e : Entry) (xs : List Int) (hs : qacd e) (hok : qap7 k e xs) : SCalls Tryz.prog 55 [.ptr 0 8, .agg (qaaa e), nums .u64 xs] (qabm B k ks wd ms L) 2 (.bool (qak2 k wd e xs)) (qabm B k ks wd ms L) := by
 refine yG (N := 67) Tryz.func55 qbkl ⟨rfl, rfl, rfl, trivial⟩ (qac8 B _ _ _ _ _) ?_;rintro X hP hN hm;obtain ⟨hs1, hs2, hs3⟩ := hs;obtain ⟨ho1, ho2⟩ := hok;have fin : ∀ (r : Bool) hp nx, r = qak2 k wd e xs → QFun X (Tryz.f55).results.toList 2 (.bool (qak2 k wd e xs)) (qabm B k ks wd ms L) .ret ⟨[(6, .bool r)], (0, qaaq B k ks wd ms 1 L.length) :: (1, qabq L) :: hp, nx⟩ := fun r hp nx hr => by
  rw [hr];exact (qabu (s' := ⟨[(6, .bool (qak2 k wd e xs))], qabm B k ks wd ms L, 2⟩) (qabl [(0, 0), (1, 1)] hm rfl (Nat.le_refl _) (by simp -implicitDefEqProofs []) (by simp -implicitDefEqProofs [qabm, qaaq, qabq])) rfl ⟨rfl, rfl, trivial⟩ (by simp))
 have a1 : k = 2 → 0 < xs.length := fun h => (ho1 h).1
 have a2 : k = 2 → 0 < e.keys.length := fun h => (ho1 h).2
 have a3 : k = 2 → xs[0]? = some (el xs 0) := fun h => by simp [el, a1 h]
 have a4 : k = 2 → e.keys[0]? = some (el e.keys 0) := fun h => by simp [el, a2 h]
 simp only [qaaq, qabq] at fin;unfold qbkl qabm qaaq qabq;repeat' (first | (with_reducible first | refine qabb ?_ | refine qabg ?_) | ((with_reducible refine qadv ?_ ?_); (focus rfl)) | ((with_reducible first | refine qaab ?_ | refine qaaz (by rw [hP]; exact mixed) ?_); (try rw [hP]); simp -implicitDefEqProofs [qaaa, nums, *]) | ((with_reducible refine qaai ?_); (try simp -implicitDefEqProofs [qaaa, nums, *])) | ((with_reducible refine qaba ?_); (try simp only [qaa2, qaac, qaaj])) | ((with_reducible refine qaap rfl (fun h => ?_) (fun h => ?_)) <;> have h' := h <;> (try simp at h') <;> (try subst h')) | ((first | refine qabe (qaff _ _ (by assumption) _) ?_ | refine qabe (yQ (qbl7 _) _) ?_); simp -implicitDefEqProofs [qaaa, nums, *]) | (refine fin _ _ _ ?_) | fail)
 ·unfold qak2; rw [if_pos rfl]
 ·unfold qak2 qau2; rw [if_neg (show ¬ (2 : Int) = 1 by decide), if_pos (show (2 : Int) = 2 from rfl), qagx _ _ (a1 rfl), qagx _ _ (a2 rfl)]
 ·obtain ⟨b1, b2⟩ := ho2 ‹¬ k = 1› ‹¬ k = 2›;refine qabf (qadm (fun s n => ∃ i : Nat, s = ⟨[(2, nums .u64 xs), (4, .ptr 2 0), (8, .int .i64 i)], [(0, qaaq B k ks wd ms 1 L.length), (1, qabq L), (2, .cells 38 (qaaa e))], 3⟩ ∧ i ≤ xs.length ∧ (∀ j, j < i → (bits .and .u64 (el xs j) (el e.masks j) == el e.keys j) = true) ∧ n = xs.length - i) (qabl [(0, 0), (1, 1), (2, 2)] hm rfl (by simp) (by simp -implicitDefEqProofs [nums]) (by simp -implicitDefEqProofs [qaaq, qabq, qaaa, nums])) ⟨0, rfl, by omega, by omega, rfl⟩ ?_);rintro s n ⟨i, rfl, h1, h2, rfl⟩;have g1 : i < xs.length → xs[i]? = some (el xs i) := fun h => by simp [el, h]
  have g2 : i < xs.length → e.masks[i]? = some (el e.masks i) := fun h => by simp [el, show i < e.masks.length by omega]
  have g3 : i < xs.length → e.keys[i]? = some (el e.keys i) := fun h => by simp [el, show i < e.keys.length by omega]
  have g4 : i < xs.length → i < e.masks.length := fun h => by omega
  have g5 : i < xs.length → i < e.keys.length := fun h => by omega
  unfold qapk;repeat' (first | (with_reducible first | refine qabb ?_ | refine qabg ?_) | ((with_reducible refine qadv ?_ ?_); (focus rfl)) | ((with_reducible first | refine qaab ?_ | refine qaaz (by rw [hP]; exact mixed) ?_); (try rw [hP]); simp -implicitDefEqProofs [qaaa, nums, qaaq, qabq, *]) | ((with_reducible first | refine qaai ?_ | refine qabv ?_); (try simp -implicitDefEqProofs [qaaa, nums, qaaq, qabq, *])) | ((with_reducible refine qaba ?_); (try simp only [qaa2, qaac, qaaj])) | ((with_reducible refine qaap rfl (fun h => ?_) (fun h => ?_)) <;> have h' := h <;> (try simp at h') <;> (try subst h')) | (refine fin _ _ _ ?_) | ((rw [qabo (by omega) (by omega)]; refine qab3 (qabl [(0, 0), (1, 1), (2, 2)] hm rfl (by simp) (by simp -implicitDefEqProofs) (by simp -implicitDefEqProofs [qaaq, qabq, qaaa, nums])) ⟨i + 1, rfl, ?_, ?_, rfl⟩ (by omega))) | fail)
  ·unfold qak2;rw [if_neg ‹¬ k = 1›, if_neg ‹¬ k = 2›];exact (qazz (p := fun i => bits .and .u64 (el xs i) (el e.masks i) == el e.keys i) ‹_› (by rw [qagx _ _ ‹_›, qagx _ _ (by omega), qagx _ _ (by omega)]; simpa using h')).symm
  ·omega
  ·intro j hj;rcases Nat.lt_or_ge j i with h4 | h4
   ·simpa using h2 j h4
   ·obtain rfl : j = i := by omega
    rw [qagx _ _ ‹_›, qagx _ _ (by omega), qagx _ _ (by omega)]; simpa using h'
  ·unfold qak2;rw [if_neg ‹¬ k = 1›, if_neg ‹¬ k = 2›];exact (qazy (p := fun i => bits .and .u64 (el xs i) (el e.masks i) == el e.keys i) fun j hj => h2 j (by omega)).symm
end
section
attribute [local simp] qabn qaca qacq
def qbp8 (B : RsD) (k ks wd ms : Int) (L : List Entry) (e : Entry) : Hp := if addC k ks wd ms L e = 0 then [(0, qaaq B k ks wd ms 2 (L ++ [qais k e]).length), (2, qabq (L ++ [qais k e]))] else qabm B k ks wd ms L
theorem qauh {B : RsD} {k ks wd ms : Int} {L : List Entry} {e : Entry} (h : addC k ks wd ms L e = 0) : qbp8 B k ks wd ms L e = [(0, qaaq B k ks wd ms 2 (L.length + 1)), (2, qabq (L ++ [qais k e]))] := by
 unfold qbp8; rw [if_pos h]; simp
theorem qbp7 {B : RsD} {k ks wd ms : Int} {L : List Entry} {e : Entry} (h : addC k ks wd ms L e ≠ 0) : qbp8 B k ks wd ms L e = qabm B k ks wd ms L := if_neg h
set_option maxHeartbeats 4000000 in
theorem qbja (B : RsD) (k ks wd ms : Int) (L : List Entry) (e : Entry) (hs : ∀ a ∈ L, qacd a) (hse : qacd e) (hL : L.length ≤ 1000000) (hok : qamz k ks L) : SCalls Tryz.prog 44 [.ptr 0 8, .agg (qaaa e)] (qabm B k ks wd ms L) 2 (.int .i64 (addC k ks wd ms L e)) (qbp8 B k ks wd ms L e) := by
 refine yG (N := 116) Tryz.func44 c_radd ⟨rfl, rfl, trivial⟩ (qac8 B _ _ _ _ _) ?_;rintro X hP hN hm;have fin : ∀ (r : Int) hp nx, r ≠ 0 → r = addC k ks wd ms L e → QFun X (Tryz.f44).results.toList 2 (.int .i64 (addC k ks wd ms L e)) (qbp8 B k ks wd ms L e) .ret ⟨[(4, .int .i64 r)], (0, qaaq B k ks wd ms 1 L.length) :: (1, qabq L) :: hp, nx⟩ := fun r hp nx h0 hr => by
  rw [show qbp8 B k ks wd ms L e = qabm B k ks wd ms L from if_neg (by rw [← hr]; exact h0), ← hr];exact (qabu (s' := ⟨[(4, .int .i64 r)], qabm B k ks wd ms L, 2⟩) (qabl [(0, 0), (1, 1)] hm rfl (Nat.le_refl _) (by simp -implicitDefEqProofs []) (by simp -implicitDefEqProofs [qabm, qaaq, qabq])) rfl ⟨rfl, rfl, trivial⟩ (by simp))
 unfold c_radd qabm qaaq qabq;repeat' (first | (with_reducible refine qabb ?_) | ((with_reducible refine qaab ?_); (try rw [hP]); simp -implicitDefEqProofs [qaaa, nums, qaay, qaaq, qabq, *]) | ((with_reducible refine qaai ?_); (try simp -implicitDefEqProofs [qaaa, nums, qaay, qaaq, qabq, *])) | ((with_reducible refine qaba ?_); (try simp only [qaa2, qaac, qaaj])) | ((with_reducible refine qaap rfl (fun h => ?_) (fun h => ?_)) <;> have h' := h <;> (try simp at h') <;> (try subst h')) | ((first | refine yR (qafb (qbmn B k ks wd ms L e hse) (fun σ => rfl) (fun σ => rfl) rfl 0 1 _ (by decide) (by simp) (by simp)) ?_ | refine yR (qafb (at_sZ B k ks wd ms L e hs hL) (fun σ => rfl) (fun σ => rfl) rfl 0 1 _ (by decide) (by simp) (by simp)) ?_); simp -implicitDefEqProofs [qaaa, nums, qaay, qaaq, qabq, *]) | (refine fin _ _ _ ?_ ?_) | fail)
 ·simpa using h'
 ·unfold addC; rw [if_neg h']
 ·decide
 ·unfold addC; rw [if_pos ‹_›, if_pos h']
 have hm0 : mayC k ks wd e = 0 := ‹_›;have hat : ¬ 0 ≤ atI k L e := by omega
 obtain ⟨hse1, hse2, hse3⟩ := hse;have hex : ∀ r : Int, (k = 3 ∧ L.any (fun a => qakf ks.toNat a e) = true → r = 8) → (¬ (k = 3 ∧ L.any (fun a => qakf ks.toNat a e) = true) → ms ≤ L.length → r = 10) → (¬ (k = 3 ∧ L.any (fun a => qakf ks.toNat a e) = true) → ¬ ms ≤ L.length → r = 0) → r = addC k ks wd ms L e := by
  intro r h1 h2 h3;unfold addC;rw [if_pos hm0, if_neg hat];split
  ·exact h1 ‹_›
  ·split
   ·exact h2 ‹_› ‹_›
   ·exact h3 ‹_› ‹_›
 replace hex := Lib.hid hex;have finY : ∀ (r : Int) (a : Nat) x y nx, r = 0 → 0 = addC k ks wd ms L e → (a = 38 ∨ a = 43) → QFun X (Tryz.f44).results.toList 2 (.int .i64 (addC k ks wd ms L e)) (qbp8 B k ks wd ms L e) .ret ⟨[(4, .int .i64 r)], [(0, qaaq B k ks wd ms a (L.length + 1)), (2, x), (a - 1, y), (a, .row 38 6 (L.map qaaa ++ [qaaa (qais k e)]))], nx⟩ := by
  intro r a x y nx hr hc ha;rw [qauh hc.symm, ← hc, hr];rcases ha with rfl | rfl
  ·exact qabu (s' := ⟨[(4, .int .i64 0)], [(0, qaaq B k ks wd ms 2 (L.length + 1)), (2, qabq (L ++ [qais k e]))], 3⟩) (qabl [(0, 0), (1, 1), (2, 38)] hm rfl (by simp) (by simp -implicitDefEqProofs) (by simp -implicitDefEqProofs [qaaq, qabq, qab2])) rfl ⟨rfl, rfl, trivial⟩ (by simp)
  ·exact qabu (s' := ⟨[(4, .int .i64 0)], [(0, qaaq B k ks wd ms 2 (L.length + 1)), (2, qabq (L ++ [qais k e]))], 3⟩) (qabl [(0, 0), (1, 1), (2, 43)] hm rfl (by simp) (by simp -implicitDefEqProofs) (by simp -implicitDefEqProofs [qaaq, qabq, qab2])) rfl ⟨rfl, rfl, trivial⟩ (by simp)
 have hno : ¬ k = 3 → ¬ (k = 3 ∧ L.any (fun a => qakf ks.toNat a e) = true) := fun h h2 => h h2.1
 have hno2 : ∀ i, L.length ≤ i → (k = 3 → ∀ j a, j < i → L[j]? = some a → qakf ks.toNat a e = false) → ¬ (k = 3 ∧ L.any (fun a => qakf ks.toNat a e) = true) := by
  rintro i hi h ⟨h3, h4⟩;obtain ⟨a, ha, hb⟩ := List.any_eq_true.1 h4;obtain ⟨j, hj⟩ := List.getElem?_of_mem ha;rw [h h3 j a (by have := (List.getElem?_eq_some_iff.1 hj).1; omega) hj] at hb;cases hb
 replace hno2 := Lib.hid hno2;replace finY := Lib.hid finY;refine qabf (qadm (fun s n => ∃ i : Nat, s = ⟨[(0, .ptr 0 8), (3, .ptr 2 0), (6, .int .i64 i)], [(0, qaaq B k ks wd ms 1 L.length), (1, qabq L), (2, .cells 38 (qaaa e))], 3⟩ ∧ i ≤ L.length ∧ (k = 3 → ∀ j a, j < i → L[j]? = some a → qakf ks.toNat a e = false) ∧ (0 < i → k = 3) ∧ n = L.length - i) (qabl [(0, 0), (1, 1), (2, 2)] hm rfl (by simp) (by simp -implicitDefEqProofs) (by simp -implicitDefEqProofs [qaaq, qabq, qaaa, nums, qaay])) ⟨0, rfl, by omega, by intro _ j a hj; omega, by omega, rfl⟩ ?_);rintro s n ⟨i, rfl, h1, h2, h3, rfl⟩;have ha1 : L.length + 1 ≤ maxLen := by simp [maxLen]; omega
 have ha2 : (L.length + 1) * 96 ≤ 140737488355328 := by omega
 unfold qatv;repeat' (first | (with_reducible first | refine qabb ?_ | refine qabg ?_) | ((with_reducible refine qadv ?_ ?_); (focus rfl)) | ((with_reducible first | refine qaab ?_ | refine qaaz (by rw [hP]; exact mixed) ?_); (try rw [hP]); simp -implicitDefEqProofs [qaaa, nums, qaay, qaaq, qabq, *]) | ((with_reducible first | refine qaai ?_ | refine qabv ?_); (try simp -implicitDefEqProofs [qaaa, nums, qaay, qaaq, qabq, *])) | ((with_reducible refine qaba ?_); (try simp only [qaa2, qaac, qaaj])) | ((with_reducible refine qaap rfl (fun h => ?_) (fun h => ?_)) <;> have h' := h <;> (try simp at h') <;> (try subst h')) | ((with_reducible refine qacn (fun h => ?_) (fun h => ?_)) <;> have h' := h <;> (try simp at h') <;> (try subst h') <;> simp -implicitDefEqProofs [qaaa, nums, qaay, qaaq, qabq, *]) | (refine yR (qafb (qbjn B k ks wd ms L e ⟨hse1, hse2, hse3⟩) (fun σ => rfl) (fun σ => rfl) rfl 0 1 _ (by decide) (by simp) (by simp)) ?_; simp -implicitDefEqProofs [qaaa, nums, qaay, qaaq, qabq, *]) | (refine fin _ _ _ ?_ ?_) | fail)
 ·obtain ⟨b1, b2⟩ := may3 hm0;obtain ⟨_, b3, b4⟩ := hok rfl;obtain rfl : ks = (e.keys.length : Int) := by omega
  obtain ⟨b5, b6⟩ := b4 L[i] (List.getElem_mem _);obtain ⟨a, hLa⟩ : ∃ a, L[i] = a := ⟨_, rfl⟩
  rw [hLa] at b5 b6 ⊢;refine qabf (qadm (fun s n => ∃ j : Nat, s = ⟨[(0, .ptr 0 8), (3, .ptr 2 0), (6, .int .i64 i), (7, .bool (qakf j a e)), (8, .int .i64 j)], [(0, qaaq B 3 e.keys.length wd ms 1 L.length), (1, qabq L), (2, .cells 38 (qaaa e))], 3⟩ ∧ j ≤ e.keys.length ∧ n = e.keys.length - j) (qabl [(0, 0), (1, 1), (2, 2)] hm rfl (by simp) (by simp -implicitDefEqProofs [qa0l]) (by simp -implicitDefEqProofs [qaaq, qabq, qaaa, nums, qaay])) ⟨0, rfl, by omega, rfl⟩ ?_);rintro s n ⟨j, rfl, c1, rfl⟩;have g0 : j < e.keys.length → j < e.masks.length := fun h => by omega
  have g1 : j < e.keys.length → j < a.keys.length := fun h => by omega
  have g2 : j < e.keys.length → j < a.masks.length := fun h => by omega
  unfold qatw;repeat' (first | (with_reducible first | refine qabb ?_ | refine qabg ?_) | ((with_reducible refine qadv ?_ ?_); (focus rfl)) | ((with_reducible first | refine qaab ?_ | refine qaaz (by rw [hP]; exact mixed) ?_); (try rw [hP]); simp -implicitDefEqProofs [qaaa, nums, qaay, qaaq, qabq, *]) | ((with_reducible first | refine qaai ?_ | refine qabv ?_); (try simp -implicitDefEqProofs [qaaa, nums, qaay, qaaq, qabq, *])) | ((with_reducible refine qaba ?_); (try simp only [qaa2, qaac, qaaj])) | ((with_reducible refine qaap rfl (fun h => ?_) (fun h => ?_)) <;> have h' := h <;> (try simp at h') <;> (try subst h')) | fail)
  ·rw [qabo (by omega) (by omega)];have hq : qakf (j + 1) a e = false := by
    rw [qanp]; unfold meetC
    rw [qagx _ _ ‹j < e.keys.length›, qagx _ _ (g0 ‹_›), qagx _ _ (g1 ‹_›), qagx _ _ (g2 ‹_›), beq_eq_false_iff_ne.2 (by simpa using h)];simp
   exact qab3 (qabl [(0, 0), (1, 1), (2, 2)] hm rfl (by simp) (by simp -implicitDefEqProofs [hq]) (by simp -implicitDefEqProofs [qaaq, qabq, qaaa, nums])) ⟨j + 1, rfl, by omega, rfl⟩ (by omega)
  ·rw [qabo (by omega) (by omega)];have hq : qakf (j + 1) a e = qakf j a e := by
    rw [qanp]; unfold meetC
    rw [qagx _ _ ‹j < e.keys.length›, qagx _ _ (g0 ‹_›), qagx _ _ (g1 ‹_›), qagx _ _ (g2 ‹_›), beq_iff_eq.2 (by simpa using h)];simp
   exact qab3 (qabl [(0, 0), (1, 1), (2, 2)] hm rfl (by simp) (by simp -implicitDefEqProofs [hq]) (by simp -implicitDefEqProofs [qaaq, qabq, qaaa, nums])) ⟨j + 1, rfl, by omega, rfl⟩ (by omega)
  ·obtain rfl : j = e.keys.length := by omega
   have hany : (3 : Int) = 3 ∧ L.any (fun a => qakf (e.keys.length : Int).toNat a e) = true := ⟨rfl, List.any_eq_true.2 ⟨a, by rw [← hLa]; exact List.getElem_mem _, by simpa using h⟩⟩
   exact fin _ _ _ (by decide) (hex.out _ (fun _ => rfl) (fun h => absurd hany h) (fun h => absurd hany h))
  ·obtain rfl : j = e.keys.length := by omega
   rw [qabo (by omega) (by omega)];refine qab3 (qabl [(0, 0), (1, 1), (2, 2)] hm rfl (by simp) (by simp -implicitDefEqProofs) (by simp -implicitDefEqProofs [qaaq, qabq, qaaa, nums])) ⟨i + 1, rfl, by omega, ?_, rfl⟩ (by omega);exact qaeg ‹i < L.length› (h2 rfl) (by rw [hLa]; simpa using h)
 ·decide
 ·exact hex.out _ (fun h => absurd h (hno ‹_›)) (fun _ _ => rfl) (fun _ h => absurd ‹_› h)
 ·exact finY.out _ 43 _ _ _ rfl (hex.out _ (fun h => absurd h (hno ‹_›)) (fun _ h => by omega) (fun _ _ => rfl)) (.inr rfl)
 ·decide
 ·exact hex.out _ (fun h => absurd h (hno2.out _ (by omega) h2)) (fun _ _ => rfl) (fun _ h => absurd ‹_› h)
 ·exact finY.out _ 38 _ _ _ rfl (hex.out _ (fun h => absurd h (hno2.out _ (by omega) h2)) (fun _ h => by omega) (fun _ _ => rfl)) (.inl rfl)
end
section
attribute [local simp] qabn qaca qacq qab2
theorem qazl {B : RsD} {k ks wd ms : Int} {L L' : List Entry} (h : L'.length = L.length) : qabm B k ks wd ms L' = [(0, qaaq B k ks wd ms 1 L.length), (1, qabq L')] := by unfold qabm; rw [h]
theorem rchg_sZ (B : RsD) (k ks wd ms : Int) (L : List Entry) (e : Entry) (hs : ∀ a ∈ L, qacd a) (hse : qacd e) (hL : L.length ≤ 1000000) : SCalls Tryz.prog 45 [.ptr 0 8, .agg (qaaa e)] (qabm B k ks wd ms L) 2 (.int .i64 (chgC k ks wd L e)) (qabm B k ks wd ms (chgL k ks wd L e)) := by
 refine yG (N := 27) Tryz.func45 c_rchg ⟨rfl, rfl, trivial⟩ (qac8 B _ _ _ _ _) ?_;rintro X hP hN hm;rw [qazl (qbnl k ks wd L e)];generalize hL2 : chgL k ks wd L e = L2;generalize hr : chgC k ks wd L e = r;have fin : ∀ (c : Int) es hp nx, c = r → es = L2.map qaaa → QFun X (Tryz.f45).results.toList 2 (.int .i64 r) [(0, qaaq B k ks wd ms 1 L.length), (1, qabq L2)] .ret ⟨[(4, .int .i64 c)], (0, qaaq B k ks wd ms 1 L.length) :: (1, .row 38 6 es) :: hp, nx⟩ := fun c es hp nx hc he => by
  rw [hc, he];exact (qabu (s' := ⟨[(4, .int .i64 r)], [(0, qaaq B k ks wd ms 1 L.length), (1, qabq L2)], 2⟩) (qabl [(0, 0), (1, 1)] hm rfl (Nat.le_refl _) (by simp -implicitDefEqProofs) (by simp -implicitDefEqProofs [qaaq, qabq])) rfl ⟨rfl, rfl, trivial⟩ (by simp))
 have hat : 0 ≤ atI k L e → atI k L e = atN k L e := fun h => by rcases qah0 k L e with h2 | h2 <;> omega
 have hat2 : 0 ≤ atI k L e → atN k L e < L.length := fun h => by rcases qah0 k L e with h2 | h2 <;> omega
 unfold c_rchg qabm qaaq qabq;repeat' (first | (with_reducible refine qabb ?_) | ((with_reducible refine qadv ?_ ?_); (focus rfl)) | ((with_reducible first | refine qaab ?_ | refine qaaz (by rw [hP]; exact mixed) ?_); (try rw [hP]); simp -implicitDefEqProofs [qaaa, nums, qaay, qaaq, qabq, *]) | ((with_reducible refine qaai ?_); (try simp -implicitDefEqProofs [qaaa, nums, qaay, qaaq, qabq, *])) | ((with_reducible refine qaba ?_); (try simp only [qaa2, qaac, qaaj])) | ((with_reducible refine qaap rfl (fun h => ?_) (fun h => ?_)) <;> have h' := h <;> (try simp at h') <;> (try subst h')) | ((first | refine yR (qafb (qbmn B k ks wd ms L e hse) (fun σ => rfl) (fun σ => rfl) rfl 0 1 _ (by decide) (by simp) (by simp)) ?_ | refine yR (qafb (at_sZ B k ks wd ms L e hs hL) (fun σ => rfl) (fun σ => rfl) rfl 0 1 _ (by decide) (by simp) (by simp)) ?_ | refine yR (qafb (qbjn B k ks wd ms L e hse) (fun σ => rfl) (fun σ => rfl) rfl 0 1 _ (by decide) (by simp) (by simp)) ?_); simp -implicitDefEqProofs [qaaa, nums, qaay, qaaq, qabq, *]) | (refine fin _ _ _ _ ?_ ?_) | fail)
 ·rw [← hr]; unfold chgC; rw [if_neg h']
 ·rw [← hL2]; unfold chgL; rw [if_neg (by unfold chgC; rw [if_neg h']; exact h')]
 ·rw [← hr]; unfold chgC; rw [if_pos ‹_›, if_neg (by omega)]
 ·rw [← hL2]; unfold chgL; rw [if_neg (by unfold chgC; rw [if_pos ‹_›, if_neg (by omega)]; decide)]
 ·rw [← hr]; unfold chgC; rw [if_pos ‹_›, if_pos h']
 ·rw [← hL2]; unfold chgL; rw [if_pos (by unfold chgC; rw [if_pos ‹_›, if_pos h']), List.map_set]; rfl
def qavf (B : RsD) (k ks wd ms : Int) (L : List Entry) (e : Entry) : Hp := if qaha k ks wd L e = 0 then [(0, qaaq B k ks wd ms 2 (qai6 k ks wd L e).length), (2, qabq (qai6 k ks wd L e))] else qabm B k ks wd ms L
theorem qazx (B : RsD) (k ks wd ms : Int) (L : List Entry) (e : Entry) (hs : ∀ a ∈ L, qacd a) (hse : qacd e) (hL : L.length ≤ 1000000) : SCalls Tryz.prog 43 [.ptr 0 8, .agg (qaaa e)] (qabm B k ks wd ms L) 2 (.int .i64 (qaha k ks wd L e)) (qavf B k ks wd ms L e) := by
 refine yG (N := 38) Tryz.func43 qbkm ⟨rfl, rfl, trivial⟩ (qac8 B _ _ _ _ _) ?_;rintro X hP hN hm;have fin : ∀ (r : Int) hp nx, r ≠ 0 → r = qaha k ks wd L e → QFun X (Tryz.f43).results.toList 2 (.int .i64 (qaha k ks wd L e)) (qavf B k ks wd ms L e) .ret ⟨[(4, .int .i64 r)], (0, qaaq B k ks wd ms 1 L.length) :: (1, qabq L) :: hp, nx⟩ := fun r hp nx h0 hr => by
  rw [show qavf B k ks wd ms L e = qabm B k ks wd ms L from if_neg (by rw [← hr]; exact h0), ← hr];exact (qabu (s' := ⟨[(4, .int .i64 r)], qabm B k ks wd ms L, 2⟩) (qabl [(0, 0), (1, 1)] hm rfl (Nat.le_refl _) (by simp -implicitDefEqProofs []) (by simp -implicitDefEqProofs [qabm, qaaq, qabq])) rfl ⟨rfl, rfl, trivial⟩ (by simp))
 have hat : 0 ≤ atI k L e → atI k L e = atN k L e := fun h => by rcases qah0 k L e with h2 | h2 <;> omega
 have hat2 : 0 ≤ atI k L e → atN k L e < L.length := fun h => by rcases qah0 k L e with h2 | h2 <;> omega
 have hat3 : 0 ≤ atI k L e → atN k L e ≤ L.length := fun h => by have := hat2 h; omega
 have hw : 0 ≤ atI k L e → IntKind.i64.wrap ((atN k L e : Int) + 1) = ((atN k L e + 1 : Nat) : Int) := fun h => by have := hat2 h; rw [qabo (by omega) (by omega)]; omega
 have hm1 : maxLen = 9223372036854775807 ∨ 1000000 < maxLen := by right; decide
 have hb1 : 0 ≤ atI k L e → atN k L e ≤ maxLen := fun h => by have := hat2 h; omega
 have hb2 : 0 ≤ atI k L e → atN k L e * 96 ≤ 140737488355328 := fun h => by have := hat2 h; omega
 have hb3 : 0 ≤ atI k L e → atN k L e + (L.length - (atN k L e + 1)) ≤ maxLen := fun h => by have := hat2 h; omega
 have hb4 : 0 ≤ atI k L e → (atN k L e + (L.length - (atN k L e + 1))) * 96 ≤ 140737488355328 := fun h => by have := hat2 h; omega
 have hb5 : 0 ≤ atI k L e → atN k L e + 1 ≤ L.length := fun h => by have := hat2 h; omega
 clear hm1;unfold qbkm qabm qaaq qabq;repeat' (first | ((refine qakm (c := .reg true qapn []) [1] (by simp -implicitDefEqProofs [qakv]) (qaaz (by rw [hP]; exact mixed) ?_); simp -implicitDefEqProofs [qaaa, nums, qaay, qaaq, qabq, *])) | (with_reducible refine qabb ?_) | ((with_reducible refine qadv ?_ ?_); (focus rfl)) | ((with_reducible refine qaab ?_); (try rw [hP]); simp -implicitDefEqProofs [qaaa, nums, qaay, qaaq, qabq, *]) | ((with_reducible refine qaai ?_); (try simp -implicitDefEqProofs [qaaa, nums, qaay, qaaq, qabq, *])) | ((with_reducible refine qaba ?_); (try simp only [qaa2, qaac, qaaj])) | ((with_reducible refine qaap rfl (fun h => ?_) (fun h => ?_)) <;> have h' := h <;> (try simp at h') <;> (try subst h')) | ((with_reducible refine qafm ?_ ?_); (first | omega | (unfold maxLen; omega)); simp -implicitDefEqProofs [qaaa, nums, qaay, qaaq, qabq, *]) | ((first | refine yR (qafb (qbmn B k ks wd ms L e hse) (fun σ => rfl) (fun σ => rfl) rfl 0 1 _ (by decide) (by simp) (by simp)) ?_ | refine yR (qafb (at_sZ B k ks wd ms L e hs hL) (fun σ => rfl) (fun σ => rfl) rfl 0 1 _ (by decide) (by simp) (by simp)) ?_); simp -implicitDefEqProofs [qaaa, nums, qaay, qaaq, qabq, *]) | (refine fin _ _ _ ?_ ?_) | fail)
 ·exact h'
 ·unfold qaha; rw [if_neg h']
 ·decide
 ·unfold qaha; rw [if_pos ‹_›, if_neg (by omega)]
 ·have hc : qaha k ks wd L e = 0 := by unfold qaha; rw [if_pos ‹_›, if_pos h']
  have hl : qai6 k ks wd L e = L.take (atN k L e) ++ L.drop (atN k L e + 1) := by unfold qai6; rw [if_pos hc]
  have hn : (qai6 k ks wd L e).length = atN k L e + (L.length - (atN k L e + 1)) := by rw [hl]; simp; have := hat2 h'; omega
  rw [show qavf B k ks wd ms L e = [(0, qaaq B k ks wd ms 2 (qai6 k ks wd L e).length), (2, qabq (qai6 k ks wd L e))] from if_pos hc, hc, hn, hl];exact qabu (s' := ⟨[(4, .int .i64 0)], [(0, qaaq B k ks wd ms 2 (atN k L e + (L.length - (atN k L e + 1)))), (2, qabq (L.take (atN k L e) ++ L.drop (atN k L e + 1)))], 3⟩) (qabl [(0, 0), (1, 1), (2, 47)] hm rfl (by simp) (by simp -implicitDefEqProofs) (by simp -implicitDefEqProofs [qaaq, qabq, List.map_take, List.map_drop])) rfl ⟨rfl, rfl, trivial⟩ (by simp)
end
section
attribute [local simp] qabn qaca qacq qab2
theorem qajn (B : RsD) (X : Cx) (hP : X.P = Tryz.prog) (hm : X.m = 2) (k ks wd ms : Int) (L : List Entry) (a : Int) (l : List Int) (n : Int) (b : Bool) (cs : List SV) (hp : Hp) (nx : Nat) (hc : CoL cs (qacc a l)) :
  QFun X (Tryz.f46).results.toList 2 (.tup [.agg (qacc a l), .int .i64 n, .bool b]) (qabm B k ks wd ms L) .ret ⟨[(4, .ptr 2 0), (5, .int .i64 n), (6, .bool b)], (0, qaaq B k ks wd ms 1 L.length) :: (1, qabq L) :: (2, .cells 46 cs) :: hp, nx⟩ :=
 qabu (s' := ⟨[(4, .ptr 2 0), (5, .int .i64 n), (6, .bool b)], [(0, qaaq B k ks wd ms 1 L.length), (1, qabq L), (2, .cells 46 (qacc a l))], 3⟩) (qabl [(0, 0), (1, 1), (2, 2)] hm rfl (by simp) (by simp -implicitDefEqProofs) (by simp -implicitDefEqProofs [qaaq, qabq]; exact hc)) (by simp -implicitDefEqProofs [hP, qafc, resL, resV, show qag8 Tryz.prog 46 = some true from by kernel_rfl, show qab8 Tryz.prog 46 = some 2 from by kernel_rfl, one_, qacc, nums]) ⟨rfl, rfl, trivial⟩ (by simp)
theorem qaun (B : RsD) (X : Cx) (hP : X.P = Tryz.prog) (hm : X.m = 2) (k ks wd ms : Int) (L : List Entry) (xs : List Int) (hs : ∀ a ∈ L, qacd a) (hL : L.length ≤ 1000000) (hok : ∀ a ∈ L, qap7 k a xs) (hf : qaia k ks wd xs = true) (tl : Sl) (nx : Nat) :
  SWp X qats (QFun X (Tryz.f46).results.toList 2 (qajo (qag9 k ks wd L xs)) (qabm B k ks wd ms L)) ⟨(0, .ptr 0 8) :: (1, nums .u64 xs) :: (4, .ptr 2 0) :: tl, [(0, qaaq B k ks wd ms 1 L.length), (1, qabq L), (2, .cells 46 [.int .i64 0, .nilsl])], nx⟩ := by
 have hI : qbjs k ks wd L xs = qail k wd L xs L.length := if_pos hf;have hnil : CoL [.int .i64 0, .nilsl] (qacc 0 []) := ⟨.refl _, Co.nilsl 1, trivial⟩
 unfold qats;repeat' (first | (with_reducible refine qabb ?_) | ((with_reducible refine qaab ?_); (try rw [hP]); simp -implicitDefEqProofs [nums, qaaq, qabq, *]) | fail)
 refine qabf (qadm (fun s n => ∃ (i : Nat) (b : Int), s = ⟨[(0, .ptr 0 8), (1, nums .u64 xs), (4, .ptr 2 0), (7, .int .i64 b), (8, .int .i64 i)], [(0, qaaq B k ks wd ms 1 L.length), (1, qabq L), (2, .cells 46 [.int .i64 0, .nilsl])], 3⟩ ∧ i ≤ L.length ∧ b = qail k wd L xs i ∧ n = L.length - i) (qabl [(0, 0), (1, 1), (2, 2)] hm rfl (by simp) (by simp -implicitDefEqProofs [nums]) (by simp -implicitDefEqProofs [qaaq, qabq])) ⟨0, -1, rfl, by omega, rfl, rfl⟩ ?_);rintro s n ⟨i, b, rfl, h1, hb0, rfl⟩;have hb := qalr k wd L xs i h1;rw [← hb0] at hb;unfold qaj8;rcases Nat.lt_or_ge i L.length with hi | hi
 ·have hsu : qail k wd L xs (i + 1) = if qak2 k wd L[i] xs && qafh L[i] L b then (i : Int) else b := by
   rw [← qajh hi, hb0]; rfl
  replace hsu := Lib.hid hsu;replace hb0 := Lib.hid hb0;rcases hb with rfl | ⟨j, rfl, hj⟩
  ·
   repeat' (first | (with_reducible first | refine qabb ?_ | refine qabg ?_) | ((with_reducible refine qadv ?_ ?_); (focus rfl)) | ((with_reducible first | refine qaab ?_ | refine qaaz (by rw [hP]; exact mixed) ?_); (try rw [hP]); simp -implicitDefEqProofs [qaaa, nums, qaay, qaaq, qabq, *]) | ((with_reducible refine qaai ?_); (try simp -implicitDefEqProofs [qaaa, nums, qaay, qaaq, qabq, *])) | ((with_reducible refine qaap rfl (fun h => ?_) (fun h => ?_)) <;> have h' := h <;> (try simp at h') <;> (try subst h')) | ((with_reducible refine qacn (fun h => ?_) (fun h => ?_)) <;> have h' := h <;> (try simp at h') <;> (try subst h') <;> simp -implicitDefEqProofs [qaaa, nums, qaay, qaaq, qabq, *]) | (refine yR (qafb (qbjr B k ks wd ms L _ _ (hs _ (by simp)) (hok _ (by simp))) (fun σ => rfl) (fun σ => rfl) rfl 0 1 _ (by decide) (by simp) (by simp)) ?_; simp -implicitDefEqProofs [qaaa, nums, qaay, qaaq, qabq, *]) | ((rw [qabo (by omega) (by omega)]; refine qab3 (qabl [(0, 0), (1, 1), (2, 2)] hm rfl (by simp) ?_ ?_) ⟨i + 1, i, rfl, by omega, ?_, rfl⟩ (by omega); (focus (simp -implicitDefEqProofs; done)); (focus (simp -implicitDefEqProofs [qaaq, qabq]; done)))) | ((rw [qabo (by omega) (by omega)]; refine qab3 (qabl [(0, 0), (1, 1), (2, 2)] hm rfl (by simp) ?_ ?_) ⟨i + 1, -1, rfl, by omega, ?_, rfl⟩ (by omega); (focus (simp -implicitDefEqProofs; done)); (focus (simp -implicitDefEqProofs [qaaq, qabq]; done)))) | fail)
   all_goals (rw [hsu.out]; unfold qafh; (try simp_all) <;> omega)
  ·have hjL : j < L.length := by omega
   have hj0 : ¬ ((j : Int) < 0) := by omega
   repeat' (first | (with_reducible first | refine qabb ?_ | refine qabg ?_) | ((with_reducible refine qadv ?_ ?_); (focus rfl)) | ((with_reducible first | refine qaab ?_ | refine qaaz (by rw [hP]; exact mixed) ?_); (try rw [hP]); simp -implicitDefEqProofs [qaaa, nums, qaay, qaaq, qabq, *]) | ((with_reducible refine qaai ?_); (try simp -implicitDefEqProofs [qaaa, nums, qaay, qaaq, qabq, *])) | ((with_reducible refine qaap rfl (fun h => ?_) (fun h => ?_)) <;> have h' := h <;> (try simp at h') <;> (try subst h')) | ((with_reducible refine qacn (fun h => ?_) (fun h => ?_)) <;> have h' := h <;> (try simp at h') <;> (try subst h') <;> simp -implicitDefEqProofs [qaaa, nums, qaay, qaaq, qabq, *]) | (refine yR (qafb (qbjr B k ks wd ms L _ _ (hs _ (by simp)) (hok _ (by simp))) (fun σ => rfl) (fun σ => rfl) rfl 0 1 _ (by decide) (by simp) (by simp)) ?_; simp -implicitDefEqProofs [qaaa, nums, qaay, qaaq, qabq, *]) | ((rw [qabo (by omega) (by omega)]; refine qab3 (qabl [(0, 0), (1, 1), (2, 2)] hm rfl (by simp) ?_ ?_) ⟨i + 1, i, rfl, by omega, ?_, rfl⟩ (by omega); (focus (simp -implicitDefEqProofs; done)); (focus (simp -implicitDefEqProofs [qaaq, qabq]; done)))) | ((rw [qabo (by omega) (by omega)]; refine qab3 (qabl [(0, 0), (1, 1), (2, 2)] hm rfl (by simp) ?_ ?_) ⟨i + 1, j, rfl, by omega, ?_, rfl⟩ (by omega); (focus (simp -implicitDefEqProofs; done)); (focus (simp -implicitDefEqProofs [qaaq, qabq]; done)))) | fail)
   all_goals (rw [hsu.out]; unfold qafh; (try simp_all) <;> omega)
 ·obtain rfl : i = L.length := by omega
  rcases hb with rfl | ⟨j, rfl, hj⟩
  ·have hR : qag9 k ks wd L xs = none := by unfold qag9; rw [hI, ← hb0]; rfl
   rw [hR];replace hb0 := Lib.hid hb0;repeat' (first | (with_reducible refine qabb ?_) | ((with_reducible refine qaab ?_); (try rw [hP]); simp -implicitDefEqProofs [qaaa, nums, qaay, qaaq, qabq, *]) | ((with_reducible refine qabv ?_); (try simp -implicitDefEqProofs [qaaa, nums, qaay, qaaq, qabq, *])) | ((with_reducible refine qaba ?_); (try simp only [qaa2, qaac, qaaj])) | ((with_reducible refine qaap rfl (fun h => ?_) (fun h => ?_)) <;> have h' := h <;> (try simp at h') <;> (try subst h')) | (exact qajn B X hP hm k ks wd ms L 0 [] 0 false _ _ _ hnil) | fail)
  ·have hR : qag9 k ks wd L xs = some L[j] := by
    unfold qag9; rw [hI, ← hb0, if_pos (by omega)]; simp [hj]
   rw [hR];have hj0 : ¬ ((j : Int) < 0) := by omega
   replace hb0 := Lib.hid hb0;repeat' (first | (with_reducible refine qabb ?_) | ((with_reducible refine qadv ?_ ?_); (focus rfl)) | ((with_reducible first | refine qaab ?_ | refine qaaz (by rw [hP]; exact mixed) ?_); (try rw [hP]); simp -implicitDefEqProofs [qaaa, nums, qaay, qaaq, qabq, *]) | ((with_reducible first | refine qaai ?_ | refine qabv ?_); (try simp -implicitDefEqProofs [qaaa, nums, qaay, qaaq, qabq, *])) | ((with_reducible refine qaba ?_); (try simp only [qaa2, qaac, qaaj])) | ((with_reducible refine qaap rfl (fun h => ?_) (fun h => ?_)) <;> have h' := h <;> (try simp at h') <;> (try subst h')) | (refine qabe (qarl L[j] (hs _ (by simp)) _) ?_; simp -implicitDefEqProofs [qaaa, nums, qaay, qaaq, qabq, *]) | (exact qajn B X hP hm k ks wd ms L L[j].act L[j].args L[j].len true _ _ _ (.refl _)) | fail)
theorem qblu (B : RsD) (k ks wd ms : Int) (L : List Entry) (xs : List Int) (hs : ∀ a ∈ L, qacd a) (hL : L.length ≤ 1000000) (hk2 : k = 2 → ks = 1) (hok : (xs.length : Int) = ks → ∀ a ∈ L, qap7 k a xs) : SCalls Tryz.prog 46 [.ptr 0 8, nums .u64 xs] (qabm B k ks wd ms L) 2 (qajo (qag9 k ks wd L xs)) (qabm B k ks wd ms L) := by
 refine yG (N := 129) Tryz.func46 qa61 ⟨rfl, rfl, trivial⟩ (qac8 B _ _ _ _ _) ?_;rintro X hP hN hm;have hnil : CoL [.int .i64 0, .nilsl] (qacc 0 []) := ⟨.refl _, Co.nilsl 1, trivial⟩
 by_cases hf : qaia k ks wd xs = true
 ·have hf2 := hf;unfold qaia at hf2;simp only [Bool.and_eq_true, decide_eq_true_eq, Bool.not_eq_true', Bool.and_eq_false_iff, beq_eq_false_iff_ne, Bool.or_eq_false_iff, decide_eq_false_iff_not] at hf2;obtain ⟨rfl, hf3⟩ := hf2;have b1 : k = 2 → ¬ wd < 1 := fun h => (hf3.resolve_left (fun h2 => h2 h)).1
  have b2 : k = 2 → ¬ 64 < wd := fun h => (hf3.resolve_left (fun h2 => h2 h)).2.1
  have b0 : k = 2 → 0 < xs.length := fun h => by have := hk2 h; omega
  have b3 : k = 2 → ∀ h : 0 < xs.length, qaja xs[0] wd = false := fun h h2 => by
   have := (hf3.resolve_left (fun h2 => h2 h)).2.2;rwa [qagx _ _ h2] at this
  have htail := Lib.hid fun tl nx => qaun B X hP hm k xs.length wd ms L xs hs hL (hok rfl) hf tl nx
  clear hk2 hok hf3 hf;unfold qa61 qabm qaaq qabq;repeat' (first | ((exact htail.out _ _)) | (with_reducible refine qabb ?_) | ((with_reducible refine qadv ?_ ?_); (focus rfl)) | ((with_reducible first | refine qaab ?_ | refine qaaz (by rw [hP]; exact mixed) ?_); (try rw [hP]); simp -implicitDefEqProofs [qaaa, nums, qaay, qaaq, qabq, *]) | ((with_reducible refine qaai ?_); (try simp -implicitDefEqProofs [qaaa, nums, qaay, qaaq, qabq, *])) | ((with_reducible refine qaap rfl (fun h => ?_) (fun h => ?_)) <;> have h' := h <;> (try simp at h') <;> (try subst h')) | ((with_reducible refine qacn (fun h => ?_) (fun h => ?_)) <;> have h' := h <;> (try simp at h') <;> (try subst h') <;> simp -implicitDefEqProofs [qaaa, nums, qaay, qaaq, qabq, *]) | (refine qabe (yQ (qayq _ _) _) ?_; simp -implicitDefEqProofs [qaaa, nums, qaay, qaaq, qabq, *]) | fail)
 ·have hR : qag9 k ks wd L xs = none := by unfold qag9 qbjs; rw [if_neg hf]; rfl
  rw [hR];have hlt : k = 2 → (xs.length : Int) = ks → 0 < xs.length := fun h h2 => by have := hk2 h; omega
  clear hk2 hok;unfold qa61 qabm qaaq qabq;repeat' (first | (with_reducible refine qabb ?_) | ((with_reducible refine qadv ?_ ?_); (focus rfl)) | ((with_reducible first | refine qaab ?_ | refine qaaz (by rw [hP]; exact mixed) ?_); (try rw [hP]); simp -implicitDefEqProofs [qaaa, nums, qaay, qaaq, qabq, *]) | ((with_reducible refine qaai ?_); (try simp -implicitDefEqProofs [qaaa, nums, qaay, qaaq, qabq, *])) | ((with_reducible refine qaba ?_); (try simp only [qaa2, qaac, qaaj])) | ((with_reducible refine qaap rfl (fun h => ?_) (fun h => ?_)) <;> have h' := h <;> (try simp at h') <;> (try subst h')) | ((with_reducible refine qacn (fun h => ?_) (fun h => ?_)) <;> have h' := h <;> (try simp at h') <;> (try subst h') <;> simp -implicitDefEqProofs [qaaa, nums, qaay, qaaq, qabq, *]) | (refine qabe (yQ (qayq _ _) _) ?_; simp -implicitDefEqProofs [qaaa, nums, qaay, qaaq, qabq, *]) | (exact qajn B X hP hm _ _ _ _ L 0 [] 0 false _ _ _ hnil) | fail)
  all_goals (exfalso; apply hf; unfold qaia; simp_all [el])
end
section
attribute [local simp] qabn qaca qacq qab2 qai3
set_option maxHeartbeats 4000000 in
theorem rall_sZ (B : RsD) (k ks wd ms : Int) (L S : List Entry) (hs : ∀ a ∈ L, qacd a) (hL : L.length ≤ 1000000) (hS : S.Pairwise fun a b => qacl a b = true) (hp : S.Perm L) : SCalls Tryz.prog 30 [.ptr 0 8] (qabm B k ks wd ms L) 2 (ents S) (qabm B k ks wd ms L) := by
 refine yG (N := 75) Tryz.func30 c_rall ⟨rfl, trivial⟩ (qac8 B _ _ _ _ _) ?_;rintro X hP hN hm;have hlen : S.length = L.length := hp.length_eq;have hsS : ∀ a ∈ S, qacd a := fun a ha => hs a (hp.mem_iff.1 ha)
 unfold c_rall qabm qaaq qabq;repeat' (first | (with_reducible refine qabb ?_) | ((with_reducible refine qaab ?_); (try rw [hP]); simp -implicitDefEqProofs [*]) | fail)
 refine qad8 (qayp 3 38 6 rfl) ?_;refine qabf (qadm (fun s m => ∃ n : Nat, s = ⟨[(0, .ptr 0 8), (3, .own 2 n)], [(0, qaaq B k ks wd ms 1 L.length), (1, qabq L), (2, .row 38 6 ((S.take n).map qaaa))], 3⟩ ∧ n ≤ L.length ∧ m = L.length - n) (qabl [(0, 0), (1, 1), (2, 4)] hm rfl (by simp) (by simp -implicitDefEqProofs) (by simp -implicitDefEqProofs [qaaq, qabq])) ⟨0, rfl, by omega, rfl⟩ ?_);rintro s m ⟨n, rfl, hn, rfl⟩;unfold qatt;repeat' (first | (with_reducible first | refine qabb ?_ | refine qabg ?_) | ((with_reducible refine qaab ?_); (try rw [hP]); simp -implicitDefEqProofs [qaaa, nums, qaaq, qabq, *]) | ((with_reducible first | refine qaai ?_ | refine qabv ?_); (try simp -implicitDefEqProofs [qaaa, nums, qaaq, qabq, *])) | ((with_reducible refine qaba ?_); (try simp only [qaa2, qaac, qaaj])) | ((with_reducible refine qaap rfl (fun h => ?_) (fun h => ?_)) <;> have h' := h <;> (try simp at h') <;> (try subst h')) | fail)
 ·have hnS : n < S.length := by omega
  have hsh := qa96 hS hp;refine qabf (qadm (fun s m => ∃ (i : Nat) (b : Int), s = ⟨[(0, .ptr 0 8), (3, .own 2 n), (4, .int .i64 b), (5, .int .i64 i)], [(0, qaaq B k ks wd ms 1 L.length), (1, qabq L), (2, .row 38 6 ((S.take n).map qaaa))], 3⟩ ∧ i ≤ L.length ∧ qbk1 S L n i b ∧ m = L.length - i) (qabl [(0, 0), (1, 1), (2, 2)] hm rfl (by simp) (by simp -implicitDefEqProofs) (by simp -implicitDefEqProofs [qaaq, qabq])) ⟨0, -1, rfl, by omega, .inl ⟨rfl, by intro j a hj; omega⟩, rfl⟩ ?_);rintro s m ⟨i, b, rfl, h1, hb, rfl⟩;unfold qatu;rcases Nat.lt_or_ge i L.length with hi | hi
  ·have hbr : b = -1 ∨ ∃ k : Nat, b = k ∧ k < i := by
    rcases hb with ⟨h, _⟩ | ⟨k, _, h, h2, _⟩
    ·exact .inl h
    ·exact .inr ⟨k, h, h2⟩
   have hno := fun hc => qbpx hi hb hc
   have hnew := fun hc hb2 => qbil hi hb hc hb2 hsh
   have hold := fun (k : Nat) (hk : k < L.length) (e : b = k) hn => qbik (k := k) hi hk (by rw [← e]; exact hb) hn
   replace hno := Lib.hid hno;replace hnew := Lib.hid hnew;replace hold := Lib.hid hold;replace hb := Lib.hid hb;cases n with
   | zero =>
    have hcand : qark S 0 L[i] = true := rfl;replace hcand := Lib.hid hcand;rcases hbr with rfl | ⟨q, rfl, hq⟩
    ·
     repeat' (first | (with_reducible first | refine qabb ?_ | refine qabg ?_) | ((with_reducible refine qadv ?_ ?_); (focus rfl)) | ((with_reducible first | refine qaab ?_ | refine qaaz (by rw [hP]; exact mixed) ?_); (try rw [hP]); simp -implicitDefEqProofs [qaaa, nums, qaaq, qabq, *]) | ((with_reducible refine qaai ?_); (try simp -implicitDefEqProofs [qaaa, nums, qaaq, qabq, *])) | ((with_reducible refine qaap rfl (fun h => ?_) (fun h => ?_)) <;> have h' := h <;> (try simp at h') <;> (try subst h')) | ((rw [qabo (by omega) (by omega)]; refine qab3 (qabl [(0, 0), (1, 1), (2, 2)] hm rfl (by simp) ?_ ?_) ⟨i + 1, i, rfl, by omega, ?_, rfl⟩ (by omega); (focus (simp -implicitDefEqProofs; done)); (focus (simp -implicitDefEqProofs [qaaq, qabq]; done)))) | fail)
     all_goals first
      | exact hno.out (hcand.out.trans ‹_›)
      | exact hnew.out hcand.out (.inl rfl)
      | exact hnew.out hcand.out (.inr ⟨_, ‹_›, rfl, ‹_›⟩)
      | exact hnew.out (hcand.out.trans ‹_›) (.inl rfl)
      | exact hnew.out (hcand.out.trans ‹_›) (.inr ⟨_, ‹_›, rfl, ‹_›⟩)
      | exact hold.out _ ‹_› rfl ‹_›
    ·have hqL : q < L.length := by omega
     have hq0 : ¬ ((q : Int) < 0) := by omega
     repeat' (first | (with_reducible first | refine qabb ?_ | refine qabg ?_) | ((with_reducible refine qadv ?_ ?_); (focus rfl)) | ((with_reducible first | refine qaab ?_ | refine qaaz (by rw [hP]; exact mixed) ?_); (try rw [hP]); simp -implicitDefEqProofs [qaaa, nums, qaaq, qabq, *]) | ((with_reducible refine qaai ?_); (try simp -implicitDefEqProofs [qaaa, nums, qaaq, qabq, *])) | ((with_reducible refine qaap rfl (fun h => ?_) (fun h => ?_)) <;> have h' := h <;> (try simp at h') <;> (try subst h')) | (refine qabe (qa9j _ _ (by first | exact hs _ (by simp) | exact hsS _ (by simp)) _) ?_; simp -implicitDefEqProofs [qaaa, nums, qaaq, qabq, *]) | ((rw [qabo (by omega) (by omega)]; refine qab3 (qabl [(0, 0), (1, 1), (2, 2)] hm rfl (by simp) ?_ ?_) ⟨i + 1, i, rfl, by omega, ?_, rfl⟩ (by omega); (focus (simp -implicitDefEqProofs; done)); (focus (simp -implicitDefEqProofs [qaaq, qabq]; done)))) | ((rw [qabo (by omega) (by omega)]; refine qab3 (qabl [(0, 0), (1, 1), (2, 2)] hm rfl (by simp) ?_ ?_) ⟨i + 1, q, rfl, by omega, ?_, rfl⟩ (by omega); (focus (simp -implicitDefEqProofs; done)); (focus (simp -implicitDefEqProofs [qaaq, qabq]; done)))) | fail)
     all_goals first
      | exact hno.out (hcand.out.trans ‹_›)
      | exact hnew.out hcand.out (.inl rfl)
      | exact hnew.out hcand.out (.inr ⟨_, ‹_›, rfl, ‹_›⟩)
      | exact hnew.out (hcand.out.trans ‹_›) (.inl rfl)
      | exact hnew.out (hcand.out.trans ‹_›) (.inr ⟨_, ‹_›, rfl, ‹_›⟩)
      | exact hold.out _ ‹_› rfl ‹_›
   | succ m =>
    have hmS : m < S.length := by omega
    have hwm : IntKind.i64.wrap (m : Int) = m := IntWalk.i64_in _ ⟨by omega, by omega⟩;have hcand : qark S (m + 1) L[i] = qacl S[m] L[i] := by unfold qark; simp only [List.getElem?_eq_getElem hmS]
    replace hcand := Lib.hid hcand;rcases hbr with rfl | ⟨q, rfl, hq⟩
    ·
     repeat' (first | (with_reducible first | refine qabb ?_ | refine qabg ?_) | ((with_reducible refine qadv ?_ ?_); (focus rfl)) | ((with_reducible first | refine qaab ?_ | refine qaaz (by rw [hP]; exact mixed) ?_); (try rw [hP]); simp -implicitDefEqProofs [qaaa, nums, qaaq, qabq, *]) | ((with_reducible first | refine qaai ?_ | refine qabv ?_); (try simp -implicitDefEqProofs [qaaa, nums, qaaq, qabq, *])) | ((with_reducible refine qaap rfl (fun h => ?_) (fun h => ?_)) <;> have h' := h <;> (try simp at h') <;> (try subst h')) | ((with_reducible refine qafm ?_ ?_); (first | omega | (unfold maxLen; omega)); simp -implicitDefEqProofs [qaaa, nums, qaaq, qabq, *]) | (refine qabe (qa9j _ _ (by first | exact hs _ (by simp) | exact hsS _ (by simp)) _) ?_; simp -implicitDefEqProofs [qaaa, nums, qaaq, qabq, *]) | ((rw [qabo (by omega) (by omega)]; refine qab3 (qabl [(0, 0), (1, 1), (2, 2)] hm rfl (by simp) ?_ ?_) ⟨i + 1, i, rfl, by omega, ?_, rfl⟩ (by omega); (focus (simp -implicitDefEqProofs; done)); (focus (simp -implicitDefEqProofs [qaaq, qabq]; done)))) | ((rw [qabo (by omega) (by omega)]; refine qab3 (qabl [(0, 0), (1, 1), (2, 2)] hm rfl (by simp) ?_ ?_) ⟨i + 1, -1, rfl, by omega, ?_, rfl⟩ (by omega); (focus (simp -implicitDefEqProofs; done)); (focus (simp -implicitDefEqProofs [qaaq, qabq]; done)))) | fail)
     all_goals first
      | exact hno.out (hcand.out.trans ‹_›)
      | exact hnew.out hcand.out (.inl rfl)
      | exact hnew.out hcand.out (.inr ⟨_, ‹_›, rfl, ‹_›⟩)
      | exact hnew.out (hcand.out.trans ‹_›) (.inl rfl)
      | exact hnew.out (hcand.out.trans ‹_›) (.inr ⟨_, ‹_›, rfl, ‹_›⟩)
      | exact hold.out _ ‹_› rfl ‹_›
    ·have hqL : q < L.length := by omega
     have hq0 : ¬ ((q : Int) < 0) := by omega
     repeat' (first | (with_reducible first | refine qabb ?_ | refine qabg ?_) | ((with_reducible refine qadv ?_ ?_); (focus rfl)) | ((with_reducible first | refine qaab ?_ | refine qaaz (by rw [hP]; exact mixed) ?_); (try rw [hP]); simp -implicitDefEqProofs [qaaa, nums, qaaq, qabq, *]) | ((with_reducible first | refine qaai ?_ | refine qabv ?_); (try simp -implicitDefEqProofs [qaaa, nums, qaaq, qabq, *])) | ((with_reducible refine qaap rfl (fun h => ?_) (fun h => ?_)) <;> have h' := h <;> (try simp at h') <;> (try subst h')) | ((with_reducible refine qafm ?_ ?_); (first | omega | (unfold maxLen; omega)); simp -implicitDefEqProofs [qaaa, nums, qaaq, qabq, *]) | (refine qabe (qa9j _ _ (by first | exact hs _ (by simp) | exact hsS _ (by simp)) _) ?_; simp -implicitDefEqProofs [qaaa, nums, qaaq, qabq, *]) | ((rw [qabo (by omega) (by omega)]; refine qab3 (qabl [(0, 0), (1, 1), (2, 2)] hm rfl (by simp) ?_ ?_) ⟨i + 1, i, rfl, by omega, ?_, rfl⟩ (by omega); (focus (simp -implicitDefEqProofs; done)); (focus (simp -implicitDefEqProofs [qaaq, qabq]; done)))) | ((rw [qabo (by omega) (by omega)]; refine qab3 (qabl [(0, 0), (1, 1), (2, 2)] hm rfl (by simp) ?_ ?_) ⟨i + 1, q, rfl, by omega, ?_, rfl⟩ (by omega); (focus (simp -implicitDefEqProofs; done)); (focus (simp -implicitDefEqProofs [qaaq, qabq]; done)))) | fail)
     all_goals first
      | exact hno.out (hcand.out.trans ‹_›)
      | exact hnew.out hcand.out (.inl rfl)
      | exact hnew.out hcand.out (.inr ⟨_, ‹_›, rfl, ‹_›⟩)
      | exact hnew.out (hcand.out.trans ‹_›) (.inl rfl)
      | exact hnew.out (hcand.out.trans ‹_›) (.inr ⟨_, ‹_›, rfl, ‹_›⟩)
      | exact hold.out _ ‹_› rfl ‹_›
  ·obtain rfl : i = L.length := by omega
   obtain ⟨q, rfl, hqe⟩ := qbim hS hp hnS hb;obtain ⟨hqL, hqe2⟩ := List.getElem?_eq_some_iff.1 hqe;have hn1 : n ≤ S.length := by omega
   replace hb := Lib.hid hb;have hz1 : n + 1 ≤ maxLen ∧ (n + 1) * 96 ≤ 140737488355328 := by unfold maxLen; omega
   repeat' (first | (with_reducible refine qabb ?_) | ((with_reducible refine qaab ?_); (try rw [hP]); simp -implicitDefEqProofs [qaaa, nums, qaaq, qabq, *]) | ((with_reducible refine qabv ?_); (try simp -implicitDefEqProofs [qaaa, nums, qaaq, qabq, *])) | ((with_reducible refine qaap rfl (fun h => ?_) (fun h => ?_)) <;> have h' := h <;> (try simp at h') <;> (try subst h')) | (refine qabe (qarl S[n] (hsS _ (List.getElem_mem _)) _) ?_; simp -implicitDefEqProofs [qaaa, nums, qaaq, qabq, *]) | fail)
   have hrow : List.take (n + 1) (List.map qaaa S) = List.take n (List.map qaaa S) ++ [qaaa S[n]] := by
    rw [← List.map_take, List.take_succ_eq_append_getElem hnS, List.map_append, List.map_take]; rfl
   exact qab3 (qabl [(0, 0), (1, 1), (2, 27)] hm rfl (by simp) (by simp -implicitDefEqProofs) (by simp -implicitDefEqProofs [qaaq, qabq]; rw [hrow]; exact .refl _)) ⟨n + 1, rfl, by omega, rfl⟩ (by omega)
 ·obtain rfl : n = S.length := by omega
  exact qabu (s' := ⟨[(2, ents S)], [(0, qaaq B k ks wd ms 1 L.length), (1, qabq L)], 2⟩) (wk_fz [2] [(0, 0), (1, 1)] hm rfl (by simp -implicitDefEqProofs [qakv]) rfl (by simp) (by simp -implicitDefEqProofs [ents]) (by simp -implicitDefEqProofs [qaaq, qabq])) rfl ⟨rfl, rfl, trivial⟩ (by simp)
end
section
attribute [local simp] qabn qaca qacq qab2 qai3
theorem qadh {B : RsD} {o : Nat} {f : FuncId} {args : List SV} {r : SV} {k ks wd ms : Int} {L L' : List Entry} (h : SCalls Tryz.prog f (.ptr 0 o :: args) (qabm B k ks wd ms L) 2 r (qabm B k ks wd ms L')) (ha : ∀ σ, args.map (ren σ) = args) (hr : ∀ σ, ren σ r = r) (hk : ok2 r = true)
  (a b q : Nat) (hab : a ≠ b) (haq : a < q) (hbq : b < q) : SCalls Tryz.prog f (.ptr a o :: args) (qaay B a b k ks wd ms L) q r (qaay B a b k ks wd ms L') := by
 have g0 : ∀ L, geth (qaay B a b k ks wd ms L) a = some (qaaq B k ks wd ms b L.length) := fun L => by simp [qaay, geth]
 have g1 : ∀ L, geth (qaay B a b k ks wd ms L) b = some (qabq L) := fun L => by simp [qaay, geth, hab]
 refine qacp [a, b] h rfl (by simp [hab]) (by simp; omega) ?_ ⟨⟨_, g0 L, rfl, .refl _⟩, ⟨_, g1 L, rfl, rfl, ?_⟩, trivial⟩ (by simp [idsH, qabm]) (hr _).symm hk ⟨⟨_, g0 L', rfl, rfl, rfl⟩, ⟨_, g1 L', rfl, rfl, qazm L', ?_⟩, trivial⟩ (by simp [idsH, qabm]) rfl
 ·show _ = _ :: args.map _;rw [ha]; rfl
 ·rw [qabn]; exact .refl _
 ·exact (qabn _ L').symm
theorem qaiv {B : RsD} {o : Nat} {f : FuncId} {args : List SV} {r : SV} {k ks wd ms : Int} {L L' : List Entry} (h : SCalls Tryz.prog f (.ptr 0 o :: args) (qabm B k ks wd ms L) 2 r [(0, qaaq B k ks wd ms 2 L'.length), (2, qabq L')]) (ha : ∀ σ, args.map (ren σ) = args) (hr : ∀ σ, ren σ r = r) (hk : ok2 r = true)
  (a b q : Nat) (hab : a ≠ b) (haq : a < q) (hbq : b < q) : SCalls Tryz.prog f (.ptr a o :: args) (qaay B a b k ks wd ms L) q r (qaay B a q k ks wd ms L') := by
 have g0 : geth (qaay B a b k ks wd ms L) a = some (qaaq B k ks wd ms b L.length) := by simp [qaay, geth]
 have g1 : geth (qaay B a b k ks wd ms L) b = some (qabq L) := by simp [qaay, geth, hab]
 have g2 : geth (qaay B a q k ks wd ms L') a = some (qaaq B k ks wd ms q L'.length) := by simp [qaay, geth]
 have g3 : geth (qaay B a q k ks wd ms L') q = some (qabq L') := by simp [qaay, geth, Nat.ne_of_lt haq]
 have e2 : sg [a, b] q 2 = q := rfl;refine qacp [a, b] h rfl (by simp [hab]) (by simp; omega) ?_ ⟨⟨_, g0, rfl, .refl _⟩, ⟨_, g1, rfl, rfl, ?_⟩, trivial⟩ (by simp [idsH, qabm]) (hr _).symm hk ⟨⟨_, g2, rfl, rfl, rfl⟩, ⟨qabq L', by rw [e2]; exact g3, rfl, rfl, qazm L', ?_⟩, trivial⟩ (by simp [idsH]) rfl
 ·show _ = _ :: args.map _;rw [ha]; rfl
 ·rw [qabn]; exact .refl _
 ·exact (qabn _ L').symm
theorem raddYZ (B : RsD) (k ks wd ms : Int) (L : List Entry) (e : Entry) (hs : ∀ a ∈ L, qacd a) (hse : qacd e) (hL : L.length ≤ 1000000) (hok : qamz k ks L) (h0 : addC k ks wd ms L e = 0) (a b q : Nat) (hab : a ≠ b) (haq : a < q) (hbq : b < q) :
  SCalls Tryz.prog 44 [.ptr a 8, .agg (qaaa e)] (qaay B a b k ks wd ms L) q (.int .i64 0) (qaay B a q k ks wd ms (L ++ [qais k e])) := by
 have := qbja B k ks wd ms L e hs hse hL hok;rw [qauh h0, h0, ← qbp6] at this;exact qaiv this (fun σ => rfl) (fun σ => rfl) rfl a b q hab haq hbq
theorem raddNZ (B : RsD) (k ks wd ms : Int) (L : List Entry) (e : Entry) (hs : ∀ a ∈ L, qacd a) (hse : qacd e) (hL : L.length ≤ 1000000) (hok : qamz k ks L) (h0 : addC k ks wd ms L e ≠ 0) (a b q : Nat) (hab : a ≠ b) (haq : a < q) (hbq : b < q) :
  SCalls Tryz.prog 44 [.ptr a 8, .agg (qaaa e)] (qaay B a b k ks wd ms L) q (.int .i64 (addC k ks wd ms L e)) (qaay B a b k ks wd ms L) := by
 have := qbja B k ks wd ms L e hs hse hL hok;rw [qbp7 h0] at this;exact qadh this (fun σ => rfl) (fun σ => rfl) rfl a b q hab haq hbq
theorem rdropYZ (B : RsD) (k ks wd ms : Int) (L : List Entry) (e : Entry) (hs : ∀ a ∈ L, qacd a) (hse : qacd e) (hL : L.length ≤ 1000000) (h0 : qaha k ks wd L e = 0) (a b q : Nat) (hab : a ≠ b) (haq : a < q) (hbq : b < q) :
  SCalls Tryz.prog 43 [.ptr a 8, .agg (qaaa e)] (qaay B a b k ks wd ms L) q (.int .i64 0) (qaay B a q k ks wd ms (qai6 k ks wd L e)) := by
 have := qazx B k ks wd ms L e hs hse hL;rw [show qavf B k ks wd ms L e = [(0, qaaq B k ks wd ms 2 (qai6 k ks wd L e).length), (2, qabq (qai6 k ks wd L e))] from if_pos h0, h0] at this;exact qaiv this (fun σ => rfl) (fun σ => rfl) rfl a b q hab haq hbq
theorem rdropNZ (B : RsD) (k ks wd ms : Int) (L : List Entry) (e : Entry) (hs : ∀ a ∈ L, qacd a) (hse : qacd e) (hL : L.length ≤ 1000000) (h0 : qaha k ks wd L e ≠ 0) (a b q : Nat) (hab : a ≠ b) (haq : a < q) (hbq : b < q) :
  SCalls Tryz.prog 43 [.ptr a 8, .agg (qaaa e)] (qaay B a b k ks wd ms L) q (.int .i64 (qaha k ks wd L e)) (qaay B a b k ks wd ms L) := by
 have := qazx B k ks wd ms L e hs hse hL;rw [show qavf B k ks wd ms L e = qabm B k ks wd ms L from if_neg h0] at this;exact qadh this (fun σ => rfl) (fun σ => rfl) rfl a b q hab haq hbq
theorem rchgAZ (B : RsD) (k ks wd ms : Int) (L : List Entry) (e : Entry) (hs : ∀ a ∈ L, qacd a) (hse : qacd e) (hL : L.length ≤ 1000000) (a b q : Nat) (hab : a ≠ b) (haq : a < q) (hbq : b < q) :
  SCalls Tryz.prog 45 [.ptr a 8, .agg (qaaa e)] (qaay B a b k ks wd ms L) q (.int .i64 (chgC k ks wd L e)) (qaay B a b k ks wd ms (chgL k ks wd L e)) :=
 qadh (rchg_sZ B k ks wd ms L e hs hse hL) (fun σ => rfl) (fun σ => rfl) rfl a b q hab haq hbq
theorem rfindAZ (B : RsD) (k ks wd ms : Int) (L : List Entry) (xs : List Int) (hs : ∀ a ∈ L, qacd a) (hL : L.length ≤ 1000000) (hk2 : k = 2 → ks = 1) (hok : (xs.length : Int) = ks → ∀ a ∈ L, qap7 k a xs) (a b q : Nat) (hab : a ≠ b) (haq : a < q) (hbq : b < q) :
  SCalls Tryz.prog 46 [.ptr a 8, nums .u64 xs] (qaay B a b k ks wd ms L) q (qajo (qag9 k ks wd L xs)) (qaay B a b k ks wd ms L) :=
 qafb (qblu B k ks wd ms L xs hs hL hk2 hok) (fun σ => rfl) (fun σ => qazp σ _) (by cases qag9 k ks wd L xs <;> rfl) a b q hab haq hbq
theorem rallAZ (B : RsD) (k ks wd ms : Int) (L S : List Entry) (hs : ∀ a ∈ L, qacd a) (hL : L.length ≤ 1000000) (hS : S.Pairwise fun a b => qacl a b = true) (hp : S.Perm L) (a b q : Nat) (hab : a ≠ b) (haq : a < q) (hbq : b < q) :
  SCalls Tryz.prog 30 [.ptr a 8] (qaay B a b k ks wd ms L) q (ents S) (qaay B a b k ks wd ms L) :=
 qafb (rall_sZ B k ks wd ms L S hs hL hS hp) (fun σ => rfl) (fun σ => rfl) rfl a b q hab haq hbq
end
end
abbrev qa5w : List SOper := [Oa 3 (.box 26 (.t 0)), Oa 6 (.mv (.c .nil))]
abbrev qa5v : List SOper := [Sa 8 6 3, Ma 9 1, Ma 10 2, Fa 11 0 3, La 12 11, Ma 13 1, Na 14 13, Fa 15 3 3, La 16 15, Oa 17 (.build [(.int .i64 0), (.int .i64 0), (.int .i64 0), (.int .i64 0), .nilsl] [(0, 1, (.t 12)), (1, 1, (.t 14)), (3, 1, (.t 16))]), Fa 18 4 3, La 19 18, Fa 20 5 3, La 21 20, Oa 22 (.build [(.int .i64 0), .nilsl] [(0, 1, (.t 19)), (1, 1, (.t 21))]), Oa 23 (.build [(.int .i64 0), .nilsl, .nilsl, (.int .i64 0), (.int .i64 0), .nilsl, .nilsl, .nilsl, (.int .i64 0), (.int .i64 0), (.int .i64 0), (.int .i64 0), .nilsl, (.int .i64 0), .nilsl] [(0, 6, (.t 8)), (6, 1, (.t 9)), (7, 1, (.t 10)), (8, 5, (.t 17)), (13, 2, (.t 22))]), Oa 24 (.box 65 (.t 23)), Ma 7 24]
abbrev qa5u : List SOper := [Fa 25 0 3, La 26 25, Ca 27 .eql 26 2]
abbrev qa5t : List SOper := [Ma 28 7, Ma 29 1, Oa 30 (.iaddr 1 (.t 29) (.c (.int .i64 0))), La 31 30, Oa 32 (.nilc (.t 28)), Fa 33 8 32, Fa 34 2 33, Va 1 34 31]
abbrev qa5s : List SOper := [Ma 35 7, Ma 6 35]
def qbki : SCode := (Sf qa5w [1, 2, 3] (Sf qa5v [1, 3, 7] (.seq (Sf qa5u [1, 7, 27] (Cn 27 (Rf qa5t [7]) .skip)) (Sf qa5s [6] .ret))))
abbrev qbfn : List SOper := [Oa 5 (.box 38 (.t 2)), Ka 6 0]
abbrev qbfm : List SOper := [Ma 9 0, Oa 10 (.nilc (.t 9)), Fa 11 0 10, Fa 12 0 11, La 13 12, Ca 14 .eql 13 3, Ma 7 14]
abbrev qbfl : List SOper := [Fa 15 0 5, Od 16 (Pa 15) 1, Od 17 (Pn 16) 3, Ma 18 0, Od 19 (.nilc (.t 18)) 8, Od 20 (Pf 6 19) 24, Od 21 (Pa 20) 56, Od 22 (Pn 21) 120, Od 23 (Pb .neq 17 22) 255, Od 24 (Pm 23) 511, Of 25 (Pm 7) 24 false 1023, Of 26 (Pm 25) 24 false 2047, Of 27 (Pf 1 5) 26 true 4095, Of 28 (Pa 27) 26 true 8191, Of 29 (Pn 28) 26 true 16383, Of 30 (Pm 0) 26 true 4095, Of 31 (.nilc (.t 30)) 26 true 36863, Of 32 (Pf 6 31) 26 true 102399, Of 33 (Pa 32) 26 true 233471, Of 34 (Pn 33) 26 true 495615, Of 35 (Pb .neq 29 34) 26 true 1048575, Of 36 (Pu 26 35) 24 false 2097151, Od 37 (Pt 24 36) 4194303]
abbrev qbfk : List SOper := [Ka 6 2]
abbrev qbfj : List SOper := [Ma 38 7, Oa 39 (.un .not (.t 38)), Ma 40 39, Oe 41 (Pf 1 5) 40 true, Oe 42 (Pa 41) 40 true, Oe 43 (Pn 42) 40 true, Oe 44 (Pc .gtr 43 0) 40 true, Ua 45 40 44, Ma 46 45, Oe 47 (Pm 7) 46 false, Oe 48 (.un .not (.t 47)) 46 false, Oe 49 (Pm 48) 46 false, Oe 50 (Pf 3 5) 49 true, Oe 51 (Pa 50) 49 true, Oe 52 (Pc .neq 51 0) 49 true, Oe 53 (Pu 49 52) 46 false, Ta 54 46 53, Ma 55 54, Oe 56 (Pm 0) 55 false, Oe 57 (.nilc (.t 56)) 55 false, Oe 58 (Pf 0 57) 55 false, Oe 59 (Pf 0 58) 55 false, Oe 60 (Pa 59) 55 false, Oe 61 (Pc .neq 60 2) 55 false, Oe 62 (Pm 61) 55 false, Oe 63 (Pf 2 5) 62 true, Oe 64 (Pa 63) 62 true, Oe 65 (Pc .neq 64 0) 62 true, Oe 66 (Pu 62 65) 55 false, Ta 67 55 66]
abbrev qbfi : List SOper := [Ka 6 4]
abbrev qbfh : List SOper := [Fa 68 0 5, Od 69 (Pa 68) 1, Ma 70 0, Od 71 (.nilc (.t 70)) 4, Od 72 (Pf 6 71) 12, Od 73 (Pa 72) 28, Qh 74 42 [69, 73] 63, Od 75 (.un .not (.t 74)) 127, Od 76 (Pm 75) 255, Of 77 (Pm 7) 76 false 511, Of 78 (Pm 77) 76 false 1023, Of 79 (Pf 1 5) 78 true 2047, Of 80 (Pa 79) 78 true 4095, Of 81 (Pm 0) 78 true 2047, Of 82 (.nilc (.t 81)) 78 true 10239, Of 83 (Pf 6 82) 78 true 26623, Of 84 (Pa 83) 78 true 59391, Qi 85 42 [80, 84] 78 true 131071, Of 86 (.un .not (.t 85)) 78 true 262143, Of 87 (Pu 78 86) 76 false 524287, Od 88 (Pt 76 87) 1048575]
abbrev qbfg : List SOper := [Ka 6 6]
abbrev qahy : List SOper := [Ma 89 1, Ca 90 .eql 89 3]
abbrev qapi : List SOper := [Ma 91 0, Od 92 (.nilc (.t 91)) 1, Od 93 (Pf 8 92) 3, Sa 94 6 5, Qh 95 43 [93, 94] 15, Od 6 (Pm 95) 31]
abbrev qaph : List SOper := [Ma 96 0, Od 97 (.nilc (.t 96)) 1, Od 98 (Pf 0 97) 3, Od 99 (Ps 6 98) 7, Ma 100 0, Od 101 (.nilc (.t 100)) 16, Od 102 (Pf 7 101) 48, Od 103 (Pa 102) 112, Fa 104 4 5, Od 105 (Pa 104) 256, Fa 106 5 5, Od 107 (Pa 106) 1024, Od 108 (.build [(.int .i64 0), .nilsl] [(0, 1, (.t 105)), (1, 1, (.t 107))]) 3840, Qh 109 40 [99, 103, 108] 8191, Od 8 (Pm 109) 16383]
abbrev qapg : List SOper := [Ma 110 8, Ca 111 .neq 110 0]
abbrev qapf : List SOper := [Ma 112 8, Ma 6 112]
abbrev qape : List SOper := [Ma 113 1, Ca 114 .eql 113 1]
abbrev qapd : List SOper := [Ma 115 0, Od 116 (.nilc (.t 115)) 1, Od 117 (Pf 8 116) 3, Sa 118 6 5, Qh 119 44 [117, 118] 15, Od 6 (Pm 119) 31]
abbrev qapc : List SOper := [Ma 120 0, Od 121 (.nilc (.t 120)) 1, Od 122 (Pf 8 121) 3, Sa 123 6 5, Qh 124 45 [122, 123] 15, Od 6 (Pm 124) 31]
def c_rsdo : SCode := (Sf qbfn [0, 1, 5] (Sf qbfm [0, 1, 5, 7] (.seq (.seq (Rt qbfl [0, 1, 5, 7, 37]) (Cn 37 (Sf qbfk [6] .ret) .skip)) (.seq (Sf qbfj [0, 1, 5, 7, 67] (Cn 67 (Sf qbfi [6] .ret) .skip)) (.seq (.seq (Rt qbfh [0, 1, 5, 88]) (Cn 88 (Sf qbfg [6] .ret) .skip)) (.seq (Sf qahy [0, 1, 5, 90] (Cn 90 (.seq (Rt qapi [6]) .ret) .skip)) (.seq (.seq (Rt qaph [0, 1, 5, 8]) (Sf qapg [0, 1, 5, 8, 111] (Cn 111 (Sf qapf [6] .ret) .skip))) (.seq (Sf qape [0, 5, 114] (Cn 114 (.seq (Rt qapd [6]) .ret) .skip)) (.seq (Rt qapc [6]) .ret)))))))))
abbrev qa6a : List SOper := [Oa 3 (.box 46 (.t 1)), Ka 4 0]
abbrev qa59 : List SOper := [Ma 7 0, Od 8 (.nilc (.t 7)) 1, Od 9 (Pf 0 8) 3, Od 10 (Ps 6 9) 7, Ma 11 0, Od 12 (.nilc (.t 11)) 16, Od 13 (Pf 7 12) 48, Od 14 (Pa 13) 112, Sa 15 2 3, Qh 16 40 [10, 14, 15] 511, Od 5 (Pm 16) 1023]
abbrev qa58 : List SOper := [Ma 17 5, Ca 18 .neq 17 0]
abbrev qa57 : List SOper := [Ma 19 5, Ma 4 19]
abbrev qa56 : List SOper := [Oa 6 (.mv (.c .nilsl))]
abbrev qa55 : List SOper := [Ma 20 0, Fa 21 0 3, Od 22 (Pa 21) 2, Ma 23 6, Fa 24 1 3, Od 25 (Pa 24) 16, Od 26 (.app 70 1 8 (.t 23) (.t 25)) 56, Od 27 (.build [(.int .i64 0), .nilsl] [(0, 1, (.t 22)), (1, 1, (.t 26))]) 126, Od 28 (.nilc (.t 20)) 255, Od 29 (Pf 13 28) 511, Og (.store 2 (.t 29) (.t 27)) 1023]
abbrev qa54 : List SOper := [Ka 4 0]
def qatr : SCode := (Sf qa6a [0, 3] (.seq (.seq (Rt qa59 [0, 3, 5]) (Sf qa58 [0, 3, 5, 18] (Cn 18 (Sf qa57 [4] .ret) .skip))) (Sf qa56 [0, 3, 6] (.seq (Rt qa55 []) (Sf qa54 [4] .ret)))))
abbrev qax6 : List SOper := [Oa 4 (.alloc 46 [(.int .i64 0), .nilsl]), Oa 5 (.mv (.c (.bool false)))]
abbrev qax5 : List SOper := [Ma 9 1, Na 10 9, Ma 11 0, Oa 12 (.nilc (.t 11)), Fa 13 6 12, La 14 13, Na 15 14, Ba 16 .eql 10 15, Ma 17 16, Oe 18 (Pm 1) 17 true, Oe 19 (Pm 0) 17 true, Oe 20 (.nilc (.t 19)) 17 true, Oe 21 (Pf 6 20) 17 true, Oe 22 (Pa 21) 17 true, Qi 23 42 [18, 22] 17 true 0, Ua 24 17 23]
abbrev qax4 : List SOper := [Ma 26 0, Oa 27 (.nilc (.t 26)), Fa 28 8 27, Ma 29 1, Qc 30 46 [28, 29], Ma 25 30, Oa 31 (.extr (.t 25) 0), Oa 32 (.extr (.t 25) 1), Oa 33 (.extr (.t 25) 2), Oa 6 (.alloc 46 [(.int .i64 0), .nilsl]), Va 2 6 31, Ma 7 32, Ma 8 33]
abbrev qax3 : List SOper := [Ma 34 8]
abbrev qax2 : List SOper := [Sa 35 2 6, Va 2 4 35, Oa 5 (.mv (.c (.bool true)))]
abbrev qax1 : List SOper := [Ma 36 0, Oa 37 (.nilc (.t 36)), Fa 38 13 37, Sa 39 2 38, Va 2 4 39, Oa 5 (.mv (.c (.bool false)))]
def qaj7 : SCode := (Sf qax6 [0, 1, 4] (.seq (Sf qax5 [0, 1, 4, 24] (Cn 24 (Sf qax4 [0, 4, 6, 8] (Sf qax3 [0, 4, 6, 34] (Cn 34 (Sf qax2 [4, 5] .ret) .skip))) .skip)) (Sf qax1 [4, 5] .ret)))
abbrev qa53 : List SOper := [Oa 4 (.mv (.c (.bool false)))]
abbrev qa52 : List SOper := [Ka 5 0]
abbrev qa51 : List SOper := [Ma 6 5, Ma 7 0, Na 8 7, Ba 9 .lss 6 8]
abbrev qa50 : List SOper := [Ma 12 0, Ma 13 5, Od 14 (Pi 1 12 13) 3, Od 15 (Pa 14) 7, Ma 16 1, Ma 17 5, Od 18 (Pi 1 16 17) 48, Od 19 (Pa 18) 112, Qh 20 51 [15, 19] 255]
abbrev qa5z : List SOper := [Oa 4 (.mv (.c (.bool false)))]
abbrev qa5y : List SOper := [Ma 10 5, Ca 11 .add 10 1, Ma 5 11]
def qapb : SCode := (.seq (Sf qa51 [0, 1, 5, 9] (Ce 9 0)) (.seq (.block 1 (.seq (Rt qa50 [0, 1, 5, 20]) (Cn 20 (Sf qa5z [4] .ret) .skip))) (Rf qa5y [0, 1, 5])))
abbrev qa5x : List SOper := [Oa 4 (.mv (.c (.bool true)))]
def qbkj : SCode := (Sf qa53 [0, 1] (.seq (Sf qa52 [0, 1, 5] (Bl 0 qapb)) (Sf qa5x [4] .ret)))
abbrev qa5c : List SOper := [Oa 4 (.box 26 (.t 0)), Oa 8 (.mv (.c (.bool false)))]
abbrev qa5b : List SOper := [Oc 21 6 [], Oa 22 (.un .not (.t 21))]
abbrev qa5a : List SOper := [Oa 8 (.mv (.c (.bool false)))]
abbrev qa49 : List SOper := [Sa 23 6 4, Ma 24 1, Ma 25 2, Qc 26 7 [23, 24, 25], Ma 27 26, Oe 28 (Pm 3) 27 false, Qi 29 8 [28] 27 false 0, Ta 30 27 29]
abbrev qa48 : List SOper := [Oa 8 (.mv (.c (.bool true)))]
abbrev qa47 : List SOper := [Sa 31 6 4, Ma 32 1, Ma 33 2, Qc 34 21 [31, 32, 33], Ma 9 34]
abbrev qa46 : List SOper := [Sa 36 6 4, Ma 37 1, Ma 38 2, Qc 39 9 [36, 37, 38], Ma 35 39, Oa 40 (.extr (.t 35) 0), Oa 41 (.extr (.t 35) 1), Oa 11 (.alloc 34 [(.int .i64 0), (.int .i64 0)]), Ma 10 40, Va 2 11 41]
abbrev qa45 : List SOper := [Sa 42 6 4, Ma 43 1, Ma 44 2, Qc 45 22 [42, 43, 44], Ma 46 9, Ba 47 .neq 45 46, Ma 48 47, Oe 49 (Pf 0 11) 48 false, Oe 50 (Pa 49) 48 false, Oe 51 (Pm 9) 48 false, Oe 52 (Pb .neq 50 51) 48 false, Ta 53 48 52, Ma 54 53, Oe 55 (Pm 9) 54 false, Oe 56 (Pc .neq 55 0) 54 false, Oe 57 (Pm 56) 54 false, Oe 58 (Pf 1 11) 57 true, Oe 59 (Pa 58) 57 true, Oe 60 (.bin .neq (.t 59) (.c (.int .i64 (-1)))) 57 true, Oe 61 (Pu 57 60) 54 false, Ta 62 54 61]
abbrev qa44 : List SOper := [Oa 8 (.mv (.c (.bool false)))]
abbrev qaxl : List SOper := [Ma 63 9, Ca 64 .neq 63 0]
abbrev qaxk : List SOper := [Oa 8 (.mv (.c (.bool true)))]
abbrev qaxj : List SOper := [Sa 65 6 4, Ma 66 1, Ma 67 2, Qc 68 23 [65, 66, 67], Ma 12 68]
abbrev qaxi : List SOper := [Ka 13 0]
abbrev qaxh : List SOper := [Ma 69 13, Ma 70 3, Na 71 70, Ba 72 .lss 69 71]
abbrev qaxg : List SOper := [Ma 75 3, Ma 76 13, Ia 77 7 75 76, Fa 78 1 77, Sa 79 6 78, Qc 80 24 [79], Oa 14 (.alloc 38 [.nilsl, .nilsl, (.int .i64 0), (.int .i64 0), (.int .i64 0), .nilsl]), Va 6 14 80]
abbrev qaxf : List SOper := [Ka 15 0, Ka 16 0]
abbrev qaxe : List SOper := [Ma 81 3, Ma 82 13, Ia 83 7 81 82, Fa 84 0 83, La 85 84]
abbrev qaxd : List SOper := [Ca 87 .eql 85 0, Ma 86 87]
abbrev qaxc : List SOper := [Ma 88 10, Sa 89 6 14, Qh 90 10 [88, 89] 3, Ma 91 12, Ma 92 3, Ma 93 13, Od 94 (Pi 7 92 93) 48, Od 95 (Pf 1 94) 112, Od 96 (Ps 6 95) 240, Oh 97 25 [(.t 91), (.c (.int .i64 1)), (.t 96)] 511, Od 15 (Pm 90) 1023, Od 16 (Pm 97) 2047]
abbrev qaxb : List SOper := [Ca 99 .eql 85 1, Ma 98 99]
abbrev qaxa : List SOper := [Ma 100 10, Sa 101 6 14, Qh 102 11 [100, 101] 3, Ma 103 12, Ma 104 3, Ma 105 13, Od 106 (Pi 7 104 105) 48, Od 107 (Pf 1 106) 112, Od 108 (Ps 6 107) 240, Oh 109 25 [(.t 103), (.c (.int .i64 2)), (.t 108)] 511, Od 15 (Pm 102) 1023, Od 16 (Pm 109) 2047]
abbrev qaw9 : List SOper := [Ca 111 .eql 85 2, Ma 110 111]
abbrev qaw8 : List SOper := [Ma 112 10, Sa 113 6 14, Qh 114 12 [112, 113] 3, Ma 115 12, Ma 116 3, Ma 117 13, Od 118 (Pi 7 116 117) 48, Od 119 (Pf 1 118) 112, Od 120 (Ps 6 119) 240, Oh 121 25 [(.t 115), (.c (.int .i64 3)), (.t 120)] 511, Od 15 (Pm 114) 1023, Od 16 (Pm 121) 2047]
abbrev qaw7 : List SOper := [Ca 123 .eql 85 3, Ma 122 123]
abbrev qaw6 : List SOper := [Ma 124 10, Sa 125 6 14, Qh 126 20 [125] 2, Qh 127 19 [124, 126] 7, Ma 128 12, Ma 129 3, Ma 130 13, Od 131 (Pi 7 129 130) 96, Od 132 (Pf 1 131) 224, Od 133 (Ps 6 132) 480, Qh 134 20 [133] 1007, Qh 135 26 [128, 134] 2047, Od 15 (Pm 127) 4095, Od 16 (Pm 135) 8191]
abbrev qade : List SOper := [Ma 137 10, Fa 138 0 14, La 139 138, Qc 140 14 [137, 139], Ma 136 140, Oa 141 (.extr (.t 136) 0), Oa 142 (.extr (.t 136) 1), Oa 17 (.alloc 46 [(.int .i64 0), .nilsl]), Va 2 17 141, Ma 18 142]
abbrev qalj : List SOper := [Ma 144 12, Ma 145 3, Ma 146 13, Ia 147 7 145 146, Fa 148 1 147, Fa 149 0 148, La 150 149, Qc 151 27 [144, 150], Ma 143 151, Oa 152 (.extr (.t 143) 0), Oa 153 (.extr (.t 143) 1), Oa 19 (.alloc 46 [(.int .i64 0), .nilsl]), Va 2 19 152, Ma 20 153]
abbrev qali : List SOper := [Ma 154 15, Ma 155 16, Od 156 (Pb .neq 154 155) 3, Od 157 (Pm 156) 7, Of 158 (Pm 18) 157 false 15, Of 159 (Pm 20) 157 false 15, Of 160 (.eq 0 true (.t 158) (.t 159)) 157 false 63, Od 161 (Pt 157 160) 127, Od 162 (Pm 161) 255, Of 163 (Ps 2 17) 162 false 511, Of 164 (Ps 2 19) 162 false 511, Qi 165 15 [163, 164] 162 false 2047, Of 166 (.un .not (.t 165)) 162 false 4095, Od 167 (Pt 162 166) 8191, Od 168 (Pm 167) 16383, Of 169 (Pm 10) 168 false 32767, Qi 170 18 [169] 168 false 65535, Of 171 (Pm 12) 168 false 32767, Of 172 (.nilc (.t 171)) 168 false 163839, Of 173 (Pf 13 172) 168 false 425983, Of 174 (Ps 2 173) 168 false 950271, Qi 175 15 [170, 174] 168 false 2097151, Of 176 (.un .not (.t 175)) 168 false 4194303, Od 177 (Pt 168 176) 8388607, Od 178 (Pm 177) 16777215, Of 179 (Pm 10) 178 false 33554431, Qi 180 17 [179] 178 false 67108863, Of 181 (Pm 12) 178 false 33554431, Of 182 (.nilc (.t 181)) 178 false 167772159, Of 183 (Pf 8 182) 178 false 436207615, Of 184 (Pf 4 183) 178 false 973078527, Of 185 (Pa 184) 178 false 2046820351, Of 186 (Pn 185) 178 false 4194303999, Of 187 (Pb .neq 180 186) 178 false 8589934591, Od 188 (Pt 178 187) 17179869183, Od 189 (Pm 188) 34359738367, Of 190 (Pm 10) 189 false 68719476735, Qi 191 28 [190] 189 false 137438953471, Of 192 (Pm 1) 189 false 68719476735, Of 193 (Pn 192) 189 false 343597383679, Of 194 (Pb .neq 191 193) 189 false 1099511627775, Od 195 (Pt 189 194) 2199023255551, Od 196 (Pm 195) 4398046511103, Of 197 (Ps 6 14) 196 false 8796093022207, Of 198 (Pm 3) 196 false 8796093022207, Of 199 (Pm 13) 196 false 8796093022207, Of 200 (Pi 7 198 199) 196 false 61572651155455, Of 201 (Pf 1 200) 196 false 131941395333119, Of 202 (Ps 6 201) 196 false 272678883688447, Qi 203 29 [197, 202] 196 false 562949953421311, Of 204 (.un .not (.t 203)) 196 false 1125899906842623, Od 205 (Pt 196 204) 2251799813685247]
abbrev qalh : List SOper := [Oa 8 (.mv (.c (.bool false)))]
abbrev qalg : List SOper := [Ma 73 13, Ca 74 .add 73 1, Ma 13 74]
def qapa : SCode := (.seq (Sf qaxh [1, 3, 10, 12, 13, 72] (Ce 72 0)) (.seq (.block 1 (Sf qaxg [1, 3, 10, 12, 13, 14] (Sf qaxf [1, 3, 10, 12, 13, 14, 15, 16] (.seq (Sf qaxe [1, 3, 10, 12, 13, 14, 15, 16, 85] (.block 2 (Sf qaxd [1, 3, 10, 12, 13, 14, 15, 16, 85, 86] (Cn 86 (Rt qaxc [1, 3, 10, 12, 13, 14, 15, 16]) (Sf qaxb [1, 3, 10, 12, 13, 14, 15, 16, 85, 98] (Cn 98 (Rt qaxa [1, 3, 10, 12, 13, 14, 15, 16]) (Sf qaw9 [1, 3, 10, 12, 13, 14, 15, 16, 85, 110] (Cn 110 (Rt qaw8 [1, 3, 10, 12, 13, 14, 15, 16]) (Sf qaw7 [1, 3, 10, 12, 13, 14, 15, 16, 122] (Cn 122 (Rt qaw6 [1, 3, 10, 12, 13, 14, 15, 16]) .skip)))))))))) (Sf qade [1, 3, 10, 12, 13, 14, 15, 16, 17, 18] (Sf qalj [1, 3, 10, 12, 13, 14, 15, 16, 17, 18, 19, 20] (.seq (Rt qali [1, 3, 10, 12, 13, 205]) (Cn 205 (Sf qalh [8] .ret) .skip)))))))) (Rf qalg [1, 3, 10, 12, 13])))
abbrev qalf : List SOper := [Ma 206 10, Qh 207 13 [206] 1, Ma 208 12, Od 209 (.nilc (.t 208)) 4, Od 210 (Pf 8 209) 12, Qh 211 30 [210] 31, Qh 212 16 [207, 211] 63, Od 8 (Pm 212) 127]
def qbkf : SCode := (Sf qa5c [1, 2, 3, 4] (.seq (Sf qa5b [1, 2, 3, 4, 22] (Cn 22 (Sf qa5a [8] .ret) .skip)) (.seq (Sf qa49 [1, 2, 3, 4, 30] (Cn 30 (Sf qa48 [8] .ret) .skip)) (Sf qa47 [1, 2, 3, 4, 9] (Sf qa46 [1, 2, 3, 4, 9, 10, 11] (.seq (Sf qa45 [1, 2, 3, 4, 9, 10, 62] (Cn 62 (Sf qa44 [8] .ret) .skip)) (.seq (Sf qaxl [1, 2, 3, 4, 10, 64] (Cn 64 (Sf qaxk [8] .ret) .skip)) (Sf qaxj [1, 3, 10, 12] (.seq (Sf qaxi [1, 3, 10, 12, 13] (Bl 0 qapa)) (.seq (Rt qalf [8]) .ret))))))))))
end Go.Proofs.YtalejfkholifpaaGreat
