/-
  Texts joined: XTerB XShMt XTerC XTerD XTerE XTerF XTerG XTerH XTerI XTerJ XTerO XTerK XTerL XTerM XTrow XTerP XTerN XBv XTerR XTerS XPfxP XPfxT XBitsQ XPfxW XPfxX XPfxY XClone XPfxZ XPfxA. No condition.
-/
import Derived.WalkSpells
import Derived.RegionTactic
import Derived.BigRegion
import Derived.Deep.RegionLaw
import Derived.Test.YtalejfkholifpaaGreatProg
import Derived.BigQuiet
import Derived.Deep.QuietTactic
import Derived.Deep.RegionHeld3
import Derived.Deep.DrawnRows
import Derived.Outline
import Derived.Test.YtalejfkholifpaaGreatStoreStillK4
namespace Go.Proofs.YtalejfkholifpaaGreat
set_option linter.all false
open Go.RowKit
attribute [local simp] qaas qaar qaad qaag qaae qaaf qaap qaaq qaab qaa5 SOp.run SX.ev putd puts argS upds SOp.touch SSt.keep SSt.skip gets geth puth delh idOf SV.cells? setL qab4 qab5 sbin eq0 eq1 eqL qab0 qabj qabk qaa4 qaat qaac qaau qaa6 qaaj qaam FrzOk qaa9 qaa0 qaa7 qaa8 qaav qaaz qabf qaa1 qaax qaba qaaw frzS frzH frz frz1 frz0 SlotsM ObjsM ObjM rn ren ren1 ren0 qabq qabs qabt qabp qabg qab2 qab1 CoL qabb qabx dels adds idsH qabr
def qa8p (k m : Int) (l : List Entry) : List SV := [.int .i64 k, .int .i64 m, .view 6 (l.map qaay)]
def qa8q : List Int → List Int → Bool
 | a :: xa, m :: xm => if bits .andNot .u64 a m ≠ 0 then false else qa8q xa xm
 | _, _ => true
def qag7 (k : Int) (e : Entry) : Bool := if (e.keys.length : Int) ≠ k ∨ (e.masks.length : Int) ≠ k then false else qa8q e.keys e.masks && (decide (0 ≤ e.prio) && decide (e.prio ≤ 1000))
theorem qaug (xa xm : List Int) (i : Nat) (h : i < xa.length) (g : i < xm.length) : qa8q (xa.drop i) (xm.drop i) = if bits .andNot .u64 xa[i] xm[i] ≠ 0 then false else qa8q (xa.drop (i + 1)) (xm.drop (i + 1)) := by
 rw [List.drop_eq_getElem_cons h, List.drop_eq_getElem_cons g, qa8q]
theorem tfits_s (k m : Int) (l : List Entry) (e : Entry) (he : qade e) (q : Nat) : SCalls Tryz.prog 144 [.cp (qa8p k m l), .agg (qaay e)] [] q (.bool (qag7 k e)) [] := by
 refine qabm ?_ (fun _ => rfl) (fun _ => rfl) rfl q
 refine qaai (N := 50) Tryz.func144 rfl rfl (by kernel_rfl) qan3 (by simp) (by repeat' (first | exact trivial | refine And.intro ?_ ?_ | rfl | decide | exact PureR.ren _)) (by repeat' (first | exact trivial | refine And.intro ?_ ?_ | rfl | decide | exact PureR.ren _)) ?_
 rintro X hP hN hm
 obtain ⟨h4, -, -⟩ := he
 obtain ⟨xa, xm, ln, pr, ac, ar⟩ := e
 dsimp only at h4
 obtain ⟨F, hF⟩ : ∃ F, F = qag7 k ⟨xa, xm, ln, pr, ac, ar⟩ := ⟨_, rfl⟩
 rw [← hF]
 unfold qag7 at hF
 replace hF := Lib.hid hF
 unfold c_tfits qaay nums qa8p
 repeat' (first | refine yA ?_ | with_reducible refine yB ?_ ?_ | ((with_reducible refine yC fun h => ?_); have h' := h; (try simp at h'); (try subst h')) | ((refine qace hm ?_ (fun σ => rfl))) | exact trivial)
 ·dsimp only at hF; rw [hF.out, if_pos (by omega)]
 ·dsimp only at hF; rw [hF.out, if_pos (by omega)]
 have hml : xm.length = xa.length := by omega
 have hF2 : F = (qa8q xa xm && (decide (0 ≤ pr) && decide (pr ≤ 1000))) := by have := hF.out; dsimp only at this; rw [if_neg (by omega)] at this; exact this
 clear hF
 replace hml := Lib.hid hml
 refine qabl (qacv (fun s (i : Nat) => s.turn [(28, .int .i64 i)] []) (fun i => i ≤ xa.length ∧ F = (qa8q (xa.drop i) (xm.drop i) && (decide (0 ≤ pr) && decide (pr ≤ 1000)))) (fun i => xa.length - i) 0 ?_ ⟨by simp, hF2⟩ ?_)
 ·repeat' (first | exact yD | refine yE ?_ | with_reducible refine yB ?_ ?_ | exact trivial)
 rintro J hJ i ⟨h5, h6⟩
 unfold qalo
 simp only [zT, puth, Nat.reduceEqDiff, reduceIte, Nat.reduceAdd] at h5 h6 ⊢
 clear hF2
 replace h6 := Lib.hid h6
 rcases Nat.lt_or_ge i xa.length with hi | hi
 ·have i2 : i < xm.length := by rw [hml.out]; exact hi
  have h7 := h6.out
  rw [qaug xa xm i hi i2] at h7
  have wi : IntKind.i64.wrap ((i : Int) + 1) = (i : Int) + 1 := qacb (by omega) (by omega)
  generalize hx : bits .andNot .u64 xa[i] xm[i] = x at h7
  replace h7 := Lib.hid h7
  repeat' (first | ((with_reducible first | refine qaao ?_ | refine qaal (by rw [hP]; exact mixed) ?_); (try rw [hP]); simp -implicitDefEqProofs [wi, List.getElem?_eq_getElem hi, List.getElem?_eq_getElem i2, hx, *]) | ((with_reducible first | refine qaah ?_ | refine qaak ?_); (try simp -implicitDefEqProofs [wi, List.getElem?_eq_getElem hi, List.getElem?_eq_getElem i2, hx, *])) | ((with_reducible refine qaaa (fun h => ?_) (fun h => ?_)) <;> have h' := h <;> (try simp at h') <;> (try subst h') <;> simp -implicitDefEqProofs [wi, List.getElem?_eq_getElem hi, List.getElem?_eq_getElem i2, hx, *]) | ((with_reducible refine qaan ?_ ?_); (first | omega | (unfold maxLen; omega)); simp -implicitDefEqProofs [wi, List.getElem?_eq_getElem hi, List.getElem?_eq_getElem i2, hx, *]) | refine yA ?_ | with_reducible refine yB ?_ ?_ | ((with_reducible refine yC fun h => ?_); have h' := h; (try simp at h'); (try subst h')) | exact yD | refine yE ?_ | ((refine qace hm ?_ (fun σ => rfl))) | ((refine qabn hJ (i + 1) ?_ ?_ ?_; (with_reducible refine qabe [] hm ?_ ?_ ?_ ?_) <;> (try simp only [zT, puth, Nat.reduceEqDiff, reduceIte, Nat.reduceAdd]))) | exact trivial)
  all_goals first | (exfalso; omega) | (rw [h7.out, if_pos ‹_›]; rfl) | (refine ⟨by omega, ?_⟩; rw [h7.out, if_neg (by omega)]) | omega | trace_state
 ·have h7 : F = (decide (0 ≤ pr) && decide (pr ≤ 1000)) := by rw [h6.out, List.drop_eq_nil_of_le hi]; simp [qa8q]
  replace h7 := Lib.hid h7
  repeat' (first | ((with_reducible first | refine qaao ?_ | refine qaal (by rw [hP]; exact mixed) ?_); (try rw [hP]); simp -implicitDefEqProofs [Nat.not_lt.2 hi, *]) | ((with_reducible first | refine qaah ?_ | refine qaak ?_); (try simp -implicitDefEqProofs [Nat.not_lt.2 hi, *])) | ((with_reducible refine qaaa (fun h => ?_) (fun h => ?_)) <;> have h' := h <;> (try simp at h') <;> (try subst h') <;> simp -implicitDefEqProofs [Nat.not_lt.2 hi, *]) | ((with_reducible refine qaan ?_ ?_); (first | omega | (unfold maxLen; omega)); simp -implicitDefEqProofs [Nat.not_lt.2 hi, *]) | refine yA ?_ | with_reducible refine yB ?_ ?_ | ((with_reducible refine yC fun h => ?_); have h' := h; (try simp at h'); (try subst h')) | ((refine qace hm ?_ (fun σ => rfl))) | exact trivial)
  all_goals first | (have h0 : 0 ≤ pr := by omega
                     rw [h7.out, decide_eq_true h0]; rfl) | (have h0 : ¬ 0 ≤ pr := by omega
                                                             rw [h7.out, decide_eq_false h0]; rfl)
def AskC (g : FuncId) (b : Entry) (l : List Entry) (p : Entry → Bool) : Prop := ∀ x ∈ l, ∀ q, SCalls Tryz.prog g [.agg (qaay x), .cp (qaay b)] [] q (.bool (p x)) []
theorem at1_s (a b : Entry) (ha : qade a) (hb : qade b) (q : Nat) : SCalls Tryz.prog 155 [.agg (qaay a), .cp (qaay b)] [] q (.bool (ordE a b == 0)) [] := by
 refine qabm ?_ (fun _ => rfl) (fun _ => rfl) rfl q
 refine qaai (N := 7) Tryz.func155 rfl rfl (by kernel_rfl) qaxi (by simp) (by repeat' (first | exact trivial | refine And.intro ?_ ?_ | rfl | decide | exact PureR.ren _)) (by repeat' (first | exact trivial | refine And.intro ?_ ?_ | rfl | decide | exact PureR.ren _)) ?_
 rintro X hP hN hm
 have k1 := fun q => same_s a b ha hb q
 unfold qaay at k1
 unfold c_at1 qaay
 repeat' (first | refine yA ?_ | with_reducible refine yB ?_ ?_ | ((with_reducible refine yC fun h => ?_); have h' := h; (try simp at h'); (try subst h')) | refine qabo (k1 _) ?_ | ((refine qace hm ?_ (fun σ => rfl))) | exact trivial)
 all_goals rfl
theorem ad1_s (a b : Entry) (ha : qade a) (hb : qade b) (h1 : b.keys.length = a.keys.length) (h2 : a.masks.length = a.keys.length) (h3 : b.masks.length = a.keys.length) (q : Nat) : SCalls Tryz.prog 147 [.agg (qaay a), .cp (qaay b)] [] q (.bool (a.prio == b.prio && qav2 a b)) [] := by
 refine qabm ?_ (fun _ => rfl) (fun _ => rfl) rfl q
 refine qaai (N := 14) Tryz.func147 rfl rfl (by kernel_rfl) qaxj (by simp) (by repeat' (first | exact trivial | refine And.intro ?_ ?_ | rfl | decide | exact PureR.ren _)) (by repeat' (first | exact trivial | refine And.intro ?_ ?_ | rfl | decide | exact PureR.ren _)) ?_
 rintro X hP hN hm
 have k1 := fun q => meets_s a b ha hb h1 h2 h3 q
 clear h1 h2 h3
 generalize qav2 a b = y at k1
 unfold qaay at k1
 unfold c_ad1 qaay
 cases hx : (a.prio == b.prio)
 all_goals
  repeat' (first | ((with_reducible first | refine qaao ?_ | refine qaal (by rw [hP]; exact mixed) ?_); (try rw [hP]); simp -implicitDefEqProofs [hx, *]) | ((with_reducible first | refine qaah ?_ | refine qaak ?_); (try simp -implicitDefEqProofs [hx, *])) | ((with_reducible refine qaaa (fun h => ?_) (fun h => ?_)) <;> have h' := h <;> (try simp at h') <;> (try subst h') <;> simp -implicitDefEqProofs [hx, *]) | ((with_reducible refine qaan ?_ ?_); (first | omega | (unfold maxLen; omega)); simp -implicitDefEqProofs [hx, *]) | refine yA ?_ | with_reducible refine yB ?_ ?_ | ((with_reducible refine yC fun h => ?_); have h' := h; (try simp at h'); (try subst h')) | (refine qabo (k1 _) ?_; simp -implicitDefEqProofs [hx, *]) | ((refine qace hm ?_ (fun σ => rfl))) | exact trivial)
  all_goals rfl
theorem qac0 (e : Entry) : (qaay e).length = 6 := rfl
theorem qab6 (e : Entry) : (qaay e).take 6 = qaay e := rfl
theorem idxf_s (g : FuncId) (b : Entry) (l : List Entry) (p : Entry → Bool) (hl : l.length ≤ 1000000) (hg : AskC g b l p) (q : Nat) : SCalls Tryz.prog 154 [.view 6 (l.map qaay), .fn (.func g) [] [.cp (qaay b)]] [] q (.int .i64 (match l.findIdx? p with | some i => (i : Int) | none => -1)) [] := by
 refine qabm ?_ (fun _ => rfl) (fun _ => rfl) rfl q
 refine qaai (N := 19) Tryz.func154 rfl rfl (by kernel_rfl) qars (by simp) (by repeat' (first | exact trivial | refine And.intro ?_ ?_ | rfl | decide | exact PureR.ren _)) (by repeat' (first | exact trivial | refine And.intro ?_ ?_ | rfl | decide | exact PureR.ren _)) ?_
 rintro X hP hN hm
 obtain ⟨F, hF⟩ : ∃ F, F = (match l.findIdx? p with | some i => (i : Int) | none => -1) := ⟨_, rfl⟩
 rw [← hF]
 replace hF := Lib.hid hF
 unfold c_idxf
 repeat' (first | refine yA ?_ | with_reducible refine yB ?_ ?_ | ((with_reducible refine yC fun h => ?_); have h' := h; (try simp at h'); (try subst h')) | exact trivial)
 refine qabl (qacv (fun s (i : Nat) => s.turn [(8, .int .i64 i)] []) (fun i => i ≤ l.length ∧ F = (match (l.drop i).findIdx? p with | some j => (i : Int) + j | none => -1)) (fun i => l.length - i) 0 ?_ ⟨by simp, by rw [hF.out]; simp⟩ ?_)
 ·repeat' (first | exact yD | refine yE ?_ | with_reducible refine yB ?_ ?_ | exact trivial)
 rintro J hJ i ⟨h5, h6⟩
 unfold qaqa
 simp only [zT, puth, Nat.reduceEqDiff, reduceIte, Nat.reduceAdd] at h5 h6 ⊢
 replace h6 := Lib.hid h6
 rcases Nat.lt_or_ge i l.length with hi | hi
 ·have h7 := h6.out
  rw [List.drop_eq_getElem_cons hi, List.findIdx?_cons] at h7
  have hc := hg l[i] (List.getElem_mem hi)
  have wi : IntKind.i64.wrap ((i : Int) + 1) = (i : Int) + 1 := qacb (by omega) (by omega)
  generalize hx : p l[i] = x at h7 hc
  replace h7 := Lib.hid h7
  replace hg := Lib.hid hg
  repeat' (first | ((with_reducible first | refine qaao ?_ | refine qaal (by rw [hP]; exact mixed) ?_); (try rw [hP]); simp -implicitDefEqProofs [wi, List.getElem?_eq_getElem hi, qac0, qab6, *]) | ((with_reducible first | refine qaah ?_ | refine qaak ?_); (try simp -implicitDefEqProofs [wi, List.getElem?_eq_getElem hi, qac0, qab6, *])) | ((with_reducible refine qaaa (fun h => ?_) (fun h => ?_)) <;> have h' := h <;> (try simp at h') <;> (try subst h') <;> simp -implicitDefEqProofs [wi, List.getElem?_eq_getElem hi, qac0, qab6, *]) | ((with_reducible refine qaan ?_ ?_); (first | omega | (unfold maxLen; omega)); simp -implicitDefEqProofs [wi, List.getElem?_eq_getElem hi, qac0, qab6, *]) | refine yA ?_ | with_reducible refine yB ?_ ?_ | ((with_reducible refine yC fun h => ?_); have h' := h; (try simp at h'); (try subst h')) | (refine qaeq (hc _) trivial trivial [] (by simp) ?_; simp -implicitDefEqProofs [wi, List.getElem?_eq_getElem hi, qac0, qab6, *]) | exact yD | refine yE ?_ | ((refine qace hm ?_ (fun σ => rfl))) | ((refine qabn hJ (i + 1) ?_ ?_ ?_; (with_reducible refine qabe [] hm ?_ ?_ ?_ ?_) <;> (try simp only [zT, puth, Nat.reduceEqDiff, reduceIte, Nat.reduceAdd]))) | exact trivial)
  ·rw [h7.out, if_pos rfl]; simp
  ·refine ⟨by omega, ?_⟩
   rw [h7.out, if_neg (by decide)]
   cases List.findIdx? p (l.drop (i + 1)) with
   | none => rfl
   | some j =>
    show (i : Int) + ((j + 1 : Nat) : Int) = ((i + 1 : Nat) : Int) + j
    push_cast; omega
 ·repeat' (first | ((with_reducible first | refine qaao ?_ | refine qaal (by rw [hP]; exact mixed) ?_); (try rw [hP]); simp -implicitDefEqProofs [Nat.not_lt.2 hi, *]) | ((with_reducible first | refine qaah ?_ | refine qaak ?_); (try simp -implicitDefEqProofs [Nat.not_lt.2 hi, *])) | ((with_reducible refine qaaa (fun h => ?_) (fun h => ?_)) <;> have h' := h <;> (try simp at h') <;> (try subst h') <;> simp -implicitDefEqProofs [Nat.not_lt.2 hi, *]) | ((with_reducible refine qaan ?_ ?_); (first | omega | (unfold maxLen; omega)); simp -implicitDefEqProofs [Nat.not_lt.2 hi, *]) | refine yA ?_ | with_reducible refine yB ?_ ?_ | ((with_reducible refine yC fun h => ?_); have h' := h; (try simp at h'); (try subst h')) | ((refine qace hm ?_ (fun σ => rfl))) | exact trivial)
  all_goals (rw [h6.out, List.drop_eq_nil_of_le hi]; rfl)
theorem qa9h {h1 : Hp} {f : Fn} {cs ds : List SV} (h : qa9z h1 cs ds) : Lent h1 (.fn f [] cs) (.fn f [] ds) := fun O ρ fp w v hok hx => by
 cases hx with
 | fn a b c d =>
  exact .fn a (by rw [← qafu h]; exact b) (fun j x v hx => by cases hx) fun j y v hy hv => by
   obtain ⟨x, hx, hl⟩ := qahd h hy
   exact hl O ρ fp w v hok (d j x v hx hv)
theorem qavf (e : Entry) : qamv (qaay e) := by
 intro x hx
 simp only [qaay, List.mem_cons, List.not_mem_nil, or_false] at hx
 rcases hx with rfl | rfl | rfl | rfl | rfl | rfl <;> first | exact qaes _ _ | exact qaf5 _ _
def idxV (l : List Entry) (p : Entry → Bool) : Int := match l.findIdx? p with | some i => (i : Int) | none => -1
theorem qbbf (g : FuncId) (b : Entry) (l : List Entry) (p : Entry → Bool) (hl : l.length ≤ 1000000) (hg : AskC g b l p) (id q : Nat) : SCalls Tryz.prog 154 [.view 6 (l.map qaay), .fn (.func g) [] [.ptr id 0]] [(id, .cells 38 (qaay b))] q (.int .i64 (idxV l p)) [(id, .cells 38 (qaay b))] :=
 qac3 (idxf_s g b l p hl hg q) ⟨qadh _, qa9h ⟨qajr (t := 38) (cs := qaay b) (by simp [geth]) (qahy _) (qavf b), trivial⟩, trivial⟩ (qaev _ _)
theorem conf_s (g : FuncId) (b : Entry) (l : List Entry) (p : Entry → Bool) (hl : l.length ≤ 1000000) (hg : AskC g b l p) (q : Nat) : SCalls Tryz.prog 146 [.view 6 (l.map qaay), .fn (.func g) [] [.cp (qaay b)]] [] q (.bool (decide (0 ≤ idxV l p))) [] := by
 refine qabm ?_ (fun _ => rfl) (fun _ => rfl) rfl q
 refine qaai (N := 9) Tryz.func146 rfl rfl (by kernel_rfl) qaru (by simp) (by repeat' (first | exact trivial | refine And.intro ?_ ?_ | rfl | decide | exact PureR.ren _)) (by repeat' (first | exact trivial | refine And.intro ?_ ?_ | rfl | decide | exact PureR.ren _)) ?_
 rintro X hP hN hm
 have k1 := fun q => idxf_s g b l p hl hg q
 clear hg
 change ∀ q, SCalls Tryz.prog _ _ [] q (.int .i64 (idxV l p)) [] at k1
 generalize idxV l p = y at k1
 unfold c_conf
 repeat' (first | refine yA ?_ | with_reducible refine yB ?_ ?_ | ((with_reducible refine yC fun h => ?_); have h' := h; (try simp at h'); (try subst h')) | refine qabo (k1 _) ?_ | ((refine qace hm ?_ (fun σ => rfl))) | exact trivial)
 all_goals rfl
def tatV (l : List Entry) (e : Entry) : Int := idxV l fun x => ordE x e == 0
theorem tat_s (k m : Int) (l : List Entry) (e : Entry) (hl : l.length ≤ 1000000) (hs : ∀ x ∈ l, qade x) (he : qade e) (q : Nat) : SCalls Tryz.prog 145 [.cp (qa8p k m l), .agg (qaay e)] [] q (.int .i64 (tatV l e)) [] := by
 refine qabm ?_ (fun _ => rfl) (fun _ => rfl) rfl q
 refine qaai (N := 11) Tryz.func145 rfl rfl (by kernel_rfl) qaw1 (by simp) (by repeat' (first | exact trivial | refine And.intro ?_ ?_ | rfl | decide | exact PureR.ren _)) (by repeat' (first | exact trivial | refine And.intro ?_ ?_ | rfl | decide | exact PureR.ren _)) ?_
 rintro X hP hN hm
 have k1 := fun id q => qbbf _ e l (fun x => ordE x e == 0) hl (fun x hx q => at1_s x e (hs x hx) he q) id q
 change ∀ id q, SCalls Tryz.prog _ _ _ q (.int .i64 (tatV l e)) _ at k1
 generalize tatV l e = y at k1
 unfold qaay at k1
 unfold c_tat qaay qa8p
 repeat' (first | refine yA ?_ | with_reducible refine yB ?_ ?_ | ((with_reducible refine yC fun h => ?_); have h' := h; (try simp at h'); (try subst h')) | refine qabv (k1 _ _) ⟨rfl, trivial⟩ ⟨rfl, trivial⟩ ?_ | ((refine qace hm ?_ (fun σ => rfl))) | exact trivial)
 all_goals rfl
end Go.Proofs.YtalejfkholifpaaGreat
namespace Go.Proofs.YtalejfkholifpaaGreat
set_option linter.all false
open Go.RowKit
def qab8 (P : Program) (t : TypeId) (nm : String) : Option (Option (FuncId × Bool)) := match P.info? t with
 | some i => match i.methods.find? (·.name == nm) with
  | some m => if m.path.isEmpty then some m.func else none
  | none => none
 | none => none
def qaua (P : Program) (t : TypeId) : Option (Option TypeId) := match P.underlying t with
 | some (.pointer e) => some (some e)
 | some (.interface _) => none
 | some _ => some none
 | none => none
variable {P : Program} {g : Nat → Option SObj} {t : TypeId} {x : SV} {nm : String} {f : FuncId}
theorem qajo {b : Bool} (h : qab8 P t nm = some (some (f, b))) : ∃ i m, P.info? t = some i ∧ i.methods.find? (·.name == nm) = some m ∧ m.path = #[] ∧ m.func = some (f, b) := by
 unfold qab8 at h
 split at h
 ·rename_i i hi
  split at h
  ·rename_i m hm
   split at h
   ·rename_i hp
    exact ⟨i, m, hi, hm, by simpa using hp, by simpa using h⟩
   ·cases h
  ·cases h
 ·cases h
theorem qagp {e : TypeId} (h : qab8 P t nm = some (some (f, true))) (hp : qaua P t = some (some e)) : Meth P g t x nm f x := fun w A ρ v hobj hx => by
 obtain ⟨i, m, h1, h2, h3, h4⟩ := qajo h
 refine ⟨v, ?_, hx⟩
 have hu : P.underlying t = some (.pointer e) := by
  unfold qaua at hp
  split at hp <;> simp_all
 have hn : P.types.size + Made.depth = (P.types.size + 99) + 1 := rfl
 rw [hn]
 unfold method
 simp [typeInfo, h1, h2, h3, h4, follow, receiverAt, run_underlying hu, Place.get]
theorem qac6 (h : qab8 P t nm = some (some (f, false))) (hp : qaua P t = some none) : Meth P g t x nm f x := fun w A ρ v hobj hx => by
 obtain ⟨i, m, h1, h2, h3, h4⟩ := qajo h
 refine ⟨v, ?_, hx⟩
 obtain ⟨d, hu, hd⟩ : ∃ d, P.underlying t = some d ∧ ∀ e, d ≠ .pointer e := by
  unfold qaua at hp
  split at hp
  ·cases hp
  ·cases hp
  ·exact ⟨_, ‹P.underlying t = some _›, fun e he => by subst he; simp_all⟩
  ·cases hp
 have hn : P.types.size + Made.depth = (P.types.size + 99) + 1 := rfl
 rw [hn]
 unfold method
 cases d <;> first | exact absurd rfl (hd _) | simp [typeInfo, h1, h2, h3, h4, follow, receiverAt, run_underlying hu, Place.get]
theorem wrap_ok (ts : Array TypeId) (ty : TypeId) (a : Addr) (s m : ByteArray) : Builtin.ssaWrapNilChk_ ts ty #[.pointer (some a), .string s, .string m] = pure (.pointer (some a)) := rfl
theorem qa23 {e u : TypeId} {id off : Nat} {cs : List SV} {c : SV} (h : qab8 P t nm = some (some (f, false))) (hp : qaua P t = some (some e)) (hb : qahj P e = some false) (hg : g id = some (.cells u cs)) (hc : cs[off]? = some c) : Meth P g t (.ptr id off) nm f c := fun w A ρ v hobj hx => by
 obtain ⟨i, m, h1, h2, h3, h4⟩ := qajo h
 have hu : P.underlying t = some (.pointer e) := by
  unfold qaua at hp
  split at hp <;> simp_all
 obtain ⟨fp, b, c0, vs, hρ, hbl, ⟨hr, hone⟩, _⟩ := hobj _ _ hg
 cases hx with
 | ptr hρ2 =>
  rw [hρ2] at hρ; cases hρ
  obtain ⟨v', h5, h6⟩ := hr.get hc
  refine ⟨v', ?_, h6⟩
  have hcell : w.cell? ⟨b, off, none⟩ = some v' := by rw [hbl.cell]; simpa using h5
  have hn : P.types.size + Made.depth = (P.types.size + 99) + 1 := rfl
  rw [hn]
  unfold method
  simp [typeInfo, h1, h2, h3, h4, follow, receiverAt, run_underlying hu, Place.get, strVal, wrap_ok, asAddr, loadVar, qafo hb w, load, Sem.run, hcell]
end Go.Proofs.YtalejfkholifpaaGreat
namespace Go.Proofs.YtalejfkholifpaaGreat
set_option linter.all false
open Go.RowKit
attribute [local simp] qaas qaar qaad qaag qaae qaaf qaap qaaq qaab qaa5 SOp.run SX.ev putd puts argS upds SOp.touch SSt.keep SSt.skip gets geth puth delh idOf SV.cells? setL qab4 qab5 sbin eq0 eq1 eqL qab0 qabj qabk qaa4 qaat qaac qaau qaa6 qaaj qaam FrzOk qaa9 qaa0 qaa7 qaa8 qaav qaaz qabf qaa1 qaax qaba qaaw frzS frzH frz frz1 frz0 SlotsM ObjsM ObjM rn ren ren1 ren0 qabq qabs qabt qabp qabg qab2 qab1 CoL qabb qabx dels adds idsH qabr
theorem qapq {z : Nat} : ∀ (es : List (List SV)) (k : Nat), (∀ x ∈ es, x.length = z) → (es.take k).flatten = es.flatten.take (k * z)
 | [], k, _ => by simp
 | x :: es, 0, _ => by simp
 | x :: es, k + 1, h => by
  have hx := h x (by simp)
  have e1 : x.take ((k + 1) * z) = x := List.take_of_length_le (by rw [hx, Nat.succ_mul]; omega)
  have e2 : (k + 1) * z - z = k * z := by rw [Nat.succ_mul]; omega
  rw [List.take_succ_cons, List.flatten_cons, List.flatten_cons, qapq es k fun y hy => h y (by simp [hy]), List.take_append, hx, e1, e2]
theorem qa14 {X : Cx} {s : SSt} (id k : Nat) {e z : Nat} {es : List (List SV)} (h : geth s.hp id = some (.row e z es)) (hk : k ≤ es.length) : Wk X s ⟨s.sl, puth s.hp id (.row e z (es.take k)), s.nx⟩ := by
 intro ρ fp a w hs
 have hg : ∀ i o, geth (puth s.hp id (.row e z (es.take k))) i = some o → ∃ o', geth s.hp i = some o' := fun i o ho => by
  rw [qacl] at ho
  split at ho
  ·rename_i e1; subst e1; exact ⟨_, h⟩
  ·exact ⟨_, ho⟩
 have hav : ∀ j, Av X (puth s.hp id (.row e z (es.take k))) fp j → Av X s.hp fp j := fun j hj => hj.imp (fun h => h) fun ⟨i, o, h1, h2⟩ => by
  obtain ⟨o', h3⟩ := hg i o h1
  exact ⟨i, o', h3, h2⟩
 refine ⟨ρ, fp, ⟨⟨fun i o ho => ?_, fun i i' o o' hne ho ho' => ?_, fun i o ho => ?_, hs.sim.h.step, hs.sim.h.keep⟩, hs.sim.tmps, hs.sim.defers, fun u => (hs.sim.slots u).weaken fun j hj _ => hav j hj⟩, hs.fresh, hs.le⟩
 ·rw [qacl] at ho
  split at ho
  ·rename_i e1; subst e1; cases ho
   obtain ⟨v, vs, h1, ⟨h2, h3⟩, h4, h5, h6⟩ := hs.sim.h.objs _ _ h
   have hf := qapq es k h4
   have hr : Reps w (Av X s.hp fp) ρ (es.take k).flatten (vs.take (k * z)) := by
    rw [hf]
    refine ⟨by rw [List.length_take, List.length_take, h2.1], fun j x u hx hu => ?_⟩
    rw [List.getElem?_take] at hx hu
    split at hx
    ·rename_i hj
     rw [if_pos hj] at hu
     exact h2.2 j x u hx hu
    ·cases hx
   have ho : Ones (vs.take (k * z)) := fun u hu => h3 u (List.mem_of_mem_take hu)
   have hl : (es.take k).length = k := by rw [List.length_take]; omega
   obtain ⟨q1, q2⟩ := h1
   have hlv : (vs.take (k * z)).length = k * z := by rw [List.length_take, q1]; exact Nat.min_eq_left (Nat.mul_le_mul_right _ hk)
   rcases q2 with ⟨rfl, hn⟩ | ⟨g, cap, cur, fz, rfl, g2, g3, g4, g5, g6, g7⟩
   ·exact ⟨_, vs.take (k * z), by rw [hl]; exact ⟨hlv, .inl ⟨rfl, by omega⟩⟩, ⟨hr.mono (.refl _ _) (fun j hj _ => hav j hj) fun _ _ h => h, ho⟩, fun x hx => h4 x (List.mem_of_mem_take hx), h5, h6⟩
   ·have hc : cur.toList.take (k * z) = vs.take (k * z) := by rw [← g7, List.take_take, Nat.min_eq_left (Nat.mul_le_mul_right _ hk)]
    have how : RowP w e z (.slice (some ⟨g, 0, none⟩) k cap) (es.take k).length (vs.take (k * z)) := by
     rw [hl]; exact ⟨hlv, .inr ⟨g, cap, cur, fz, rfl, g2, g3, by omega, g5, g6, hc⟩⟩
    exact ⟨_, vs.take (k * z), how, ⟨hr.mono (.refl _ _) (fun j hj _ => hav j hj) fun _ _ h => h, ho⟩, fun x hx => h4 x (List.mem_of_mem_take hx), h5, h6⟩
  ·exact (hs.sim.h.objs i o ho).weaken fun j hj _ => hav j hj
 ·obtain ⟨p, h1⟩ := hg i o ho
  obtain ⟨p', h2⟩ := hg i' o' ho'
  exact hs.sim.h.disj i i' p p' hne h1 h2
 ·obtain ⟨p, h1⟩ := hg i o ho
  exact hs.sim.h.turn i p h1
instance : PureF qaay := ⟨fun _ _ => rfl, fun _ => rfl, qavf⟩
abbrev qaec := Option (Int × Int)
def hcs : qaec → Nat → List SV
 | none, n => [.own 1 n]
 | some (k, m), n => [.int .i64 k, .int .i64 m, .own 1 n]
def hoff : qaec → Nat
 | none => 0
 | some _ => 2
def hty : qaec → TypeId
 | none => 106
 | some _ => 108
def hobj (c : qaec) (l : List Entry) : Hp := [(0, .cells (hty c) (hcs c l.length)), (1, .row 38 6 (l.map qaay))]
theorem qakx (c : qaec) (n : Nat) {σ : Nat → Nat} (h : σ 1 = 1) : (hcs c n).map (Go.Proofs.YtalejfkholifpaaGreat.ren σ) = hcs c n := by
 rcases c with _ | ⟨k, m⟩ <;> simp [hcs, Go.Proofs.YtalejfkholifpaaGreat.ren, ren1, ren0, h]
theorem qadd (c : qaec) (n : Nat) {σ : Nat → Nat} (h : σ 1 = 1) : CoL (hcs c n) ((hcs c n).map (Go.Proofs.YtalejfkholifpaaGreat.ren σ)) := by rw [qakx c n h]; exact CoL.refl _
theorem hcs_get (c : qaec) (n : Nat) : (hcs c n)[hoff c]? = some (.own 1 n) := by rcases c with _ | ⟨k, m⟩ <;> rfl
theorem hcs_ok (c : qaec) (n : Nat) : (hcs c n).all ok2 = true := by rcases c with _ | ⟨k, m⟩ <;> rfl
theorem qapm (c : qaec) (l : List Entry) : LtH 2 (hobj c l) := ⟨by decide, qakx c _ rfl, by decide, qabz _ _ _, trivial⟩
theorem h_up {f : FuncId} {args : List SV} {r : SV} {c : qaec} {l l' : List Entry} (h : SCalls Tryz.prog f args (hobj c l) 2 r (hobj c l')) (q : Nat) (hq : 2 ≤ q) (ha : args = args.map (Go.Proofs.YtalejfkholifpaaGreat.ren (sg [0, 1] q))) (hr : r = Go.Proofs.YtalejfkholifpaaGreat.ren (sg [0, 1] q) r) (hk : ok2 r = true) : SCalls Tryz.prog f args (hobj c l) q r (hobj c l') :=
 qac9 [0, 1] h rfl (by decide) (by intro i hi; simp at hi; omega) ha ⟨⟨_, rfl, rfl, qadd c _ rfl⟩, ⟨_, rfl, rfl, rfl, by rw [qabz]; exact CoLL.refl _⟩, trivial⟩ (by simp [idsH, hobj]) hr hk ⟨⟨_, rfl, rfl, hcs_ok c _, (qakx c _ rfl).symm⟩, ⟨_, rfl, rfl, rfl, qain _ _, (qabz _ _ _).symm⟩, trivial⟩ (by simp [idsH, hobj]) (by simp [idsH, hobj]; exact ⟨rfl, rfl⟩)
theorem qbbl {X : Cx} {s : SSt} {c : qaec} {l : List Entry} {t : Nat} {r : SV} (hr : (∃ b, r = .bool b) ∨ (∃ n, r = .int .i64 n) ∨ ∃ e, r = .ifc 38 (.agg (qaay e))) (hw : Wk X s ⟨[(t, r)], hobj c l, 2⟩) : QFun X [.tmp t] 2 r (hobj c l) .ret s :=
 ⟨_, hw, by rcases hr with ⟨b, rfl⟩ | ⟨n, rfl⟩ | ⟨e, rfl⟩ <;> simp [qaf2, resL, resV, one_, gets], ⟨rfl, rfl, trivial⟩, by simp⟩
theorem fin_ghv {X : Cx} {s : SSt} {c : qaec} {l : List Entry} {x : SExit} (hx : x = .ret ∨ x = .normal) (hw : Wk X s ⟨[], hobj c l, 2⟩) : QFun X [] 2 (.tup []) (hobj c l) x s := by
 rcases hx with rfl | rfl <;> exact ⟨_, hw, rfl, ⟨rfl, rfl, trivial⟩, by simp⟩
theorem qaey (e : Entry) (x : List SV) (h : x.length = 6) : setL x 0 (qaay e) = qaay e := by
 match x, h with
 | [_, _, _, _, _, _], _ => rfl
theorem qapv {l : List Entry} {i j : Nat} {e : Entry} (h : j < ((l.map qaay).set i (qaay e)).length) : (((l.map qaay).set i (qaay e))[j]).length = 6 := by
 rw [List.getElem_set]
 split
 ·rfl
 ·rw [List.getElem_map]; rfl
end Go.Proofs.YtalejfkholifpaaGreat
namespace Go.Proofs.YtalejfkholifpaaGreat
set_option linter.all false
open Go.RowKit
attribute [local simp] qaas qaar qaad qaag qaae qaaf qaap qaaq qaab qaa5 SOp.run SX.ev putd puts argS upds SOp.touch SSt.keep SSt.skip gets geth puth delh idOf SV.cells? setL qab4 qab5 sbin eq0 eq1 eqL qab0 qabj qabk qaa4 qaat qaac qaau qaa6 qaaj qaam FrzOk qaa9 qaa0 qaa7 qaa8 qaav qaaz qabf qaa1 qaax qaba qaaw frzS frzH frz frz1 frz0 SlotsM ObjsM ObjM rn ren ren1 ren0 qabq qabs qabt qabp qabg qab2 qab1 CoL qabb qabx dels adds idsH qabr
theorem rlen_s (c : qaec) (l : List Entry) (q : Nat) (hq : 2 ≤ q) : SCalls Tryz.prog 163 [.own 1 l.length] (hobj c l) q (.int .i64 l.length) (hobj c l) := by
 refine h_up ?_ q hq rfl rfl rfl
 refine qaai (N := 5) Tryz.func163 rfl rfl (by kernel_rfl) qaoe (by simp) (by repeat' (first | exact trivial | refine And.intro ?_ ?_ | rfl | decide | exact PureR.ren _)) (qapm c l) ?_
 rintro X hP hN hm
 unfold c_rwlen hobj
 repeat' (first | refine yA ?_ | with_reducible refine yB ?_ ?_ | ((with_reducible refine yC fun h => ?_); have h' := h; (try simp at h'); (try subst h')) | exact yD | refine yE ?_ | ((refine qbbl (.inr (.inl ⟨_, rfl⟩)) ?_; simp only [hobj])) | (exact qadd _ _ rfl) | exact trivial)
 all_goals trace_state
theorem rless_s (c : qaec) (l : List Entry) (hs : ∀ x ∈ l, qade x) (i j : Nat) (hi : i < l.length) (hj : j < l.length) (q : Nat) (hq : 2 ≤ q) : SCalls Tryz.prog 164 [.own 1 l.length, .int .i64 i, .int .i64 j] (hobj c l) q (.bool (decide (ordE l[i] l[j] < 0))) (hobj c l) := by
 refine h_up ?_ q hq rfl rfl rfl
 refine qaai (N := 17) Tryz.func164 rfl rfl (by kernel_rfl) qalh (by simp) (by repeat' (first | exact trivial | refine And.intro ?_ ?_ | rfl | decide | exact PureR.ren _)) (qapm c l) ?_
 rintro X hP hN hm
 have k1 := fun q => qa83 l[i] l[j] (hs _ (List.getElem_mem hi)) (hs _ (List.getElem_mem hj)) q
 replace hs := Lib.hid hs
 unfold c_rwless hobj
 repeat' (first | ((with_reducible first | refine qaao ?_ | refine qaal (by rw [hP]; exact mixed) ?_); (try rw [hP]); simp -implicitDefEqProofs [List.getElem?_eq_getElem hi, List.getElem?_eq_getElem hj, qac0, qab6, *]) | ((with_reducible first | refine qaah ?_ | refine qaak ?_); (try simp -implicitDefEqProofs [List.getElem?_eq_getElem hi, List.getElem?_eq_getElem hj, qac0, qab6, *])) | ((with_reducible refine qaaa (fun h => ?_) (fun h => ?_)) <;> have h' := h <;> (try simp at h') <;> (try subst h') <;> simp -implicitDefEqProofs [List.getElem?_eq_getElem hi, List.getElem?_eq_getElem hj, qac0, qab6, *]) | ((with_reducible refine qaan ?_ ?_); (first | omega | (unfold maxLen; omega)); simp -implicitDefEqProofs [List.getElem?_eq_getElem hi, List.getElem?_eq_getElem hj, qac0, qab6, *]) | refine yA ?_ | with_reducible refine yB ?_ ?_ | ((with_reducible refine yC fun h => ?_); have h' := h; (try simp at h'); (try subst h')) | (refine qabo (k1 _) ?_; simp -implicitDefEqProofs [List.getElem?_eq_getElem hi, List.getElem?_eq_getElem hj, qac0, qab6, *]) | exact yD | refine yE ?_ | ((refine qbbl (.inl ⟨_, rfl⟩) ?_; simp only [hobj])) | (exact qadd _ _ rfl) | exact trivial)
 all_goals trace_state
theorem rswap_s (c : qaec) (l : List Entry) (i j : Nat) (hi : i < l.length) (hj : j < l.length) (q : Nat) (hq : 2 ≤ q) : SCalls Tryz.prog 165 [.own 1 l.length, .int .i64 i, .int .i64 j] (hobj c l) q (.tup []) (hobj c ((l.set i l[j]).set j l[i])) := by
 refine h_up ?_ q hq rfl rfl rfl
 obtain ⟨R, hR⟩ : ∃ R, R = (l.set i l[j]).set j l[i] := ⟨_, rfl⟩
 rw [← hR]
 have hl : R.length = l.length := by rw [hR]; simp
 have hm2 : R.map qaay = ((l.map qaay).set i (qaay l[j])).set j (qaay l[i]) := by rw [hR]; simp
 replace hl := Lib.hid hl
 replace hm2 := Lib.hid hm2
 replace hR := Lib.hid hR
 refine qaai (N := 20) Tryz.func165 rfl rfl (by kernel_rfl) qalf (by simp) (by repeat' (first | exact trivial | refine And.intro ?_ ?_ | rfl | decide | exact PureR.ren _)) (qapm c l) ?_
 rintro X hP hN hm
 unfold c_rwswap hobj
 repeat' (first | ((with_reducible first | refine qaao ?_ | refine qaal (by rw [hP]; exact mixed) ?_); (try rw [hP]); simp -implicitDefEqProofs [List.getElem?_eq_getElem hi, List.getElem?_eq_getElem hj, qac0, qab6, qaey, qapv, *]) | ((with_reducible first | refine qaah ?_ | refine qaak ?_); (try simp -implicitDefEqProofs [List.getElem?_eq_getElem hi, List.getElem?_eq_getElem hj, qac0, qab6, qaey, qapv, *])) | ((with_reducible refine qaaa (fun h => ?_) (fun h => ?_)) <;> have h' := h <;> (try simp at h') <;> (try subst h') <;> simp -implicitDefEqProofs [List.getElem?_eq_getElem hi, List.getElem?_eq_getElem hj, qac0, qab6, qaey, qapv, *]) | ((with_reducible refine qaan ?_ ?_); (first | omega | (unfold maxLen; omega)); simp -implicitDefEqProofs [List.getElem?_eq_getElem hi, List.getElem?_eq_getElem hj, qac0, qab6, qaey, qapv, *]) | refine yA ?_ | with_reducible refine yB ?_ ?_ | ((with_reducible refine yC fun h => ?_); have h' := h; (try simp at h'); (try subst h')) | exact yD | refine yE ?_ | ((refine fin_ghv (.inr rfl) ?_; simp only [hobj])) | ((rw [hl.out]; exact qadd _ _ rfl)) | exact trivial)
 all_goals exact hm2.out.symm
theorem qava {X : Cx} {rs : List ResultVar} {m : Nat} {r : SV} {h2 : Hp} {s s1 : SSt} (hw : Wk X s s1) (h : QFun X rs m r h2 .ret s1) : QFun X rs m r h2 .ret s := by
 obtain ⟨s', h1, h2, h3, h4⟩ := h
 exact ⟨s', hw.trans h1, h2, h3, h4⟩
instance pureR_snoc {α : Type} (f : α → List SV) [PureF f] (L : List α) (x : α) : PureR (L.map f ++ [f x]) := by
 have e : L.map f ++ [f x] = (L ++ [x]).map f := by simp
 rw [e]
 exact ⟨fun σ => qabz f σ _, qain f _, qaf1 f _⟩
theorem rpop_s (c : qaec) (L : List Entry) (x : Entry) (hl : L.length + 1 ≤ 1000000) (q : Nat) (hq : 2 ≤ q) : SCalls Tryz.prog 167 [.ptr 0 (hoff c)] (hobj c (L ++ [x])) q (.ifc 38 (.agg (qaay x))) (hobj c L) := by
 refine h_up ?_ q hq rfl rfl rfl
 have hlen : (L ++ [x]).length = L.length + 1 := by simp
 have hrow : (L ++ [x]).map qaay = L.map qaay ++ [qaay x] := by simp
 rw [show hobj c (L ++ [x]) = [(0, .cells (hty c) (hcs c (L.length + 1))), (1, .row 38 6 (L.map qaay ++ [qaay x]))] by unfold hobj; rw [hlen, hrow]]
 have wi : IntKind.i64.wrap (L.length : Int) = L.length := by simp [IntKind.wrap, IntKind.bits, IntKind.signed, Int.bmod]; omega
 have hg : (L.map qaay ++ [qaay x])[L.length]? = some (qaay x) := by rw [List.getElem?_append_right (by simp)]; simp
 have htk : (L.map qaay ++ [qaay x]).take L.length = L.map qaay := by rw [List.take_append_of_le_length (by simp)]; exact List.take_of_length_le (by simp)
 rcases c with _ | ⟨k, m⟩
 all_goals
  refine qaai (N := 25) Tryz.func167 rfl rfl (by kernel_rfl) qaod (by simp) (by repeat' (first | exact trivial | refine And.intro ?_ ?_ | rfl | decide | exact PureR.ren _)) (by repeat' (first | exact trivial | refine And.intro ?_ ?_ | rfl | decide | exact PureR.ren _)) ?_
  rintro X hP hN hm
  unfold c_rwpop hcs hty hoff
  repeat' (first | ((with_reducible first | refine qaao ?_ | refine qaal (by rw [hP]; exact mixed) ?_); (try rw [hP]); simp -implicitDefEqProofs [wi, hg, qac0, qab6, qaey, *]) | ((with_reducible first | refine qaah ?_ | refine qaak ?_); (try simp -implicitDefEqProofs [wi, hg, qac0, qab6, qaey, *])) | ((with_reducible refine qaaa (fun h => ?_) (fun h => ?_)) <;> have h' := h <;> (try simp at h') <;> (try subst h') <;> simp -implicitDefEqProofs [wi, hg, qac0, qab6, qaey, *]) | ((with_reducible refine qaan ?_ ?_); (first | omega | (unfold maxLen; omega)); simp -implicitDefEqProofs [wi, hg, qac0, qab6, qaey, *]) | refine yA ?_ | with_reducible refine yB ?_ ?_ | ((with_reducible refine yC fun h => ?_); have h' := h; (try simp at h'); (try subst h')) | exact yD | refine yE ?_ | ((refine qava (qa14 1 L.length rfl ?_) ?_; rotate_left; rw [htk]; refine qbbl (.inr (.inr ⟨_, rfl⟩)) ?_; simp only [hobj, hcs, puth])) | exact trivial)
  all_goals trace_state
end Go.Proofs.YtalejfkholifpaaGreat
namespace Go.Proofs.YtalejfkholifpaaGreat
set_option linter.all false
open Go.RowKit
attribute [local simp] qaas qaar qaad qaag qaae qaaf qaap qaaq qaab qaa5 SOp.run SX.ev putd puts argS upds SOp.touch SSt.keep SSt.skip gets geth puth delh idOf SV.cells? setL qab4 qab5 sbin eq0 eq1 eqL qab0 qabj qabk qaa4 qaat qaac qaau qaa6 qaaj qaam FrzOk qaa9 qaa0 qaa7 qaa8 qaav qaaz qabf qaa1 qaax qaba qaaw frzS frzH frz frz1 frz0 SlotsM ObjsM ObjM rn ren ren1 ren0 qabq qabs qabt qabp qabg qab2 qab1 CoL qabb qabx dels adds idsH qabr
def qad3 (c : qaec) (l : List Entry) : AbsI := qang 2 fun h => h = hobj c l
theorem qagc (c : qaec) (l : List Entry) {σ : Nat → Nat} (h : σ 1 = 1) : RenH σ (hobj c l) := ⟨qakx c _ h, qabz _ _ _, trivial⟩
theorem qagb (c : qaec) (l : List Entry) : ∀ hh, hh = hobj c l → (∃ t cs, geth hh 0 = some (.cells t cs)) ∧ RenH (fun i => if i = 0 then 2 else i) hh := fun hh h => by
 subst h
 exact ⟨⟨_, _, rfl⟩, qagc c l rfl⟩
theorem qam0 {X : Cx} {s : SSt} {c : qaec} {l : List Entry} (hs : SubH s.hp (hobj c l)) : Wk X s ⟨s.sl, [(0, .abs (qad3 c l))], s.nx⟩ :=
 qa8n (hh := hobj c l) (R := fun h => h = hobj c l) rfl (by decide) rfl (fun σ h => qagc c l (h 1 (by decide))) (by simp [idsH, hobj]) hs rfl (fun id o' h ho => by simp only [geth, if_neg (Ne.symm h)] at ho; cases ho)
theorem qa9r {X : Cx} {s : SSt} {c : qaec} {l : List Entry} {e : SExit} (he : e = .ret ∨ e = .normal) (hm : X.m = 1) (hw : Wk X s ⟨[], hobj c l, 2⟩) : QFun X [] 1 (.tup []) [(0, .abs (qad3 c l))] e s := by
 have h1 : Wk X s ⟨[], [(0, .abs (qad3 c l))], 2⟩ := hw.trans (qam0 ⟨rfl, rfl, trivial⟩)
 have h2 : Wk X ⟨[], [(0, .abs (qad3 c l))], 2⟩ ⟨[], [(0, .abs (qad3 c l))], 1⟩ := qabe [] hm trivial ⟨⟨_, rfl, rfl⟩, trivial⟩ rfl (Nat.le_refl _)
 rcases he with rfl | rfl <;> exact ⟨_, h1.trans h2, rfl, ⟨rfl, trivial⟩, by simp⟩
theorem rpush_s (c : qaec) (l : List Entry) (e : Entry) (hl : l.length < 1000000) : SCalls Tryz.prog 168 [.ptr 0 (hoff c), .ifc 38 (.agg (qaay e))] [(0, .abs (qad3 c l))] 1 (.tup []) [(0, .abs (qad3 c (l ++ [e])))] := by
 refine qaai (N := 20) Tryz.func168 rfl rfl (by kernel_rfl) qalg (by simp) (by repeat' (first | exact trivial | refine And.intro ?_ ?_ | rfl | decide | exact PureR.ren _)) (by repeat' (first | exact trivial | refine And.intro ?_ ?_ | rfl | decide | exact PureR.ren _)) ?_
 rintro X hP hN hm
 refine qae0 (by omega) (by decide) (qagb c l) fun hh h => ?_
 subst h
 unfold c_rwpush hobj
 have b1 : l.length + 1 ≤ maxLen := by unfold maxLen; omega
 have b2 : (l.length + 1) * 96 ≤ 140737488355328 := by omega
 rcases c with _ | ⟨k, m⟩
 all_goals
  unfold hcs hty hoff
  repeat' (first | ((with_reducible first | refine qaao ?_ | refine qaal (by rw [hP]; exact mixed) ?_); (try rw [hP]); simp -implicitDefEqProofs [b1, b2, qac0, qab6, qaey, *]) | ((with_reducible first | refine qaah ?_ | refine qaak ?_); (try simp -implicitDefEqProofs [b1, b2, qac0, qab6, qaey, *])) | ((with_reducible refine qaaa (fun h => ?_) (fun h => ?_)) <;> have h' := h <;> (try simp at h') <;> (try subst h') <;> simp -implicitDefEqProofs [b1, b2, qac0, qab6, qaey, *]) | ((with_reducible refine qaan ?_ ?_); (first | omega | (unfold maxLen; omega)); simp -implicitDefEqProofs [b1, b2, qac0, qab6, qaey, *]) | refine yA ?_ | with_reducible refine yB ?_ ?_ | ((with_reducible refine yC fun h => ?_); have h' := h; (try simp at h'); (try subst h')) | exact yD | refine yE ?_ | (refine qa9r (.inr rfl) hm (qabe [(1, 17)] hm trivial ⟨⟨_, rfl, rfl, ?_⟩, ⟨_, rfl, rfl, rfl, ?_⟩, trivial⟩ rfl (by simp))) | exact trivial)
  all_goals first | (rw [List.length_append]; exact CoL.refl _) | (rw [qabz, List.map_append]; exact CoLL.refl _) | trace_state
end Go.Proofs.YtalejfkholifpaaGreat
namespace Go.Proofs.YtalejfkholifpaaGreat
set_option linter.all false
open Go.RowKit
def qag5 (l : List Entry) (i j : Nat) : Bool := match l[i]?, l[j]? with
 | some a, some b => decide (ordE a b < 0)
 | _, _ => false
def qaeb (l : List Entry) (i j : Nat) : List Entry := match l[i]?, l[j]? with
 | some a, some b => (l.set i b).set j a
 | _, _ => l
def upL : Nat → List Entry → Nat → List Entry
 | 0, l, _ => l
 | f + 1, l, j => if (j - 1) / 2 = j ∨ qag5 l j ((j - 1) / 2) = false then l else upL f (qaeb l ((j - 1) / 2) j) ((j - 1) / 2)
def sonL (l : List Entry) (i n : Nat) : Nat := if 2 * i + 1 + 1 < n ∧ qag5 l (2 * i + 1 + 1) (2 * i + 1) = true then 2 * i + 1 + 1 else 2 * i + 1
def qaez : Nat → List Entry → Nat → Nat → List Entry × Nat
 | 0, l, i, _ => (l, i)
 | f + 1, l, i, n => if n ≤ 2 * i + 1 ∨ qag5 l (sonL l i n) i = false then (l, i) else qaez f (qaeb l i (sonL l i n)) (sonL l i n) n
theorem qav6 {l : List Entry} {i j : Nat} (hi : i < l.length) (hj : j < l.length) : qag5 l i j = decide (ordE l[i] l[j] < 0) := by
 unfold qag5; rw [List.getElem?_eq_getElem hi, List.getElem?_eq_getElem hj]
theorem qam5 {l : List Entry} {i j : Nat} (hi : i < l.length) (hj : j < l.length) : qaeb l i j = (l.set i l[j]).set j l[i] := by
 unfold qaeb; rw [List.getElem?_eq_getElem hi, List.getElem?_eq_getElem hj]
theorem qaed (l : List Entry) (i j : Nat) : (qaeb l i j).length = l.length := by
 unfold qaeb; split <;> simp
theorem qa2t {l : List Entry} {i j : Nat} (hi : i < l.length) (hj : j < l.length) : ((l.set i l[j]).set j l[i]).Perm l := List.set_set_perm hi hj
theorem qadg (l : List Entry) (i j : Nat) : (qaeb l i j).Perm l := by
 by_cases hi : i < l.length
 ·by_cases hj : j < l.length
  ·rw [qam5 hi hj]; exact qa2t hi hj
  ·unfold qaeb; rw [List.getElem?_eq_none (by omega : l.length ≤ j)]; split <;> first | exact .refl _ | simp_all
 ·unfold qaeb; rw [List.getElem?_eq_none (by omega : l.length ≤ i)]
theorem qahm : ∀ (f : Nat) (l : List Entry) (j : Nat), (upL f l j).Perm l
 | 0, l, j => .refl _
 | f + 1, l, j => by
  rw [upL]; split
  ·exact .refl _
  ·exact (qahm f _ _).trans (qadg _ _ _)
theorem qauc : ∀ (f g : Nat) (l : List Entry) (j : Nat), j < f → j < g → upL f l j = upL g l j
 | f + 1, g + 1, l, j, hf, hg => by
  rw [upL, upL]
  by_cases h : (j - 1) / 2 = j ∨ qag5 l j ((j - 1) / 2) = false
  ·rw [if_pos h, if_pos h]
  ·rw [if_neg h, if_neg h]
   have : (j - 1) / 2 ≠ j := fun e => h (.inl e)
   exact qauc f g _ _ (by omega) (by omega)
theorem qadm : ∀ (f : Nat) (l : List Entry) (i n : Nat), (qaez f l i n).1.Perm l
 | 0, l, i, n => .refl _
 | f + 1, l, i, n => by
  rw [qaez]; split
  ·exact .refl _
  ·exact (qadm f _ _ _).trans (qadg _ _ _)
theorem qaka (l : List Entry) (i n : Nat) (h : 2 * i + 1 < n) : i < sonL l i n ∧ sonL l i n < n := by
 unfold sonL; split <;> omega
theorem qak5 : ∀ (f g : Nat) (l : List Entry) (i n : Nat), n - i < f → n - i < g → qaez f l i n = qaez g l i n
 | f + 1, g + 1, l, i, n, hf, hg => by
  rw [qaez, qaez]
  by_cases h : n ≤ 2 * i + 1 ∨ qag5 l (sonL l i n) i = false
  ·rw [if_pos h, if_pos h]
  ·rw [if_neg h, if_neg h]
   have h1 : 2 * i + 1 < n := Nat.lt_of_not_le fun e => h (.inl e)
   have h2 := qaka l i n h1
   exact qak5 f g _ _ _ (by omega) (by omega)
end Go.Proofs.YtalejfkholifpaaGreat
namespace Go.Proofs.YtalejfkholifpaaGreat
set_option linter.all false
open Go.RowKit
attribute [local simp] qaas qaar qaad qaag qaae qaaf qaap qaaq qaab qaa5 SOp.run SX.ev putd puts argS upds SOp.touch SSt.keep SSt.skip gets geth puth delh idOf SV.cells? setL qab4 qab5 sbin eq0 eq1 eqL qab0 qabj qabk qaa4 qaat qaac qaau qaa6 qaaj qaam FrzOk qaa9 qaa0 qaa7 qaa8 qaav qaaz qabf qaa1 qaax qaba qaaw frzS frzH frz frz1 frz0 SlotsM ObjsM ObjM rn ren ren1 ren0 qabq qabs qabt qabp qabg qab2 qab1 CoL qabb qabx dels adds idsH qabr
theorem m_len : qab8 Tryz.prog 176 "Len" = some (some (163, false)) := by kernel_rfl
theorem qaqy : qab8 Tryz.prog 176 "Less" = some (some (164, false)) := by kernel_rfl
theorem qank : qab8 Tryz.prog 176 "Swap" = some (some (165, false)) := by kernel_rfl
theorem m_push : qab8 Tryz.prog 176 "Push" = some (some (168, true)) := by kernel_rfl
theorem m_pop : qab8 Tryz.prog 176 "Pop" = some (some (167, true)) := by kernel_rfl
theorem qbdy : qaua Tryz.prog 176 = some (some 106) := by kernel_rfl
theorem a_row : qahj Tryz.prog 106 = some false := by kernel_rfl
attribute [local irreducible] qab8
abbrev hobn (c : qaec) (n : Nat) (l : List Entry) : Hp := [(0, .cells (hty c) (hcs c n)), (1, .row 38 6 (l.map qaay))]
theorem qad0 {c : qaec} {n : Nat} {l : List Entry} (h : l.length = n) : hobj c l = hobn c n l := by subst h; rfl
theorem qait (c : qaec) (n : Nat) (l : List Entry) : LtH 2 (hobn c n l) := ⟨by decide, qakx c _ rfl, by decide, qabz _ _ _, trivial⟩
theorem qau2 (c : qaec) (n : Nat) (l : List Entry) (hl : l.length = n) (hs : ∀ x ∈ l, qade x) (i j : Nat) (hi : i < n) (hj : j < n) (q : Nat) (hq : 2 ≤ q) : SCalls Tryz.prog 164 [.own 1 n, .int .i64 i, .int .i64 j] (hobn c n l) q (.bool (qag5 l i j)) (hobn c n l) := by
 subst hl; rw [qav6 hi hj]; exact rless_s c l hs i j hi hj q hq
theorem qao7 (c : qaec) (n : Nat) (l : List Entry) (hl : l.length = n) (i j : Nat) (hi : i < n) (hj : j < n) (q : Nat) (hq : 2 ≤ q) : SCalls Tryz.prog 165 [.own 1 n, .int .i64 i, .int .i64 j] (hobn c n l) q (.tup []) (hobn c n (qaeb l i j)) := by
 have h := rswap_s c l i j (by omega) (by omega) q hq
 rw [← qam5 (by omega) (by omega), qad0 (c := c) (n := n) (l := qaeb l i j) (by rw [qaed, hl]), qad0 hl, hl] at h
 exact h
theorem qadp {c : qaec} {n : Nat} {nm : String} {f : FuncId} (h : qab8 Tryz.prog 176 nm = some (some (f, false))) : Meth Tryz.prog (geth [(0, .cells (hty c) (hcs c n))]) 176 (.ptr 0 (hoff c)) nm f (.own 1 n) := qa23 h qbdy a_row rfl (hcs_get c n)
theorem qa9p {X : Cx} {s : SSt} {c : qaec} {n : Nat} {l : List Entry} {x : SExit} (hx : x = .ret ∨ x = .normal) (hw : Wk X s ⟨[], hobn c n l, 2⟩) : QFun X [] 2 (.tup []) (hobn c n l) x s := by
 rcases hx with rfl | rfl <;> exact ⟨_, hw, rfl, ⟨rfl, rfl, trivial⟩, by simp⟩
theorem par_eq (i : Nat) : ((i : Int) - 1).tdiv 2 = (((i - 1) / 2 : Nat) : Int) := by
 cases i with
 | zero => rfl
 | succ i =>
  have e : ((i + 1 : Nat) : Int) - 1 = (i : Int) := by omega
  rw [e, Nat.add_sub_cancel]; rfl
theorem qafz (x : Int) (h1 : -9223372036854775808 ≤ x) (h2 : x ≤ 9223372036854775807) : IntKind.i64.wrap x = x := IntWalk.i64_in _ ⟨h1, h2⟩
theorem up_s (c : qaec) (l : List Entry) (j : Nat) (hj : j < l.length) (hb : l.length ≤ 1000000) (hs : ∀ x ∈ l, qade x) (q : Nat) (hq : 2 ≤ q) : SCalls Tryz.prog 157 [.ifc 176 (.ptr 0 (hoff c)), .int .i64 j] (hobj c l) q (.tup []) (hobj c (upL (j + 1) l j)) := by
 refine h_up ?_ q hq rfl rfl rfl
 obtain ⟨F, hF⟩ : ∃ F, F = upL (j + 1) l j := ⟨_, rfl⟩
 have hFl : F.length = l.length := by rw [hF]; exact (qahm _ _ _).length_eq
 rw [← hF, qad0 hFl, qad0 (c := c) (l := l) rfl]
 generalize hn : l.length = n at hj hb hFl
 replace hF := Lib.hid hF
 replace hFl := Lib.hid hFl
 replace hs := Lib.hid hs
 replace hn := Lib.hid hn
 refine qaai (N := 23) Tryz.func157 rfl rfl (by kernel_rfl) qaxh (by simp) (by repeat' (first | exact trivial | refine And.intro ?_ ?_ | rfl | decide | exact PureR.ren _)) (qait c n l) ?_
 rintro X hP hN hm
 unfold c_hup
 show SWp X (.block 0 (.loop qaow)) _ ⟨[(0, .ifc 176 (.ptr 0 (hoff c))), (1, .int .i64 j)], _, _⟩
 refine qabl (qacv (fun s (x : Nat × List Entry) => s.turn [(1, .int .i64 x.1)] [(1, .row 38 6 (x.2.map qaay))]) (fun x => x.1 < n ∧ x.2.length = n ∧ (∀ e ∈ x.2, qade e) ∧ F = upL (x.1 + 1) x.2 x.1) (fun x => x.1) (j, l) ?_ ⟨hj, hn.out, hs.out, hF.out⟩ ?_)
 ·repeat' (first | exact yD | refine yE ?_ | with_reducible refine yB ?_ ?_ | exact trivial)
  all_goals exact qadd _ _ rfl
 rintro J hJ ⟨i, L⟩ ⟨h1, h2, h3, h4⟩
 unfold qaow
 simp only [zT, puth, Nat.reduceEqDiff, reduceIte, Nat.reduceAdd] at h1 h2 h3 h4 ⊢
 rw [upL] at h4
 have e1 : ((i : Int) - 1).tdiv 2 = (((i - 1) / 2 : Nat) : Int) := par_eq i
 have w1 : IntKind.i64.wrap ((i : Int) - 1) = (i : Int) - 1 := qafz _ (by omega) (by omega)
 generalize hp : (i - 1) / 2 = p at h4 e1
 have w2 : IntKind.i64.wrap (p : Int) = (p : Int) := qafz _ (by omega) (by omega)
 have hpi : p ≤ i := by omega
 have hpl : p ≠ i → p < i := by omega
 have k1 := fun q hq => qau2 c n L h2 h3 i p h1 (by omega) q hq
 have k2 := fun q hq => qao7 c n L h2 p i (by omega) h1 q hq
 generalize hx : qag5 L i p = x at h4 k1
 have hsl : (qaeb L p i).length = n := by rw [qaed, h2]
 have hss : ∀ e ∈ qaeb L p i, qade e := fun e he => h3 e ((qadg L p i).mem_iff.1 he)
 generalize qaeb L p i = L2 at h4 k2 hsl hss
 replace h2 := Lib.hid h2
 replace h3 := Lib.hid h3
 replace h4 := Lib.hid h4
 replace hsl := Lib.hid hsl
 replace hss := Lib.hid hss
 have w3 : IntKind.i64.wrap (i : Int) = (i : Int) := qafz _ (by omega) (by omega)
 by_cases hip : p = i
 ·have hFL : F = L := by have := h4.out; rw [if_pos (.inl hip)] at this; exact this
  subst hFL
  repeat' (first | ((with_reducible first | refine qaao ?_ | refine qaal (by rw [hP]; exact mixed) ?_); (try rw [hP]); simp -implicitDefEqProofs [w1, w2, w3, e1, hip, *]) | ((with_reducible first | refine qaah ?_ | refine qaak ?_); (try simp -implicitDefEqProofs [w1, w2, w3, e1, hip, *])) | ((with_reducible refine qaaa (fun h => ?_) (fun h => ?_)) <;> have h' := h <;> (try simp at h') <;> (try subst h') <;> simp -implicitDefEqProofs [w1, w2, w3, e1, hip, *]) | ((with_reducible refine qaan ?_ ?_); (first | omega | (unfold maxLen; omega)); simp -implicitDefEqProofs [w1, w2, w3, e1, hip, *]) | refine yA ?_ | with_reducible refine yB ?_ ?_ | ((with_reducible refine yC fun h => ?_); have h' := h; (try simp at h'); (try subst h')) | exact yD | refine yE ?_ | ((refine qa9p (.inr rfl) ?_)) | (exact qadd _ _ rfl) | exact trivial)
  all_goals (exfalso; omega)
 ·have hb : ((p : Int) == (i : Int)) = false := by simp; omega
  cases x
  ·have hFL : F = L := by have := h4.out; rw [if_pos (.inr rfl)] at this; exact this
   subst hFL
   repeat' (first | ((with_reducible first | refine qaao ?_ | refine qaal (by rw [hP]; exact mixed) ?_); (try rw [hP]); simp -implicitDefEqProofs [w1, w2, e1, hb, *]) | ((with_reducible first | refine qaah ?_ | refine qaak ?_); (try simp -implicitDefEqProofs [w1, w2, e1, hb, *])) | ((with_reducible refine qaaa (fun h => ?_) (fun h => ?_)) <;> have h' := h <;> (try simp at h') <;> (try subst h') <;> simp -implicitDefEqProofs [w1, w2, e1, hb, *]) | ((with_reducible refine qaan ?_ ?_); (first | omega | (unfold maxLen; omega)); simp -implicitDefEqProofs [w1, w2, e1, hb, *]) | refine yA ?_ | with_reducible refine yB ?_ ?_ | ((with_reducible refine yC fun h => ?_); have h' := h; (try simp at h'); (try subst h')) | (refine qadn [(0, .cells (hty c) (hcs c n))] ⟨rfl, trivial⟩ (qadp qaqy) (k1 _ (by simp)) ⟨rfl, rfl, trivial⟩ ⟨rfl, rfl, trivial⟩ [] (by simp) ?_; simp -implicitDefEqProofs [w1, w2, e1, hb, *]) | (refine qadn [(0, .cells (hty c) (hcs c n))] ⟨rfl, trivial⟩ (qadp qank) (k2 _ (by simp)) ⟨rfl, rfl, trivial⟩ ⟨rfl, rfl, trivial⟩ [] (by simp) ?_; simp -implicitDefEqProofs [w1, w2, e1, hb, *]) | exact yD | refine yE ?_ | ((refine qa9p (.inr rfl) ?_)) | (exact qadd _ _ rfl) | exact trivial)
  ·have hFL : F = upL i L2 p := by have := h4.out; rw [if_neg (by simp [hip])] at this; exact this
   replace hFL := Lib.hid hFL
   repeat' (first | ((with_reducible first | refine qaao ?_ | refine qaal (by rw [hP]; exact mixed) ?_); (try rw [hP]); simp -implicitDefEqProofs [w1, w2, e1, hb, *]) | ((with_reducible first | refine qaah ?_ | refine qaak ?_); (try simp -implicitDefEqProofs [w1, w2, e1, hb, *])) | ((with_reducible refine qaaa (fun h => ?_) (fun h => ?_)) <;> have h' := h <;> (try simp at h') <;> (try subst h') <;> simp -implicitDefEqProofs [w1, w2, e1, hb, *]) | ((with_reducible refine qaan ?_ ?_); (first | omega | (unfold maxLen; omega)); simp -implicitDefEqProofs [w1, w2, e1, hb, *]) | refine yA ?_ | with_reducible refine yB ?_ ?_ | ((with_reducible refine yC fun h => ?_); have h' := h; (try simp at h'); (try subst h')) | (refine qadn [(0, .cells (hty c) (hcs c n))] ⟨rfl, trivial⟩ (qadp qaqy) (k1 _ (by simp)) ⟨rfl, rfl, trivial⟩ ⟨rfl, rfl, trivial⟩ [] (by simp) ?_; simp -implicitDefEqProofs [w1, w2, e1, hb, *]) | (refine qadn [(0, .cells (hty c) (hcs c n))] ⟨rfl, trivial⟩ (qadp qank) (k2 _ (by simp)) ⟨rfl, rfl, trivial⟩ ⟨rfl, rfl, trivial⟩ [] (by simp) ?_; simp -implicitDefEqProofs [w1, w2, e1, hb, *]) | exact yD | refine yE ?_ | ((refine qabn hJ (p, L2) ?_ ?_ ?_; (with_reducible refine qabe [] hm ?_ ?_ ?_ ?_) <;> (try simp only [zT, puth, Nat.reduceEqDiff, reduceIte, Nat.reduceAdd]))) | (exact qadd _ _ rfl) | exact trivial)
   all_goals exact ⟨by omega, hsl.out, hss.out, by rw [hFL.out]; exact qauc _ _ _ _ (hpl hip) (Nat.lt_succ_self _)⟩
end Go.Proofs.YtalejfkholifpaaGreat
namespace Go.Proofs.YtalejfkholifpaaGreat
set_option linter.all false
open Go.RowKit
attribute [local simp] qaas qaar qaad qaag qaae qaaf qaap qaaq qaab qaa5 SOp.run SX.ev putd puts argS upds SOp.touch SSt.keep SSt.skip gets geth puth delh idOf SV.cells? setL qab4 qab5 sbin eq0 eq1 eqL qab0 qabj qabk qaa4 qaat qaac qaau qaa6 qaaj qaam FrzOk qaa9 qaa0 qaa7 qaa8 qaav qaaz qabf qaa1 qaax qaba qaaw frzS frzH frz frz1 frz0 SlotsM ObjsM ObjM rn ren ren1 ren0 qabq qabs qabt qabp qabg qab2 qab1 CoL qabb qabx dels adds idsH qabr
attribute [local irreducible] qab8
theorem qa9q {X : Cx} {s : SSt} {c : qaec} {n t : Nat} {l : List Entry} {b : Bool} (hw : Wk X s ⟨[(t, .bool b)], hobn c n l, 2⟩) : QFun X [.tmp t] 2 (.bool b) (hobn c n l) .ret s := ⟨_, hw, by simp [qaf2, resL, resV, one_, gets], ⟨rfl, rfl, trivial⟩, by simp⟩
theorem down_s (c : qaec) (l : List Entry) (i0 n : Nat) (hn : n ≤ l.length) (hi0 : i0 ≤ l.length) (hb : l.length ≤ 1000000) (hs : ∀ x ∈ l, qade x) (q : Nat) (hq : 2 ≤ q) : SCalls Tryz.prog 158 [.ifc 176 (.ptr 0 (hoff c)), .int .i64 i0, .int .i64 n] (hobj c l) q (.bool (decide (i0 < (qaez (n - i0 + 1) l i0 n).2))) (hobj c (qaez (n - i0 + 1) l i0 n).1) := by
 refine h_up ?_ q hq rfl rfl rfl
 obtain ⟨F, hF⟩ : ∃ F, F = qaez (n - i0 + 1) l i0 n := ⟨_, rfl⟩
 have hFl : F.1.length = l.length := by rw [hF]; exact (qadm _ _ _ _).length_eq
 rw [← hF, qad0 hFl, qad0 (c := c) (l := l) rfl]
 generalize hN : l.length = N at hn hb hFl hi0
 replace hF := Lib.hid hF
 replace hFl := Lib.hid hFl
 replace hs := Lib.hid hs
 replace hN := Lib.hid hN
 refine qaai (N := 48) Tryz.func158 rfl rfl (by kernel_rfl) qaoi (by simp) (by repeat' (first | exact trivial | refine And.intro ?_ ?_ | rfl | decide | exact PureR.ren _)) (qait c N l) ?_
 rintro X hP hNn hm
 unfold c_hdown
 repeat' (first | refine yA ?_ | with_reducible refine yB ?_ ?_ | ((with_reducible refine yC fun h => ?_); have h' := h; (try simp at h'); (try subst h')) | exact trivial)
 refine qabl (qacv (fun s (x : Nat × List Entry) => s.turn [(7, .int .i64 x.1)] [(1, .row 38 6 (x.2.map qaay))]) (fun x => x.1 ≤ N ∧ x.2.length = N ∧ (∀ e ∈ x.2, qade e) ∧ F = qaez (n - x.1 + 1) x.2 x.1 n) (fun x => N - x.1) (i0, l) ?_ ⟨hi0, hN.out, hs.out, hF.out⟩ ?_)
 ·repeat' (first | exact yD | refine yE ?_ | with_reducible refine yB ?_ ?_ | exact trivial)
  all_goals exact qadd _ _ rfl
 rintro J hJ ⟨i, L⟩ ⟨h1, h2, h3, h4⟩
 unfold qami
 simp only [zT, puth, Nat.reduceEqDiff, reduceIte, Nat.reduceAdd] at h1 h2 h3 h4 ⊢
 rw [qaez] at h4
 have w0 : IntKind.i64.wrap (2 * (i : Int)) = 2 * (i : Int) := qafz _ (by omega) (by omega)
 have w1 : IntKind.i64.wrap (2 * (i : Int) + 1) = 2 * (i : Int) + 1 := qafz _ (by omega) (by omega)
 have w2 : IntKind.i64.wrap (2 * (i : Int) + 1 + 1) = 2 * (i : Int) + 1 + 1 := qafz _ (by omega) (by omega)
 have hneg : ¬ (2 * (i : Int) + 1 < 0) := by omega
 rcases Nat.lt_or_ge (2 * i + 1) n with hj | hj
 ·have hng : ¬ ((n : Int) ≤ 2 * (i : Int) + 1) := by omega
  have hsn := qaka L i n hj
  have hm1 : ((2 * i + 1 : Nat) : Int) = 2 * (i : Int) + 1 := by omega
  have hm2 : ((2 * i + 1 + 1 : Nat) : Int) = 2 * (i : Int) + 1 + 1 := by omega
  have k0 : 2 * i + 1 + 1 < n → ∀ q, 2 ≤ q → SCalls Tryz.prog 164 [.own 1 N, .int .i64 (2 * (i : Int) + 1 + 1), .int .i64 (2 * (i : Int) + 1)] (hobn c N L) q (.bool (qag5 L (2 * i + 1 + 1) (2 * i + 1))) (hobn c N L) := fun h q hq => by
   rw [← hm2, ← hm1]
   exact qau2 c N L h2 h3 (2 * i + 1 + 1) (2 * i + 1) (by omega) (by omega) q hq
  have k1 : ∀ q, 2 ≤ q → _ := fun q hq => qau2 c N L h2 h3 (sonL L i n) i (by omega) (by omega) q hq
  have k2 : ∀ q, 2 ≤ q → _ := fun q hq => qao7 c N L h2 i (sonL L i n) (by omega) (by omega) q hq
  have hsl : (qaeb L i (sonL L i n)).length = N := by rw [qaed, h2]
  have hss : ∀ e ∈ qaeb L i (sonL L i n), qade e := fun e he => h3 e ((qadg _ _ _).mem_iff.1 he)
  generalize qaeb L i (sonL L i n) = L2 at h4 k2 hsl hss
  have hcase : (2 * i + 1 + 1 < n ∧ qag5 L (2 * i + 1 + 1) (2 * i + 1) = true ∧ sonL L i n = 2 * i + 1 + 1) ∨ (2 * i + 1 + 1 < n ∧ qag5 L (2 * i + 1 + 1) (2 * i + 1) = false ∧ sonL L i n = 2 * i + 1) ∨ (¬ 2 * i + 1 + 1 < n ∧ sonL L i n = 2 * i + 1) := by
   unfold sonL
   by_cases hA : 2 * i + 1 + 1 < n
   ·cases hx : qag5 L (2 * i + 1 + 1) (2 * i + 1)
    ·exact .inr (.inl ⟨hA, rfl, by rw [if_neg (by simp)]⟩)
    ·exact .inl ⟨hA, rfl, by rw [if_pos ⟨hA, rfl⟩]⟩
   ·exact .inr (.inr ⟨hA, by rw [if_neg fun h => hA h.1]⟩)
  have h5 : F = if qag5 L (sonL L i n) i = false then (L, i) else qaez (n - sonL L i n + 1) L2 (sonL L i n) n := by
   rw [h4]
   by_cases hy : qag5 L (sonL L i n) i = false
   ·rw [if_pos (.inr hy), if_pos hy]
   ·rw [if_neg (fun h => h.elim (by omega) hy), if_neg hy]; exact qak5 _ _ _ _ _ (by omega) (by omega)
  generalize hy : qag5 L (sonL L i n) i = y at h5 k1
  replace h2 := Lib.hid h2
  replace h3 := Lib.hid h3
  replace hsl := Lib.hid hsl
  replace hss := Lib.hid hss
  clear h4 hy
  have fin1 : y = false → F = (L, i) := fun e => by rw [h5, if_pos e]
  have fin2 : y = true → F = qaez (n - sonL L i n + 1) L2 (sonL L i n) n := fun e => by rw [h5, e, if_neg (by decide)]
  clear h5
  rcases hcase with ⟨hA, hx, hs0⟩ | ⟨hA, hx, hs0⟩ | ⟨hA, hs0⟩
  all_goals
   rw [hs0] at k1 k2
   first | (replace k0 := k0 hA; rw [hx] at k0) | clear k0
   first | (have hB : 2 * (i : Int) + 1 + 1 < n := by omega) | (have hB : ¬ (2 * (i : Int) + 1 + 1 < n) := by omega)
   first | rw [hm2] at k1 k2 | rw [hm1] at k1 k2
   cases y
   ·obtain rfl := fin1 rfl
    clear fin2
    repeat' (first | ((with_reducible first | refine qaao ?_ | refine qaal (by rw [hP]; exact mixed) ?_); (try rw [hP]); simp -implicitDefEqProofs [w0, w1, w2, hng, hneg, *]) | ((with_reducible first | refine qaah ?_ | refine qaak ?_); (try simp -implicitDefEqProofs [w0, w1, w2, hng, hneg, *])) | ((with_reducible refine qaaa (fun h => ?_) (fun h => ?_)) <;> have h' := h <;> (try simp at h') <;> (try subst h') <;> simp -implicitDefEqProofs [w0, w1, w2, hng, hneg, *]) | ((with_reducible refine qaan ?_ ?_); (first | omega | (unfold maxLen; omega)); simp -implicitDefEqProofs [w0, w1, w2, hng, hneg, *]) | refine yA ?_ | with_reducible refine yB ?_ ?_ | ((with_reducible refine yC fun h => ?_); have h' := h; (try simp at h'); (try subst h')) | (refine qadn [(0, .cells (hty c) (hcs c N))] ⟨rfl, trivial⟩ (qadp qaqy) (k0 _ (by simp)) ⟨rfl, rfl, trivial⟩ ⟨rfl, rfl, trivial⟩ [] (by simp) ?_; simp -implicitDefEqProofs [w0, w1, w2, hng, hneg, *]) | (refine qadn [(0, .cells (hty c) (hcs c N))] ⟨rfl, trivial⟩ (qadp qaqy) (k1 _ (by simp)) ⟨rfl, rfl, trivial⟩ ⟨rfl, rfl, trivial⟩ [] (by simp) ?_; simp -implicitDefEqProofs [w0, w1, w2, hng, hneg, *]) | (refine qadn [(0, .cells (hty c) (hcs c N))] ⟨rfl, trivial⟩ (qadp qank) (k2 _ (by simp)) ⟨rfl, rfl, trivial⟩ ⟨rfl, rfl, trivial⟩ [] (by simp) ?_; simp -implicitDefEqProofs [w0, w1, w2, hng, hneg, *]) | exact yD | refine yE ?_ | ((refine qa9q ?_)) | (exact qadd _ _ rfl) | exact trivial)
   ·replace fin2 := Lib.hid (fin2 rfl)
    clear fin1
    repeat' (first | ((with_reducible first | refine qaao ?_ | refine qaal (by rw [hP]; exact mixed) ?_); (try rw [hP]); simp -implicitDefEqProofs [w0, w1, w2, hng, hneg, *]) | ((with_reducible first | refine qaah ?_ | refine qaak ?_); (try simp -implicitDefEqProofs [w0, w1, w2, hng, hneg, *])) | ((with_reducible refine qaaa (fun h => ?_) (fun h => ?_)) <;> have h' := h <;> (try simp at h') <;> (try subst h') <;> simp -implicitDefEqProofs [w0, w1, w2, hng, hneg, *]) | ((with_reducible refine qaan ?_ ?_); (first | omega | (unfold maxLen; omega)); simp -implicitDefEqProofs [w0, w1, w2, hng, hneg, *]) | refine yA ?_ | with_reducible refine yB ?_ ?_ | ((with_reducible refine yC fun h => ?_); have h' := h; (try simp at h'); (try subst h')) | (refine qadn [(0, .cells (hty c) (hcs c N))] ⟨rfl, trivial⟩ (qadp qaqy) (k0 _ (by simp)) ⟨rfl, rfl, trivial⟩ ⟨rfl, rfl, trivial⟩ [] (by simp) ?_; simp -implicitDefEqProofs [w0, w1, w2, hng, hneg, *]) | (refine qadn [(0, .cells (hty c) (hcs c N))] ⟨rfl, trivial⟩ (qadp qaqy) (k1 _ (by simp)) ⟨rfl, rfl, trivial⟩ ⟨rfl, rfl, trivial⟩ [] (by simp) ?_; simp -implicitDefEqProofs [w0, w1, w2, hng, hneg, *]) | (refine qadn [(0, .cells (hty c) (hcs c N))] ⟨rfl, trivial⟩ (qadp qank) (k2 _ (by simp)) ⟨rfl, rfl, trivial⟩ ⟨rfl, rfl, trivial⟩ [] (by simp) ?_; simp -implicitDefEqProofs [w0, w1, w2, hng, hneg, *]) | exact yD | refine yE ?_ | ((refine qabn hJ (sonL L i n, L2) ?_ ?_ ?_; (with_reducible refine qabe [] hm ?_ ?_ ?_ ?_) <;> (try simp only [zT, puth, Nat.reduceEqDiff, reduceIte, Nat.reduceAdd]))) | (exact qadd _ _ rfl) | exact trivial)
    all_goals exact ⟨by omega, hsl.out, hss.out, fin2.out⟩
 ·have hge : ((n : Int) ≤ 2 * (i : Int) + 1) := by omega
  obtain rfl : F = (L, i) := by rw [h4, if_pos (.inl hj)]
  clear h4
  repeat' (first | ((with_reducible first | refine qaao ?_ | refine qaal (by rw [hP]; exact mixed) ?_); (try rw [hP]); simp -implicitDefEqProofs [w0, w1, w2, hge, *]) | ((with_reducible first | refine qaah ?_ | refine qaak ?_); (try simp -implicitDefEqProofs [w0, w1, w2, hge, *])) | ((with_reducible refine qaaa (fun h => ?_) (fun h => ?_)) <;> have h' := h <;> (try simp at h') <;> (try subst h') <;> simp -implicitDefEqProofs [w0, w1, w2, hge, *]) | ((with_reducible refine qaan ?_ ?_); (first | omega | (unfold maxLen; omega)); simp -implicitDefEqProofs [w0, w1, w2, hge, *]) | refine yA ?_ | with_reducible refine yB ?_ ?_ | ((with_reducible refine yC fun h => ?_); have h' := h; (try simp at h'); (try subst h')) | exact yD | refine yE ?_ | ((refine qa9q ?_)) | (exact qadd _ _ rfl) | exact trivial)
end Go.Proofs.YtalejfkholifpaaGreat
namespace Go.Proofs.YtalejfkholifpaaGreat
set_option linter.all false
open Go.RowKit
attribute [local simp] qaas qaar qaad qaag qaae qaaf qaap qaaq qaab qaa5 SOp.run SX.ev putd puts argS upds SOp.touch SSt.keep SSt.skip gets geth puth delh idOf SV.cells? setL qab4 qab5 sbin eq0 eq1 eqL qab0 qabj qabk qaa4 qaat qaac qaau qaa6 qaaj qaam FrzOk qaa9 qaa0 qaa7 qaa8 qaav qaaz qabf qaa1 qaax qaba qaaw frzS frzH frz frz1 frz0 SlotsM ObjsM ObjM rn ren ren1 ren0 qabq qabs qabt qabp qabg qab2 qab1 CoL qabb qabx dels adds idsH qabr
attribute [local irreducible] qab8
def popL (l : List Entry) : List Entry := (qaez (l.length - 1 - 0 + 1) (qaeb l 0 (l.length - 1)) 0 (l.length - 1)).1
def remL (l : List Entry) (i : Nat) : List Entry := if l.length - 1 = i then l else
 if i < (qaez (l.length - 1 - i + 1) (qaeb l i (l.length - 1)) i (l.length - 1)).2 then (qaez (l.length - 1 - i + 1) (qaeb l i (l.length - 1)) i (l.length - 1)).1
 else upL (i + 1) (qaez (l.length - 1 - i + 1) (qaeb l i (l.length - 1)) i (l.length - 1)).1 i
theorem qaeg (l : List Entry) : (popL l).Perm l := (qadm _ _ _ _).trans (qadg _ _ _)
theorem qaf3 (l : List Entry) (i : Nat) : (remL l i).Perm l := by
 unfold remL
 split
 ·exact .refl _
 ·split
  ·exact (qadm _ _ _ _).trans (qadg _ _ _)
  ·exact (qahm _ _ _).trans ((qadm _ _ _ _).trans (qadg _ _ _))
theorem qaps {X : Cx} {s : SSt} {c : qaec} {n t : Nat} {l : List Entry} {e : Entry} (hw : Wk X s ⟨[(t, .ifc 38 (.agg (qaay e)))], hobn c n l, 2⟩) : QFun X [.tmp t] 2 (.ifc 38 (.agg (qaay e))) (hobn c n l) .ret s := ⟨_, hw, by simp [qaf2, resL, resV, one_, gets], ⟨rfl, rfl, trivial⟩, by simp⟩
theorem qbal (c : qaec) (n : Nat) (l : List Entry) (hl : l.length = n) (q : Nat) (hq : 2 ≤ q) : SCalls Tryz.prog 163 [.own 1 n] (hobn c n l) q (.int .i64 n) (hobn c n l) := by subst hl; exact rlen_s c l q hq
theorem rpop_n (c : qaec) (n : Nat) (l L : List Entry) (x : Entry) (h : l = L ++ [x]) (hl : L.length = n) (hb : n + 1 ≤ 1000000) (q : Nat) (hq : 2 ≤ q) : SCalls Tryz.prog 167 [.ptr 0 (hoff c)] (hobn c (n + 1) l) q (.ifc 38 (.agg (qaay x))) (hobn c n L) := by
 subst h hl
 have := rpop_s c L x hb q hq
 rw [qad0 (c := c) (n := L.length + 1) (l := L ++ [x]) (by simp)] at this
 exact this
theorem up_n (c : qaec) (n : Nat) (l : List Entry) (hl : l.length = n) (j : Nat) (hj : j < n) (hb : n ≤ 1000000) (hs : ∀ x ∈ l, qade x) (q : Nat) (hq : 2 ≤ q) : SCalls Tryz.prog 157 [.ifc 176 (.ptr 0 (hoff c)), .int .i64 j] (hobn c n l) q (.tup []) (hobn c n (upL (j + 1) l j)) := by
 have := up_s c l j (by omega) (by omega) hs q hq
 rw [qad0 hl, qad0 (c := c) (n := n) (l := upL (j + 1) l j) (by rw [(qahm _ _ _).length_eq, hl])] at this
 exact this
theorem down_n (c : qaec) (N : Nat) (l : List Entry) (hl : l.length = N) (i n : Nat) (hn : n ≤ N) (hi : i ≤ N) (hb : N ≤ 1000000) (hs : ∀ x ∈ l, qade x) (q : Nat) (hq : 2 ≤ q) : SCalls Tryz.prog 158 [.ifc 176 (.ptr 0 (hoff c)), .int .i64 i, .int .i64 n] (hobn c N l) q (.bool (decide (i < (qaez (n - i + 1) l i n).2))) (hobn c N (qaez (n - i + 1) l i n).1) := by
 have := down_s c l i n (by omega) (by omega) (by omega) hs q hq
 rw [qad0 hl, qad0 (c := c) (n := N) (l := (qaez (n - i + 1) l i n).1) (by rw [(qadm _ _ _ _).length_eq, hl])] at this
 exact this
theorem hpop_s (c : qaec) (l L : List Entry) (x : Entry) (h : popL l = L ++ [x]) (hb : l.length ≤ 1000000) (hs : ∀ x ∈ l, qade x) (q : Nat) (hq : 2 ≤ q) : SCalls Tryz.prog 152 [.ifc 176 (.ptr 0 (hoff c))] (hobj c l) q (.ifc 38 (.agg (qaay x))) (hobj c L) := by
 refine h_up ?_ q hq rfl rfl rfl
 have hl : l.length = L.length + 1 := by rw [← (qaeg l).length_eq, h]; simp
 unfold popL at h
 generalize hn : L.length = n at hl
 rw [hl, Nat.add_sub_cancel] at h
 rw [qad0 hl, qad0 hn]
 have k1 := fun q hq => qbal c (n + 1) l hl q hq
 have k2 := fun q hq => qao7 c (n + 1) l hl 0 n (by omega) (by omega) q hq
 have hsl : (qaeb l 0 n).length = n + 1 := by rw [qaed, hl]
 have hss : ∀ e ∈ qaeb l 0 n, qade e := fun e he => hs e ((qadg _ _ _).mem_iff.1 he)
 have k3 := fun q hq => down_n c (n + 1) (qaeb l 0 n) hsl 0 n (by omega) (by omega) (by omega) hss q hq
 rw [h] at k3
 have k4 := fun q hq => rpop_n c n (L ++ [x]) L x rfl hn (by omega) q hq
 generalize decide (0 < (qaez (n - 0 + 1) (qaeb l 0 n) 0 n).2) = y at k3
 generalize qaeb l 0 n = l1 at k2 k3
 generalize L ++ [x] = l2 at k3 k4
 have w1 : IntKind.i64.wrap (n : Int) = n := qafz _ (by omega) (by omega)
 clear h hs hss hsl
 replace hl := Lib.hid hl
 replace hn := Lib.hid hn
 refine qaai (N := 15) Tryz.func152 rfl rfl (by kernel_rfl) qart (by simp) (by repeat' (first | exact trivial | refine And.intro ?_ ?_ | rfl | decide | exact PureR.ren _)) (qait c (n + 1) l) ?_
 rintro X hP hN hm
 unfold c_hpop
 repeat' (first | ((with_reducible first | refine qaao ?_ | refine qaal (by rw [hP]; exact mixed) ?_); (try rw [hP]); simp -implicitDefEqProofs [w1, *]) | ((with_reducible first | refine qaah ?_ | refine qaak ?_); (try simp -implicitDefEqProofs [w1, *])) | ((with_reducible refine qaaa (fun h => ?_) (fun h => ?_)) <;> have h' := h <;> (try simp at h') <;> (try subst h') <;> simp -implicitDefEqProofs [w1, *]) | ((with_reducible refine qaan ?_ ?_); (first | omega | (unfold maxLen; omega)); simp -implicitDefEqProofs [w1, *]) | refine yA ?_ | with_reducible refine yB ?_ ?_ | ((with_reducible refine yC fun h => ?_); have h' := h; (try simp at h'); (try subst h')) | (refine qadn [(0, .cells (hty c) (hcs c (n + 1)))] ⟨rfl, trivial⟩ (qadp m_len) (k1 _ (by simp)) ⟨rfl, rfl, trivial⟩ ⟨rfl, rfl, trivial⟩ [] (by simp) ?_; simp -implicitDefEqProofs [w1, *]) | (refine qadn [(0, .cells (hty c) (hcs c (n + 1)))] ⟨rfl, trivial⟩ (qadp qank) (k2 _ (by simp)) ⟨rfl, rfl, trivial⟩ ⟨rfl, rfl, trivial⟩ [] (by simp) ?_; simp -implicitDefEqProofs [w1, *]) | (refine qaeq (k3 _ (by simp)) ⟨rfl, rfl, trivial⟩ ⟨rfl, rfl, trivial⟩ [] (by simp) ?_; simp -implicitDefEqProofs [w1, *]) | (refine qadn [] trivial (qagp m_pop qbdy) (k4 _ (by simp)) ⟨rfl, rfl, trivial⟩ ⟨rfl, rfl, trivial⟩ [] (by simp) ?_; simp -implicitDefEqProofs [w1, *]) | exact yD | refine yE ?_ | ((refine qaps ?_)) | (exact qadd _ _ rfl) | exact trivial)
theorem hrem_s (c : qaec) (l L : List Entry) (i : Nat) (hi : i < l.length) (x : Entry) (h : remL l i = L ++ [x]) (hb : l.length ≤ 1000000) (hs : ∀ x ∈ l, qade x) (q : Nat) (hq : 2 ≤ q) : SCalls Tryz.prog 153 [.ifc 176 (.ptr 0 (hoff c)), .int .i64 i] (hobj c l) q (.ifc 38 (.agg (qaay x))) (hobj c L) := by
 refine h_up ?_ q hq rfl rfl rfl
 have hl : l.length = L.length + 1 := by rw [← (qaf3 l i).length_eq, h]; simp
 unfold remL at h
 generalize hn : L.length = n at hl
 rw [hl, Nat.add_sub_cancel] at h
 rw [qad0 hl, qad0 hn]
 have w1 : IntKind.i64.wrap (n : Int) = n := qafz _ (by omega) (by omega)
 have k1 := fun q hq => qbal c (n + 1) l hl q hq
 have k4 := fun q hq => rpop_n c n (L ++ [x]) L x rfl hn (by omega) q hq
 by_cases hni : n = i
 ·rw [if_pos hni] at h
  subst hni
  rw [← h] at k4
  clear h hs
  replace hl := Lib.hid hl
  replace hn := Lib.hid hn
  refine qaai (N := 26) Tryz.func153 rfl rfl (by kernel_rfl) qagz (by simp) (by repeat' (first | exact trivial | refine And.intro ?_ ?_ | rfl | decide | exact PureR.ren _)) (qait c (n + 1) l) ?_
  rintro X hP hN hm
  unfold c_hrem
  repeat' (first | ((with_reducible first | refine qaao ?_ | refine qaal (by rw [hP]; exact mixed) ?_); (try rw [hP]); simp -implicitDefEqProofs [w1, *]) | ((with_reducible first | refine qaah ?_ | refine qaak ?_); (try simp -implicitDefEqProofs [w1, *])) | ((with_reducible refine qaaa (fun h => ?_) (fun h => ?_)) <;> have h' := h <;> (try simp at h') <;> (try subst h') <;> simp -implicitDefEqProofs [w1, *]) | ((with_reducible refine qaan ?_ ?_); (first | omega | (unfold maxLen; omega)); simp -implicitDefEqProofs [w1, *]) | refine yA ?_ | with_reducible refine yB ?_ ?_ | ((with_reducible refine yC fun h => ?_); have h' := h; (try simp at h'); (try subst h')) | (refine qadn [(0, .cells (hty c) (hcs c (n + 1)))] ⟨rfl, trivial⟩ (qadp m_len) (k1 _ (by simp)) ⟨rfl, rfl, trivial⟩ ⟨rfl, rfl, trivial⟩ [] (by simp) ?_; simp -implicitDefEqProofs [w1, *]) | (refine qadn [] trivial (qagp m_pop qbdy) (k4 _ (by simp)) ⟨rfl, rfl, trivial⟩ ⟨rfl, rfl, trivial⟩ [] (by simp) ?_; simp -implicitDefEqProofs [w1, *]) | exact yD | refine yE ?_ | ((refine qaps ?_)) | (exact qadd _ _ rfl) | exact trivial)
 ·rw [if_neg hni] at h
  have k2 := fun q hq => qao7 c (n + 1) l hl i n (by omega) (by omega) q hq
  have hsl : (qaeb l i n).length = n + 1 := by rw [qaed, hl]
  have hss : ∀ e ∈ qaeb l i n, qade e := fun e he => hs e ((qadg _ _ _).mem_iff.1 he)
  have k3 := fun q hq => down_n c (n + 1) (qaeb l i n) hsl i n (by omega) (by omega) (by omega) hss q hq
  have hdl : (qaez (n - i + 1) (qaeb l i n) i n).1.length = n + 1 := by rw [(qadm _ _ _ _).length_eq, hsl]
  have hds : ∀ e ∈ (qaez (n - i + 1) (qaeb l i n) i n).1, qade e := fun e he => hss e ((qadm _ _ _ _).mem_iff.1 he)
  generalize qaeb l i n = l1 at k2 k3 h hdl hds
  generalize qaez (n - i + 1) l1 i n = d at k3 h hdl hds
  have k5 := fun q hq => up_n c (n + 1) d.1 hdl i (by omega) (by omega) hds q hq
  have hb1 : ((n : Int) == (i : Int)) = false := by simp; omega
  generalize d.1 = l2 at k3 k5 h
  clear hs hsl hss hdl hds
  replace hl := Lib.hid hl
  replace hn := Lib.hid hn
  by_cases hy : i < d.2
  ·rw [if_pos hy] at h
   rw [decide_eq_true hy] at k3
   rw [← h] at k4
   clear k5 hy h
   refine qaai (N := 26) Tryz.func153 rfl rfl (by kernel_rfl) qagz (by simp) (by repeat' (first | exact trivial | refine And.intro ?_ ?_ | rfl | decide | exact PureR.ren _)) (qait c (n + 1) l) ?_
   rintro X hP hN hm
   unfold c_hrem
   repeat' (first | ((with_reducible first | refine qaao ?_ | refine qaal (by rw [hP]; exact mixed) ?_); (try rw [hP]); simp -implicitDefEqProofs [w1, hb1, hni, *]) | ((with_reducible first | refine qaah ?_ | refine qaak ?_); (try simp -implicitDefEqProofs [w1, hb1, hni, *])) | ((with_reducible refine qaaa (fun h => ?_) (fun h => ?_)) <;> have h' := h <;> (try simp at h') <;> (try subst h') <;> simp -implicitDefEqProofs [w1, hb1, hni, *]) | ((with_reducible refine qaan ?_ ?_); (first | omega | (unfold maxLen; omega)); simp -implicitDefEqProofs [w1, hb1, hni, *]) | refine yA ?_ | with_reducible refine yB ?_ ?_ | ((with_reducible refine yC fun h => ?_); have h' := h; (try simp at h'); (try subst h')) | (refine qadn [(0, .cells (hty c) (hcs c (n + 1)))] ⟨rfl, trivial⟩ (qadp m_len) (k1 _ (by simp)) ⟨rfl, rfl, trivial⟩ ⟨rfl, rfl, trivial⟩ [] (by simp) ?_; simp -implicitDefEqProofs [w1, hb1, hni, *]) | (refine qadn [(0, .cells (hty c) (hcs c (n + 1)))] ⟨rfl, trivial⟩ (qadp qank) (k2 _ (by simp)) ⟨rfl, rfl, trivial⟩ ⟨rfl, rfl, trivial⟩ [] (by simp) ?_; simp -implicitDefEqProofs [w1, hb1, hni, *]) | (refine qaeq (k3 _ (by simp)) ⟨rfl, rfl, trivial⟩ ⟨rfl, rfl, trivial⟩ [] (by simp) ?_; simp -implicitDefEqProofs [w1, hb1, hni, *]) | (refine qadn [] trivial (qagp m_pop qbdy) (k4 _ (by simp)) ⟨rfl, rfl, trivial⟩ ⟨rfl, rfl, trivial⟩ [] (by simp) ?_; simp -implicitDefEqProofs [w1, hb1, hni, *]) | exact yD | refine yE ?_ | ((refine qaps ?_)) | (exact qadd _ _ rfl) | exact trivial)
   all_goals (exfalso; omega)
  ·rw [if_neg hy] at h
   rw [decide_eq_false hy] at k3
   rw [h] at k5
   generalize L ++ [x] = l3 at k4 k5
   clear h hy
   refine qaai (N := 26) Tryz.func153 rfl rfl (by kernel_rfl) qagz (by simp) (by repeat' (first | exact trivial | refine And.intro ?_ ?_ | rfl | decide | exact PureR.ren _)) (qait c (n + 1) l) ?_
   rintro X hP hN hm
   unfold c_hrem
   repeat' (first | ((with_reducible first | refine qaao ?_ | refine qaal (by rw [hP]; exact mixed) ?_); (try rw [hP]); simp -implicitDefEqProofs [w1, hb1, hni, *]) | ((with_reducible first | refine qaah ?_ | refine qaak ?_); (try simp -implicitDefEqProofs [w1, hb1, hni, *])) | ((with_reducible refine qaaa (fun h => ?_) (fun h => ?_)) <;> have h' := h <;> (try simp at h') <;> (try subst h') <;> simp -implicitDefEqProofs [w1, hb1, hni, *]) | ((with_reducible refine qaan ?_ ?_); (first | omega | (unfold maxLen; omega)); simp -implicitDefEqProofs [w1, hb1, hni, *]) | refine yA ?_ | with_reducible refine yB ?_ ?_ | ((with_reducible refine yC fun h => ?_); have h' := h; (try simp at h'); (try subst h')) | (refine qadn [(0, .cells (hty c) (hcs c (n + 1)))] ⟨rfl, trivial⟩ (qadp m_len) (k1 _ (by simp)) ⟨rfl, rfl, trivial⟩ ⟨rfl, rfl, trivial⟩ [] (by simp) ?_; simp -implicitDefEqProofs [w1, hb1, hni, *]) | (refine qadn [(0, .cells (hty c) (hcs c (n + 1)))] ⟨rfl, trivial⟩ (qadp qank) (k2 _ (by simp)) ⟨rfl, rfl, trivial⟩ ⟨rfl, rfl, trivial⟩ [] (by simp) ?_; simp -implicitDefEqProofs [w1, hb1, hni, *]) | (refine qaeq (k3 _ (by simp)) ⟨rfl, rfl, trivial⟩ ⟨rfl, rfl, trivial⟩ [] (by simp) ?_; simp -implicitDefEqProofs [w1, hb1, hni, *]) | (refine qaeq (k5 _ (by simp)) ⟨rfl, rfl, trivial⟩ ⟨rfl, rfl, trivial⟩ [] (by simp) ?_; simp -implicitDefEqProofs [w1, hb1, hni, *]) | (refine qadn [] trivial (qagp m_pop qbdy) (k4 _ (by simp)) ⟨rfl, rfl, trivial⟩ ⟨rfl, rfl, trivial⟩ [] (by simp) ?_; simp -implicitDefEqProofs [w1, hb1, hni, *]) | exact yD | refine yE ?_ | ((refine qaps ?_)) | (exact qadd _ _ rfl) | exact trivial)
   all_goals (exfalso; omega)
end Go.Proofs.YtalejfkholifpaaGreat
namespace Go.Proofs.YtalejfkholifpaaGreat
set_option linter.all false
open Go.RowKit
attribute [local simp] qaas qaar qaad qaag qaae qaaf qaap qaaq qaab qaa5 SOp.run SX.ev putd puts argS upds SOp.touch SSt.keep SSt.skip gets geth puth delh idOf SV.cells? setL qab4 qab5 sbin eq0 eq1 eqL qab0 qabj qabk qaa4 qaat qaac qaau qaa6 qaaj qaam FrzOk qaa9 qaa0 qaa7 qaa8 qaav qaaz qabf qaa1 qaax qaba qaaw frzS frzH frz frz1 frz0 SlotsM ObjsM ObjM rn ren ren1 ren0 qabq qabs qabt qabp qabg qab2 qab1 CoL qabb qabx dels adds idsH qabr
attribute [local irreducible] qab8
def qavc (l : List Entry) (e : Entry) : List Entry := upL (l.length + 1) (l ++ [e]) l.length
theorem qae3 (l : List Entry) (e : Entry) : (qavc l e).Perm (l ++ [e]) := qahm _ _ _
theorem qaik {P : Program} {f : FuncId} {args : List SV} {I1 I2 : AbsI} {r : SV} (h : SCalls P f args [(0, .abs I1)] 1 r [(0, .abs I2)]) (ha : ∀ σ : Nat → Nat, σ 0 = 0 → args.map (Go.Proofs.YtalejfkholifpaaGreat.ren σ) = args) (hr : ∀ σ : Nat → Nat, σ 0 = 0 → Go.Proofs.YtalejfkholifpaaGreat.ren σ r = r) (hk : ok2 r = true) (q : Nat) (hq : 0 < q) : SCalls P f args [(0, .abs I1)] q r [(0, .abs I2)] := by
 have e0 : sg [0] q 0 = 0 := rfl
 exact qac9 [0] h rfl (by simp) (by simp; omega) (ha _ e0).symm ⟨⟨.abs I1, by rw [e0]; simp [geth], rfl⟩, trivial⟩ (by simp [idsH]) (hr _ e0).symm hk ⟨⟨.abs I2, by rw [e0]; simp [geth], rfl⟩, trivial⟩ (by simp [idsH]) (by simp [idsH, e0])
theorem hpush_s (c : qaec) (l : List Entry) (e : Entry) (hl : l.length < 1000000) (hs : ∀ x ∈ l, qade x) (he : qade e) : SCalls Tryz.prog 149 [.ifc 176 (.ptr 0 (hoff c)), .ifc 38 (.agg (qaay e))] [(0, .abs (qad3 c l))] 1 (.tup []) [(0, .abs (qad3 c (qavc l e)))] := by
 have k1 := fun q hq => qaik (rpush_s c l e hl) (fun σ h => by simp [Go.Proofs.YtalejfkholifpaaGreat.ren, ren1, ren0, h, renA, renB, qaay, nums]) (fun σ h => rfl) rfl q hq
 have hn : (l ++ [e]).length = l.length + 1 := by simp
 have hss : ∀ x ∈ l ++ [e], qade x := fun x hx => by
  rcases List.mem_append.1 hx with h | h
  ·exact hs x h
  ·rw [List.mem_singleton.1 h]; exact he
 have k2 := fun q hq => qbal c (l.length + 1) (l ++ [e]) hn q hq
 have k3 := fun q hq => up_n c (l.length + 1) (l ++ [e]) hn l.length (by omega) (by omega) hss q hq
 have w1 : IntKind.i64.wrap (l.length : Int) = l.length := qafz _ (by omega) (by omega)
 have hpl : (qavc l e).length = l.length + 1 := by rw [(qae3 l e).length_eq, hn]
 rw [show upL (l.length + 1) (l ++ [e]) l.length = qavc l e from rfl] at k3
 generalize qavc l e = L2 at k3 hpl
 generalize l.length = n at k2 k3 w1 hpl hn
 generalize l ++ [e] = L1 at k1 k2 k3 hn
 refine qaai (N := 12) Tryz.func149 rfl rfl (by kernel_rfl) qaog (by simp) (by repeat' (first | exact trivial | refine And.intro ?_ ?_ | rfl | decide | exact PureR.ren _)) (by repeat' (first | exact trivial | refine And.intro ?_ ?_ | rfl | decide | exact PureR.ren _)) ?_
 rintro X hP hN hm
 unfold c_hpush
 repeat' (first | ((with_reducible refine qahn (c := .reg false qamf []) ?_)) | refine yA ?_ | with_reducible refine yB ?_ ?_ | ((with_reducible refine yC fun h => ?_); have h' := h; (try simp at h'); (try subst h')) | refine qadn [] trivial (qagp m_push qbdy) (k1 _ (by simp)) ⟨rfl, trivial⟩ ⟨rfl, trivial⟩ [] (by simp) ?_ | exact trivial)
 constructor
 refine qaqe (s' := ⟨[(0, .ifc 176 (.ptr 0 (hoff c)))], [(0, .abs (qad3 c L1))], 1⟩) (qabe [] hm ⟨Co.refl _, trivial⟩ ⟨⟨_, rfl, rfl⟩, trivial⟩ rfl (Nat.le_refl _)) ?_
 refine qae0 (by omega) (by decide) (qagb c L1) fun hh h => ?_
 subst h
 rw [qad0 hn]
 replace hn := Lib.hid hn
 replace hpl := Lib.hid hpl
 repeat' (first | ((with_reducible first | refine qaao ?_ | refine qaal (by rw [hP]; exact mixed) ?_); (try rw [hP]); simp -implicitDefEqProofs [w1, *]) | ((with_reducible first | refine qaah ?_ | refine qaak ?_); (try simp -implicitDefEqProofs [w1, *])) | ((with_reducible refine qaaa (fun h => ?_) (fun h => ?_)) <;> have h' := h <;> (try simp at h') <;> (try subst h') <;> simp -implicitDefEqProofs [w1, *]) | ((with_reducible refine qaan ?_ ?_); (first | omega | (unfold maxLen; omega)); simp -implicitDefEqProofs [w1, *]) | refine yA ?_ | with_reducible refine yB ?_ ?_ | ((with_reducible refine yC fun h => ?_); have h' := h; (try simp at h'); (try subst h')) | (refine qadn [(0, .cells (hty c) (hcs c (n + 1)))] ⟨rfl, trivial⟩ (qadp m_len) (k2 _ (by simp)) ⟨rfl, rfl, trivial⟩ ⟨rfl, rfl, trivial⟩ [] (by simp) ?_; simp -implicitDefEqProofs [w1, *]) | (refine qaeq (k3 _ (by simp)) ⟨rfl, rfl, trivial⟩ ⟨rfl, rfl, trivial⟩ [] (by simp) ?_; simp -implicitDefEqProofs [w1, *]) | exact yD | refine yE ?_ | ((refine qa9r (.inr rfl) hm ?_; rw [qad0 hpl.out])) | (exact qadd _ _ rfl) | exact trivial)
 all_goals trace_state
end Go.Proofs.YtalejfkholifpaaGreat
namespace Go.Proofs.YtalejfkholifpaaGreat
set_option linter.all false
open Go.RowKit
def leE (a b : Entry) : Prop := ordE a b ≤ 0
theorem qape (a b : Entry) : ordE a b = if cmpI a.prio b.prio ≠ 0 then cmpI a.prio b.prio else if cmpL a.keys b.keys ≠ 0 then cmpL a.keys b.keys else cmpL a.masks b.masks := by
 unfold ordE
 simp only [orL]
 split
 ·rfl
 ·split
  ·rfl
  ·split <;> omega
theorem qa2v (a b : Entry) : ordE b a = - ordE a b := by
 rw [qape, qape]
 have h1 := qapz a.prio b.prio
 have h2 := qadb a.keys b.keys
 have h3 := qadb a.masks b.masks
 split <;> (try split) <;> (try split) <;> (try split) <;> omega
theorem qajl (a b : Entry) : ordE a b = 0 ↔ a.prio = b.prio ∧ a.keys = b.keys ∧ a.masks = b.masks := by
 rw [qape]
 have h1 := @qafm a.prio b.prio
 have h2 := qaeu a.keys b.keys
 have h3 := qaeu a.masks b.masks
 constructor
 ·intro h
  split at h
  ·omega
  ·split at h
   ·omega
   ·exact ⟨by omega, h2.1 (by omega), h3.1 h⟩
 ·rintro ⟨e1, e2, e3⟩
  rw [if_neg (by omega), if_neg (by have := h2.2 e2; omega)]
  exact h3.2 e3
theorem qa9j (a b : Entry) : leE a b ↔ a.prio < b.prio ∨ (a.prio = b.prio ∧ (cmpL a.keys b.keys < 0 ∨ (a.keys = b.keys ∧ cmpL a.masks b.masks ≤ 0))) := by
 unfold leE
 rw [qape]
 have h1 := @qafm a.prio b.prio
 have h1' := @qajz a.prio b.prio
 have h2 := qaeu a.keys b.keys
 constructor
 ·intro h
  split at h
  ·exact .inl (by omega)
  ·refine .inr ⟨by omega, ?_⟩
   split at h
   ·exact .inl (by omega)
   ·exact .inr ⟨h2.1 (by omega), h⟩
 ·rintro (h | ⟨h, h3 | ⟨h3, h4⟩⟩)
  ·rw [if_pos (by omega)]; omega
  ·rw [if_neg (by omega), if_pos (by omega)]; omega
  ·rw [if_neg (by omega), if_neg (by have := h2.2 h3; omega)]; exact h4
theorem qahe {a b c : Entry} (h1 : leE a b) (h2 : leE b c) : leE a c := by
 rw [qa9j] at *
 rcases h1 with h1 | ⟨e1, h1 | ⟨f1, h1⟩⟩ <;> rcases h2 with h2 | ⟨e2, h2 | ⟨f2, h2⟩⟩
 ·exact .inl (by omega)
 ·exact .inl (by omega)
 ·exact .inl (by omega)
 ·exact .inl (by omega)
 ·exact .inr ⟨by omega, .inl (qapy h1 (by omega))⟩
 ·exact .inr ⟨by omega, .inl (by rw [← f2]; exact h1)⟩
 ·exact .inl (by omega)
 ·exact .inr ⟨by omega, .inl (by rw [f1]; exact h2)⟩
 ·exact .inr ⟨by omega, .inr ⟨f1.trans f2, qae9 _ _ _ h1 h2⟩⟩
theorem qav9 {a b : Entry} (h : ¬ ordE a b < 0) : leE b a := by
 unfold leE; rw [qa2v a b]; omega
theorem qa25 {a b : Entry} (h : ordE a b < 0) : leE a b := by unfold leE; omega
theorem qav8 (a : Entry) : leE a a := by unfold leE; rw [(qajl a a).2 ⟨rfl, rfl, rfl⟩]; omega
def e0E : Entry := ⟨[], [], 0, 0, 0, []⟩
def atE (l : List Entry) (i : Nat) : Entry := l[i]?.getD e0E
theorem qbdm {l : List Entry} {i : Nat} (h : i < l.length) : atE l i = l[i] := by unfold atE; rw [List.getElem?_eq_getElem h]; rfl
theorem qba9 {l : List Entry} {i j : Nat} (h : qag5 l i j = true) : leE (atE l i) (atE l j) := by
 unfold qag5 at h
 split at h
 ·rename_i a b h1 h2
  unfold atE; rw [h1, h2]; exact qa25 (by simpa using h)
 ·cases h
theorem qbba {l : List Entry} {i j : Nat} (hi : i < l.length) (hj : j < l.length) (h : qag5 l i j = false) : leE (atE l j) (atE l i) := by
 rw [qav6 hi hj] at h
 rw [qbdm hi, qbdm hj]
 exact qav9 (by simpa using h)
theorem qa1p {l : List Entry} {i j : Nat} (hi : i < l.length) (hj : j < l.length) (k : Nat) : atE (qaeb l i j) k = if k = j then atE l i else if k = i then atE l j else atE l k := by
 rw [qam5 hi hj]
 unfold atE
 rw [List.getElem?_set, List.getElem?_set]
 by_cases e1 : k = j
 ·subst e1
  rw [if_pos rfl, if_pos rfl, if_pos (by simpa using hj), List.getElem?_eq_getElem hi]
 ·rw [if_neg (Ne.symm e1), if_neg e1]
  by_cases e2 : k = i
  ·subst e2
   rw [if_pos rfl, if_pos rfl, if_pos hi, List.getElem?_eq_getElem hj]
  ·rw [if_neg (Ne.symm e2), if_neg e2]
def HeapN (n : Nat) (l : List Entry) : Prop := ∀ i, 0 < i → i < n → leE (atE l ((i - 1) / 2)) (atE l i)
def UpP (n : Nat) (l : List Entry) (j : Nat) : Prop := (∀ i, 0 < i → i < n → i ≠ j → leE (atE l ((i - 1) / 2)) (atE l i)) ∧ (0 < j → ∀ i, 0 < i → i < n → (i - 1) / 2 = j → leE (atE l ((j - 1) / 2)) (atE l i))
theorem qam1 : ∀ (f : Nat) (l : List Entry) (j n : Nat), n ≤ l.length → j < n → j < f → UpP n l j → HeapN n (upL f l j) ∧ ∀ k, j < k → atE (upL f l j) k = atE l k
 | f + 1, l, j, n, hn, hj, hf, ⟨h1, h2⟩ => by
  rw [upL]
  by_cases hc : (j - 1) / 2 = j ∨ qag5 l j ((j - 1) / 2) = false
  ·rw [if_pos hc]
   refine ⟨fun i hi hin => ?_, fun _ _ => rfl⟩
   by_cases e : i = j
   ·subst e
    rcases hc with hc | hc
    ·omega
    ·exact qbba (by omega) (by omega) hc
   ·exact h1 i hi hin e
  ·rw [if_neg hc]
   obtain ⟨p, hp⟩ : ∃ p, p = (j - 1) / 2 := ⟨_, rfl⟩
   rw [← hp] at hc ⊢
   have hpj : p < j := by have : p ≠ j := fun e => hc (.inl e); omega
   have hl : leE (atE l j) (atE l p) := qba9 (by cases h : qag5 l j p <;> simp_all)
   have hs := qa1p (l := l) (i := p) (j := j) (by omega) (by omega)
   have ih := qam1 f (qaeb l p j) p n (by rw [qaed]; exact hn) (by omega) (by omega) ⟨fun i hi hin hip => ?_, fun hp0 i hi hin hip => ?_⟩
   ·refine ⟨ih.1, fun k hk => ?_⟩
    rw [ih.2 k (by omega), hs, if_neg (by omega), if_neg (by omega)]
   ·rw [hs, hs]
    by_cases e1 : i = j
    ·subst e1
     rw [← hp, if_neg (by omega), if_pos rfl, if_pos rfl]; exact hl
    ·rw [if_neg e1, if_neg hip]
     by_cases e2 : (i - 1) / 2 = j
     ·rw [if_pos e2, hp]; exact h2 (by omega) i hi hin e2
     ·rw [if_neg e2]
      by_cases e3 : (i - 1) / 2 = p
      ·rw [if_pos e3]
       have := h1 i hi hin e1
       rw [e3] at this
       exact qahe hl this
      ·rw [if_neg e3]; exact h1 i hi hin e1
   ·rw [hs, hs, if_neg (by omega : ¬ (p - 1) / 2 = j), if_neg (by omega : ¬ (p - 1) / 2 = p)]
    have h3 := h1 p hp0 (by omega) (by omega)
    by_cases e1 : i = j
    ·rw [if_pos e1]; exact h3
    ·rw [if_neg e1, if_neg (by omega)]
     have := h1 i hi hin e1
     rw [hip] at this
     exact qahe h3 this
theorem qam7 {l : List Entry} {i n : Nat} (hn : n ≤ l.length) (h : 2 * i + 1 < n) : (sonL l i n - 1) / 2 = i ∧ ∀ k, 0 < k → k < n → (k - 1) / 2 = i → leE (atE l (sonL l i n)) (atE l k) := by
 unfold sonL
 by_cases hc : 2 * i + 1 + 1 < n ∧ qag5 l (2 * i + 1 + 1) (2 * i + 1) = true
 ·rw [if_pos hc]
  refine ⟨by omega, fun k h1 h2 h3 => ?_⟩
  have : k = 2 * i + 1 ∨ k = 2 * i + 1 + 1 := by omega
  rcases this with rfl | rfl
  ·exact qba9 hc.2
  ·exact qav8 _
 ·rw [if_neg hc]
  refine ⟨by omega, fun k h1 h2 h3 => ?_⟩
  have : k = 2 * i + 1 ∨ k = 2 * i + 1 + 1 := by omega
  rcases this with rfl | rfl
  ·exact qav8 _
  ·refine qbba (by omega) (by omega) ?_
   cases h : qag5 l (2 * i + 1 + 1) (2 * i + 1)
   ·rfl
   ·exact absurd ⟨h2, h⟩ hc
theorem qak4 : ∀ (f : Nat) (l : List Entry) (i n i0 : Nat), n ≤ l.length → n - i < f → i0 ≤ i → (∀ k, 0 < k → k < n → (k - 1) / 2 ≠ i → k ≠ i0 → leE (atE l ((k - 1) / 2)) (atE l k)) → (0 < i → ∀ k, 0 < k → k < n → (k - 1) / 2 = i → leE (atE l ((i - 1) / 2)) (atE l k)) →
  (∀ k, 0 < k → k < n → k ≠ i0 → leE (atE (qaez f l i n).1 ((k - 1) / 2)) (atE (qaez f l i n).1 k)) ∧ (∀ k, k < i ∨ n ≤ k → atE (qaez f l i n).1 k = atE l k) ∧ i ≤ (qaez f l i n).2 ∧
   ((qaez f l i n).2 = i → (qaez f l i n).1 = l) ∧ (i < (qaez f l i n).2 → 2 * i + 1 < n ∧ atE (qaez f l i n).1 i = atE l (sonL l i n))
 | f + 1, l, i, n, i0, hn, hf, h0, hA, hB => by
  rw [qaez]
  by_cases hc : n ≤ 2 * i + 1 ∨ qag5 l (sonL l i n) i = false
  ·rw [if_pos hc]
   refine ⟨fun k hk hkn hk0 => ?_, fun k _ => rfl, Nat.le_refl _, fun _ => rfl, fun h => absurd h (Nat.lt_irrefl _)⟩
   by_cases e : (k - 1) / 2 = i
   ·rcases hc with hc | hc
    ·omega
    ·have hin : 2 * i + 1 < n := by omega
     obtain ⟨s1, s2⟩ := qam7 hn hin
     obtain ⟨s3, s4⟩ := qaka l i n hin
     show leE (atE l ((k - 1) / 2)) (atE l k)
     rw [e]
     exact qahe (qbba (i := sonL l i n) (j := i) (by omega) (by omega) hc) (s2 k hk hkn e)
   ·exact hA k hk hkn e hk0
  ·rw [if_neg hc]
   have hin : 2 * i + 1 < n := Nat.lt_of_not_le fun e => hc (.inl e)
   obtain ⟨s1, s2⟩ := qam7 hn hin
   obtain ⟨s3, s4⟩ := qaka l i n hin
   have hl : leE (atE l (sonL l i n)) (atE l i) := qba9 (by cases h : qag5 l (sonL l i n) i <;> simp_all)
   generalize sonL l i n = s at *
   have hs := qa1p (l := l) (i := i) (j := s) (by omega) (by omega)
   have ih := qak4 f (qaeb l i s) s n i0 (by rw [qaed]; exact hn) (by omega) (by omega) (fun k hk hkn hp hk0 => ?_) (fun hs0 k hk hkn hp => ?_)
   ·obtain ⟨q1, q2, q3, q4, q5⟩ := ih
    refine ⟨q1, fun k hk => ?_, by omega, fun h => absurd h (by omega), fun _ => ⟨hin, ?_⟩⟩
    ·rw [q2 k (by omega), hs, if_neg (by omega), if_neg (by omega)]
    ·rw [q2 i (.inl s3), hs, if_neg (by omega), if_pos rfl]
   ·rw [hs, hs]
    by_cases e1 : (k - 1) / 2 = i
    ·rw [e1, if_neg (by omega : ¬ i = s), if_pos rfl]
     by_cases e2 : k = s
     ·rw [if_pos e2]; exact hl
     ·rw [if_neg e2, if_neg (by omega)]; exact s2 k hk hkn e1
    ·have ks : k ≠ s := fun e => by subst e; exact e1 s1
     rw [if_neg ks, if_neg hp, if_neg e1]
     by_cases e2 : k = i
     ·subst e2
      rw [if_pos rfl]; exact hB hk s (by omega) s4 s1
     ·rw [if_neg e2]; exact hA k hk hkn e1 hk0
   ·rw [hs, hs, s1, if_neg (by omega : ¬ i = s), if_pos rfl, if_neg (by omega : ¬ k = s), if_neg (by omega : ¬ k = i)]
    have := hA k hk hkn (by omega) (by omega)
    rw [hp] at this; exact this
def Heap (l : List Entry) : Prop := HeapN l.length l
theorem qbbh : Heap [] := fun i _ h => by simp at h
theorem qa2q {l : List Entry} (h : Heap l) (e : Entry) : Heap (qavc l e) := by
 have hl : (qavc l e).length = l.length + 1 := by rw [(qae3 l e).length_eq]; simp
 unfold Heap
 rw [hl]
 refine (qam1 (l.length + 1) (l ++ [e]) l.length (l.length + 1) (by simp) (by omega) (by omega) ⟨fun i hi hin hne => ?_, fun _ i hi hin hp => ?_⟩).1
 ·have a1 : ∀ k, k < l.length → atE (l ++ [e]) k = atE l k := fun k hk => by unfold atE; rw [List.getElem?_append_left hk]
  rw [a1 _ (by omega), a1 _ (by omega)]
  exact h i hi (by omega)
 ·omega
theorem qai9 {l : List Entry} {k : Nat} (h : k < l.length - 1) : atE l.dropLast k = atE l k := by
 unfold atE; rw [List.getElem?_dropLast, if_pos h]
theorem qakw {l : List Entry} (h : HeapN (l.length - 1) l) : Heap l.dropLast := fun i hi hin => by
 rw [List.length_dropLast] at hin
 rw [qai9 hin, qai9 (by omega)]
 exact h i hi hin
theorem qban {l : List Entry} (h : Heap l) (i : Nat) (hi : i < l.length) : Heap (remL l i).dropLast ∧ atE (remL l i) (l.length - 1) = atE l i := by
 have hl : (remL l i).length = l.length := (qaf3 l i).length_eq
 have key : HeapN (l.length - 1) (remL l i) ∧ atE (remL l i) (l.length - 1) = atE l i := by
  unfold remL
  by_cases e : l.length - 1 = i
  ·rw [if_pos e, e]; exact ⟨fun k hk hkn => h k hk (by omega), rfl⟩
  ·rw [if_neg e]
   have hs := qa1p (l := l) (i := i) (j := l.length - 1) hi (by omega)
   have hA : ∀ k, 0 < k → k < l.length - 1 → (k - 1) / 2 ≠ i → k ≠ i → leE (atE (qaeb l i (l.length - 1)) ((k - 1) / 2)) (atE (qaeb l i (l.length - 1)) k) := fun k hk hkn hp hki => by
    rw [hs, hs, if_neg (by omega), if_neg hp, if_neg (by omega), if_neg hki]
    exact h k hk (by omega)
   have hB : 0 < i → ∀ k, 0 < k → k < l.length - 1 → (k - 1) / 2 = i → leE (atE (qaeb l i (l.length - 1)) ((i - 1) / 2)) (atE (qaeb l i (l.length - 1)) k) := fun h0 k hk hkn hp => by
    rw [hs, hs, if_neg (by omega), if_neg (by omega), if_neg (by omega), if_neg (by omega)]
    have h3 := h k hk (by omega)
    rw [hp] at h3
    exact qahe (h i h0 hi) h3
   have hsl : (qaeb l i (l.length - 1)).length = l.length := qaed _ _ _
   obtain ⟨q1, q2, q3, q4, q5⟩ := qak4 (l.length - 1 - i + 1) (qaeb l i (l.length - 1)) i (l.length - 1) i (by rw [hsl]; omega) (by omega) (Nat.le_refl _) (fun k hk hkn hp hk0 => hA k hk hkn hp hk0) hB
   have hsn := @qam7 (qaeb l i (l.length - 1)) i (l.length - 1) (by rw [hsl]; omega)
   have hsl2 := qaka (qaeb l i (l.length - 1)) i (l.length - 1)
   have hlast : atE (qaeb l i (l.length - 1)) (l.length - 1) = atE l i := by rw [hs, if_pos rfl]
   have hdl : (qaez (l.length - 1 - i + 1) (qaeb l i (l.length - 1)) i (l.length - 1)).1.length = l.length := by rw [(qadm _ _ _ _).length_eq, hsl]
   generalize qaeb l i (l.length - 1) = S at *
   generalize qaez (l.length - 1 - i + 1) S i (l.length - 1) = d at *
   by_cases hm : i < d.2
   ·rw [if_pos hm]
    refine ⟨fun k hk hkn => ?_, by rw [q2 _ (.inr (Nat.le_refl _)), hlast]⟩
    by_cases e1 : k = i
    ·subst e1
     obtain ⟨r1, r2⟩ := q5 hm
     rw [r2, q2 _ (.inl (by omega))]
     exact hB hk _ (by have := hsl2 r1; omega) (hsl2 r1).2 (hsn r1).1
    ·exact q1 k hk hkn e1
   ·rw [if_neg hm]
    have hd := q4 (by omega)
    rw [hd] at q1 hdl ⊢
    obtain ⟨u1, u2⟩ := qam1 (i + 1) S i (l.length - 1) (by omega) (by omega) (by omega) ⟨q1, hB⟩
    exact ⟨u1, by rw [u2 _ (by omega), hlast]⟩
 exact ⟨qakw (by rw [hl]; exact key.1), key.2⟩
theorem qbae {l : List Entry} (h : Heap l) (i : Nat) (e : Entry) (hi : i < l.length) (he : ordE (atE l i) e = 0) : Heap (l.set i e) := by
 have hz := (qajl _ _).1 he
 have q : ∀ k, (atE (l.set i e) k).prio = (atE l k).prio ∧ (atE (l.set i e) k).keys = (atE l k).keys ∧ (atE (l.set i e) k).masks = (atE l k).masks := fun k => by
  by_cases e1 : i = k
  ·subst e1
   have : atE (l.set i e) i = e := by unfold atE; rw [List.getElem?_set, if_pos rfl, if_pos hi]; rfl
   rw [this]; exact ⟨hz.1.symm, hz.2.1.symm, hz.2.2.symm⟩
  ·have : atE (l.set i e) k = atE l k := by unfold atE; rw [List.getElem?_set, if_neg e1]
   rw [this]; exact ⟨rfl, rfl, rfl⟩
 intro k hk hkn
 rw [List.length_set] at hkn
 have := h k hk hkn
 rw [qa9j] at this ⊢
 obtain ⟨a1, a2, a3⟩ := q k
 obtain ⟨b1, b2, b3⟩ := q ((k - 1) / 2)
 rw [a1, a2, a3, b1, b2, b3]; exact this
def qa8s : Nat → List Entry → List Entry
 | 0, _ => []
 | f + 1, l => match (popL l).getLast? with
  | some x => towE x :: qa8s f (popL l).dropLast
  | none => []
def qa8r (l : List Entry) : List Entry := qa8s l.length l
theorem qavh {l : List Entry} (h0 : 0 < l.length) : (popL l).getLast? = some (atE (popL l) (l.length - 1)) ∧ popL l = (popL l).dropLast ++ [atE (popL l) (l.length - 1)] := by
 have hl : (popL l).length = l.length := (qaeg l).length_eq
 rcases List.eq_nil_or_concat (popL l) with h | ⟨L, x, h⟩
 ·rw [h] at hl; simp at hl; omega
 ·have hLl : L.length = l.length - 1 := by rw [h] at hl; simp at hl; omega
  have : atE (popL l) (l.length - 1) = x := by unfold atE; rw [h, ← hLl]; simp
  rw [this, h]; simp
theorem qaj6 : ∀ (f : Nat) (l : List Entry), l.length ≤ f → (qa8s f l).Perm (l.map towE)
 | 0, l, h => by rw [List.eq_nil_of_length_eq_zero (l := l) (by omega)]; exact .refl _
 | f + 1, l, h => by
  rw [qa8s]
  rcases Nat.eq_zero_or_pos l.length with h0 | h0
  ·have : l = [] := List.eq_nil_of_length_eq_zero h0
   subst this
   have hp : popL [] = [] := List.Perm.eq_nil (qaeg [])
   rw [hp]; exact .refl _
  ·obtain ⟨p1, p2⟩ := qavh h0
   have hl : (popL l).length = l.length := (qaeg l).length_eq
   rw [p1]
   refine ((qaj6 f _ (by rw [List.length_dropLast]; omega)).cons _).trans ?_
   refine .trans ?_ ((qaeg l).map towE)
   rw [← List.map_cons]
   refine .map _ ?_
   conv => rhs; rw [p2]
   exact (List.perm_append_singleton _ _).symm
theorem qaui (l : List Entry) : (qa8r l).Perm (l.map towE) := qaj6 _ _ (Nat.le_refl _)
end Go.Proofs.YtalejfkholifpaaGreat
namespace Go.Proofs.YtalejfkholifpaaGreat
set_option linter.all false
open Go.RowKit
attribute [local simp] qaas qaar qaad qaag qaae qaaf qaap qaaq qaab qaa5 SOp.run SX.ev putd puts argS upds SOp.touch SSt.keep SSt.skip gets geth puth delh idOf SV.cells? setL qab4 qab5 sbin eq0 eq1 eqL qab0 qabj qabk qaa4 qaat qaac qaau qaa6 qaaj qaam FrzOk qaa9 qaa0 qaa7 qaa8 qaav qaaz qabf qaa1 qaax qaba qaaw frzS frzH frz frz1 frz0 SlotsM ObjsM ObjM rn ren ren1 ren0 qabq qabs qabt qabp qabg qab2 qab1 CoL qabb qabx dels adds idsH qabr
attribute [local irreducible] qab8
theorem qanm {k m : Int} {l : List Entry} : Lent (hobj (some (k, m)) l) (.ptr 0 0) (.cp (qa8p k m l)) := by
 refine qajr (t := 108) (cs := hcs (some (k, m)) l.length) rfl ⟨qadh _, qadh _, qajq (e := 38) rfl (qaf1 _ _) (by simp), trivial⟩ ?_
 intro x hx
 simp only [qa8p, List.mem_cons, List.not_mem_nil, or_false] at hx
 rcases hx with rfl | rfl | rfl
 ·exact qaes _ _
 ·exact qaes _ _
 ·exact qaf5 _ _
theorem qauf (k m : Int) (l : List Entry) (e : Entry) (he : qade e) (q : Nat) : SCalls Tryz.prog 144 [.ptr 0 0, .agg (qaay e)] (hobj (some (k, m)) l) q (.bool (qag7 k e)) (hobj (some (k, m)) l) :=
 qac3 (tfits_s k m l e he q) ⟨qanm, qadh _, trivial⟩ (qah7 _)
theorem tat_o (k m : Int) (l : List Entry) (e : Entry) (hl : l.length ≤ 1000000) (hs : ∀ x ∈ l, qade x) (he : qade e) (q : Nat) : SCalls Tryz.prog 145 [.ptr 0 0, .agg (qaay e)] (hobj (some (k, m)) l) q (.int .i64 (tatV l e)) (hobj (some (k, m)) l) :=
 qac3 (tat_s k m l e hl hs he q) ⟨qanm, qadh _, trivial⟩ (qaev _ _)
theorem qafq {X : Cx} {s : SSt} {c : qaec} {l : List Entry} {t : Nat} {n : Int} (hm : X.m = 1) (hw : Wk X s ⟨[(t, .int .i64 n)], hobj c l, 2⟩) : QFun X [.tmp t] 1 (.int .i64 n) [(0, .abs (qad3 c l))] .ret s := by
 have h1 : Wk X s ⟨[(t, .int .i64 n)], [(0, .abs (qad3 c l))], 2⟩ := hw.trans (qam0 ⟨rfl, rfl, trivial⟩)
 have h2 : Wk X ⟨[(t, .int .i64 n)], [(0, .abs (qad3 c l))], 2⟩ ⟨[(t, .int .i64 n)], [(0, .abs (qad3 c l))], 1⟩ := qabe [] hm ⟨by simp only [gets, if_true]; exact Co.refl _, trivial⟩ ⟨⟨_, rfl, rfl⟩, trivial⟩ rfl (Nat.le_refl _)
 exact ⟨_, h1.trans h2, by simp [qaf2, resL, resV, one_, gets], ⟨rfl, trivial⟩, by simp⟩
def dropV (k : Int) (l : List Entry) (e : Entry) : Int := if qag7 k e = false then 6 else if tatV l e < 0 then 9 else 0
def qapw (k : Int) (l : List Entry) (e : Entry) : List Entry := if qag7 k e = false then l else if tatV l e < 0 then l else (remL l (tatV l e).toNat).dropLast
theorem qao1 (l : List Entry) (e : Entry) (h : ¬ tatV l e < 0) : ∃ i : Nat, tatV l e = i ∧ i < l.length := by
 unfold tatV idxV at h ⊢
 split at h
 ·rename_i i hi
  exact ⟨i, rfl, (List.findIdx?_eq_some_iff_getElem.1 hi).1⟩
 ·omega
theorem tdrop_s (k m : Int) (l : List Entry) (e : Entry) (hl : l.length ≤ 1000000) (hs : ∀ x ∈ l, qade x) (he : qade e) : SCalls Tryz.prog 142 [.ptr 0 0, .agg (qaay e)] [(0, .abs (qad3 (some (k, m)) l))] 1 (.int .i64 (dropV k l e)) [(0, .abs (qad3 (some (k, m)) (qapw k l e)))] := by
 have k1 := fun q => qauf k m l e he q
 have k2 := fun q => tat_o k m l e hl hs he q
 have hv : dropV k l e = if qag7 k e = false then 6 else if tatV l e < 0 then 9 else 0 := rfl
 have hr : qapw k l e = if qag7 k e = false then l else if tatV l e < 0 then l else (remL l (tatV l e).toNat).dropLast := rfl
 have k3 : ∀ i : Nat, tatV l e = i → i < l.length → ∀ q, 2 ≤ q → SCalls Tryz.prog 153 [.ifc 176 (.ptr 0 2), .int .i64 i] (hobj (some (k, m)) l) q (.ifc 38 (.agg (qaay ((remL l i).getLastD e)))) (hobj (some (k, m)) (remL l i).dropLast) := fun i _ hi q hq =>
  hrem_s (some (k, m)) l (remL l i).dropLast i hi ((remL l i).getLastD e) (by
   have hne : remL l i ≠ [] := by
    intro h0
    have := (qaf3 l i).length_eq
    rw [h0] at this; simp at this; omega
   rcases List.eq_nil_or_concat (remL l i) with h0 | ⟨L', x, h0⟩
   ·exact absurd h0 hne
   ·rw [h0]; simp) hl hs q hq
 have hlt := qao1 l e
 generalize dropV k l e = v at hv
 generalize qapw k l e = r at hr
 generalize qag7 k e = a at k1 hv hr
 generalize tatV l e = b at k2 hv hr hlt k3
 refine qaai (N := 21) Tryz.func142 rfl rfl (by kernel_rfl) qan4 (by simp) (by repeat' (first | exact trivial | refine And.intro ?_ ?_ | rfl | decide | exact PureR.ren _)) (by repeat' (first | exact trivial | refine And.intro ?_ ?_ | rfl | decide | exact PureR.ren _)) ?_
 rintro X hP hN hm
 refine qae0 (by omega) (by decide) (qagb _ l) fun hh h => ?_
 subst h
 unfold c_tdrop
 unfold qaay at k1 k2
 unfold qaay
 unfold hobj at k1 k2 k3
 unfold hobj
 cases a
 ·obtain rfl : v = 6 := by rw [hv, if_pos rfl]
  obtain rfl : r = l := by rw [hr, if_pos rfl]
  clear hlt k2 k3 hv hr
  repeat' (first | refine yA ?_ | with_reducible refine yB ?_ ?_ | ((with_reducible refine yC fun h => ?_); have h' := h; (try simp at h'); (try subst h')) | refine qabv (k1 _) ⟨rfl, rfl, trivial⟩ ⟨rfl, rfl, trivial⟩ ?_ | exact yD | refine yE ?_ | ((refine qafq hm ?_; simp only [hobj])) | (exact qadd _ _ rfl) | exact trivial)
 ·by_cases hb : b < 0
  ·obtain rfl : v = 9 := by rw [hv, if_neg (by decide), if_pos hb]
   obtain rfl : r = l := by rw [hr, if_neg (by decide), if_pos hb]
   clear hlt k3 hv hr
   repeat' (first | refine yA ?_ | with_reducible refine yB ?_ ?_ | ((with_reducible refine yC fun h => ?_); have h' := h; (try simp at h'); (try subst h')) | refine qabv (k1 _) ⟨rfl, rfl, trivial⟩ ⟨rfl, rfl, trivial⟩ ?_ | refine qabv (k2 _) ⟨rfl, rfl, trivial⟩ ⟨rfl, rfl, trivial⟩ ?_ | exact yD | refine yE ?_ | ((refine qafq hm ?_; simp only [hobj])) | (exact qadd _ _ rfl) | exact trivial)
  ·obtain ⟨i, rfl, hi⟩ := hlt hb
   have k4 := k3 i rfl hi
   obtain rfl : v = 0 := by rw [hv, if_neg (by decide), if_neg hb]
   rw [if_neg (by decide), if_neg hb, Int.toNat_natCast] at hr
   rw [← hr] at k4
   generalize (remL l i).getLastD e = x at k4
   clear hlt k3 hv hr
   repeat' (first | refine yA ?_ | with_reducible refine yB ?_ ?_ | ((with_reducible refine yC fun h => ?_); have h' := h; (try simp at h'); (try subst h')) | refine qabv (k1 _) ⟨rfl, rfl, trivial⟩ ⟨rfl, rfl, trivial⟩ ?_ | refine qabv (k2 _) ⟨rfl, rfl, trivial⟩ ⟨rfl, rfl, trivial⟩ ?_ | refine qaeq (k4 _ (by simp)) ⟨rfl, rfl, trivial⟩ ⟨rfl, rfl, trivial⟩ [] (by simp) ?_ | exact yD | refine yE ?_ | ((refine qafq hm ?_; simp only [hobj])) | (exact qadd _ _ rfl) | exact trivial)
def chgR (k : Int) (l : List Entry) (e : Entry) : List Entry := if qag7 k e = false then l else if tatV l e < 0 then l else l.set (tatV l e).toNat (towE e)
theorem tchg_s (k m : Int) (l : List Entry) (e : Entry) (hl : l.length ≤ 1000000) (hs : ∀ x ∈ l, qade x) (he : qade e) : SCalls Tryz.prog 141 [.ptr 0 0, .agg (qaay e)] [(0, .abs (qad3 (some (k, m)) l))] 1 (.int .i64 (dropV k l e)) [(0, .abs (qad3 (some (k, m)) (chgR k l e)))] := by
 have k1 := fun q => qauf k m l e he q
 have k2 := fun q => tat_o k m l e hl hs he q
 have k5 := fun q => qa95 e he q
 have hv : dropV k l e = if qag7 k e = false then 6 else if tatV l e < 0 then 9 else 0 := rfl
 have hr : chgR k l e = if qag7 k e = false then l else if tatV l e < 0 then l else l.set (tatV l e).toNat (towE e) := rfl
 have hlt := qao1 l e
 generalize dropV k l e = v at hv
 generalize chgR k l e = r at hr
 generalize qag7 k e = a at k1 hv hr
 generalize tatV l e = b at k2 hv hr hlt
 generalize towE e = te at k5 hr
 refine qaai (N := 23) Tryz.func141 rfl rfl (by kernel_rfl) qare (by simp) (by repeat' (first | exact trivial | refine And.intro ?_ ?_ | rfl | decide | exact PureR.ren _)) (by repeat' (first | exact trivial | refine And.intro ?_ ?_ | rfl | decide | exact PureR.ren _)) ?_
 rintro X hP hN hm
 refine qae0 (by omega) (by decide) (qagb _ l) fun hh h => ?_
 subst h
 unfold c_tchg
 generalize hz : qaay te = z at k5
 unfold qaay at k1 k2 k5
 rw [show qaay e = [nums .u64 e.keys, nums .u64 e.masks, .int .i64 e.len, .int .i64 e.prio, .int .i64 e.act, nums .u64 e.args] from rfl]
 unfold hobj at k1 k2
 unfold hobj
 cases a
 ·obtain rfl : v = 6 := by rw [hv, if_pos rfl]
  obtain rfl : r = l := by rw [hr, if_pos rfl]
  clear hlt k2 hv hr
  repeat' (first | refine yA ?_ | with_reducible refine yB ?_ ?_ | ((with_reducible refine yC fun h => ?_); have h' := h; (try simp at h'); (try subst h')) | refine qabv (k1 _) ⟨rfl, rfl, trivial⟩ ⟨rfl, rfl, trivial⟩ ?_ | exact yD | refine yE ?_ | ((refine qafq hm ?_; simp only [hobj])) | (exact qadd _ _ rfl) | exact trivial)
 ·by_cases hb : b < 0
  ·obtain rfl : v = 9 := by rw [hv, if_neg (by decide), if_pos hb]
   obtain rfl : r = l := by rw [hr, if_neg (by decide), if_pos hb]
   clear hlt hv hr
   repeat' (first | refine yA ?_ | with_reducible refine yB ?_ ?_ | ((with_reducible refine yC fun h => ?_); have h' := h; (try simp at h'); (try subst h')) | refine qabv (k1 _) ⟨rfl, rfl, trivial⟩ ⟨rfl, rfl, trivial⟩ ?_ | refine qabv (k2 _) ⟨rfl, rfl, trivial⟩ ⟨rfl, rfl, trivial⟩ ?_ | exact yD | refine yE ?_ | ((refine qafq hm ?_; simp only [hobj])) | (exact qadd _ _ rfl) | exact trivial)
  ·obtain ⟨i, rfl, hi⟩ := hlt hb
   obtain rfl : v = 0 := by rw [hv, if_neg (by decide), if_neg hb]
   rw [if_neg (by decide), if_neg hb, Int.toNat_natCast] at hr
   have hrl : r.length = l.length := by rw [hr]; simp
   have hrr : r.map qaay = (l.map qaay).set i z := by rw [hr, ← hz]; simp
   have hz6 : z.length = 6 := by rw [← hz]; rfl
   have hzs : ∀ x : Entry, setL (qaay x) 0 z = z := fun x => by rw [← hz]; rfl
   clear hlt hv hr hz
   replace hrl := Lib.hid hrl
   replace hrr := Lib.hid hrr
   repeat' (first | ((with_reducible first | refine qaao ?_ | refine qaal (by rw [hP]; exact mixed) ?_); (try rw [hP]); simp -implicitDefEqProofs [List.getElem?_eq_getElem hi, qac0, qab6, hz6, hzs, *]) | ((with_reducible first | refine qaah ?_ | refine qaak ?_); (try simp -implicitDefEqProofs [List.getElem?_eq_getElem hi, qac0, qab6, hz6, hzs, *])) | ((with_reducible refine qaaa (fun h => ?_) (fun h => ?_)) <;> have h' := h <;> (try simp at h') <;> (try subst h') <;> simp -implicitDefEqProofs [List.getElem?_eq_getElem hi, qac0, qab6, hz6, hzs, *]) | ((with_reducible refine qaan ?_ ?_); (first | omega | (unfold maxLen; omega)); simp -implicitDefEqProofs [List.getElem?_eq_getElem hi, qac0, qab6, hz6, hzs, *]) | refine yA ?_ | with_reducible refine yB ?_ ?_ | ((with_reducible refine yC fun h => ?_); have h' := h; (try simp at h'); (try subst h')) | (refine qabv (k1 _) ⟨rfl, rfl, trivial⟩ ⟨rfl, rfl, trivial⟩ ?_; simp -implicitDefEqProofs [List.getElem?_eq_getElem hi, qac0, qab6, hz6, hzs, *]) | (refine qabv (k2 _) ⟨rfl, rfl, trivial⟩ ⟨rfl, rfl, trivial⟩ ?_; simp -implicitDefEqProofs [List.getElem?_eq_getElem hi, qac0, qab6, hz6, hzs, *]) | (refine qabo (k5 _) ?_; simp -implicitDefEqProofs [List.getElem?_eq_getElem hi, qac0, qab6, hz6, hzs, *]) | exact yD | refine yE ?_ | ((refine qafq hm ?_; simp only [hobj])) | (exact qadd _ _ rfl) | exact trivial)
   all_goals first | (rw [hrl.out]; exact qadd _ _ rfl) | exact hrr.out.symm
end Go.Proofs.YtalejfkholifpaaGreat
namespace Go.Proofs.YtalejfkholifpaaGreat
set_option linter.all false
open Go.RowKit
attribute [local simp] qaas qaar qaad qaag qaae qaaf qaap qaaq qaab qaa5 SOp.run SX.ev putd puts argS upds SOp.touch SSt.keep SSt.skip gets geth puth delh idOf SV.cells? setL qab4 qab5 sbin eq0 eq1 eqL qab0 qabj qabk qaa4 qaat qaac qaau qaa6 qaaj qaam FrzOk qaa9 qaa0 qaa7 qaa8 qaav qaaz qabf qaa1 qaax qaba qaaw frzS frzH frz frz1 frz0 SlotsM ObjsM ObjM rn ren ren1 ren0 qabq qabs qabt qabp qabg qab2 qab1 CoL qabb qabx dels adds idsH qabr
theorem fin_ghn {X : Cx} {s : SSt} {c : qaec} {l : List Entry} {t : Nat} (hm : X.m = 0) (hw : Wk X s ⟨[(t, .ptr 0 0)], hobj c l, 2⟩) : QFun X [.tmp t] 0 (.ptr 0 0) [(0, .abs (qad3 c l))] .ret s := by
 have h1 : Wk X s ⟨[(t, .ptr 0 0)], [(0, .abs (qad3 c l))], 2⟩ := hw.trans (qam0 ⟨rfl, rfl, trivial⟩)
 have h2 : Wk X ⟨[(t, .ptr 0 0)], [(0, .abs (qad3 c l))], 2⟩ ⟨[(t, .ptr 0 0)], [(0, .abs (qad3 c l))], 1⟩ := qabe [] hm ⟨by simp only [gets, if_true]; exact Co.refl _, trivial⟩ ⟨⟨_, rfl, rfl⟩, trivial⟩ rfl (Nat.zero_le _)
 exact ⟨_, h1.trans h2, by simp [qaf2, resL, resV, one_, gets], ⟨rfl, trivial⟩, by simp⟩
theorem tnew_s (k m : Int) : SCalls Tryz.prog 35 [.int .i64 k, .int .i64 m] [] 0 (.ptr 0 0) [(0, .abs (qad3 (some (k, m)) []))] := by
 refine qaai (N := 9) Tryz.func35 rfl rfl (by kernel_rfl) qarc (by simp) (by repeat' (first | exact trivial | refine And.intro ?_ ?_ | rfl | decide | exact PureR.ren _)) (by repeat' (first | exact trivial | refine And.intro ?_ ?_ | rfl | decide | exact PureR.ren _)) ?_
 rintro X hP hN hm
 unfold c_tnew
 repeat' (first | refine yA ?_ | with_reducible refine yB ?_ ?_ | ((with_reducible refine yC fun h => ?_); have h' := h; (try simp at h'); (try subst h')) | exact trivial)
 refine qava (qaoy 4 2 38 6 rfl rfl) ?_
 exact fin_ghn hm (qabe [(0, 4), (1, 6)] hm ⟨Co.refl _, trivial⟩ ⟨⟨_, rfl, rfl, CoL.refl _⟩, ⟨_, rfl, rfl, rfl, CoLL.refl _⟩, trivial⟩ rfl (Nat.zero_le _))
end Go.Proofs.YtalejfkholifpaaGreat
namespace Go.Proofs.YtalejfkholifpaaGreat
set_option linter.all false
open Go.RowKit
attribute [local simp] qaas qaar qaad qaag qaae qaaf qaap qaaq qaab qaa5 SOp.run SX.ev putd puts argS upds SOp.touch SSt.keep SSt.skip gets geth puth delh idOf SV.cells? setL qab4 qab5 sbin eq0 eq1 eqL qab0 qabj qabk qaa4 qaat qaac qaau qaa6 qaaj qaam FrzOk qaa9 qaa0 qaa7 qaa8 qaav qaaz qabf qaa1 qaax qaba qaaw frzS frzH frz frz1 frz0 SlotsM ObjsM ObjM rn ren ren1 ren0 qabq qabs qabt qabp qabg qab2 qab1 CoL qabb qabx dels adds idsH qabr
theorem tlen_s (k m : Int) (l : List Entry) (q : Nat) : SCalls Tryz.prog 132 [.cp (qa8p k m l)] [] q (.int .i64 l.length) [] := by
 refine qabm ?_ (fun _ => rfl) (fun _ => rfl) rfl q
 refine qaai (N := 8) Tryz.func132 rfl rfl (by kernel_rfl) qard (by simp) (by repeat' (first | exact trivial | refine And.intro ?_ ?_ | rfl | decide | exact PureR.ren _)) (by repeat' (first | exact trivial | refine And.intro ?_ ?_ | rfl | decide | exact PureR.ren _)) ?_
 rintro X hP hN hm
 unfold c_tlen qa8p
 repeat' (first | refine yA ?_ | with_reducible refine yB ?_ ?_ | ((with_reducible refine yC fun h => ?_); have h' := h; (try simp at h'); (try subst h')) | ((refine qace hm ?_ (fun σ => rfl))) | exact trivial)
 all_goals simp
theorem tlen_o (k m : Int) (l : List Entry) (q : Nat) : SCalls Tryz.prog 132 [.ptr 0 0] (hobj (some (k, m)) l) q (.int .i64 l.length) (hobj (some (k, m)) l) :=
 qac3 (tlen_s k m l q) ⟨qanm, trivial⟩ (qaev _ _)
theorem conf_o (g : FuncId) (b : Entry) (l : List Entry) (p : Entry → Bool) (c : qaec) (id : Nat) (h2 : 2 ≤ id) (hl : l.length ≤ 1000000) (hg : AskC g b l p) (q : Nat) : SCalls Tryz.prog 146 [.own 1 l.length, .fn (.func g) [] [.ptr id 0]] (hobj c l ++ [(id, .cells 38 (qaay b))]) q (.bool (decide (0 ≤ idxV l p))) (hobj c l ++ [(id, .cells 38 (qaay b))]) :=
 qac3 (conf_s g b l p hl hg q) ⟨qajq (e := 38) rfl (qaf1 _ _) (by simp), qa9h ⟨qajr (t := 38) (cs := qaay b) (by unfold hobj; simp only [List.cons_append, List.nil_append, geth]; rw [if_neg (by omega), if_neg (by omega), if_pos trivial]) (qahy _) (qavf b), trivial⟩, trivial⟩ (qah7 _)
end Go.Proofs.YtalejfkholifpaaGreat
namespace Go.Proofs.YtalejfkholifpaaGreat
set_option linter.all false
open Go.RowKit
instance : PureR ([] : List (List SV)) := ⟨fun _ => rfl, fun x hx => (by cases hx), fun x hx => (by cases hx)⟩
theorem qfun_wk {X : Cx} {rs : List ResultVar} {m : Nat} {r : SV} {h2 : Hp} {s s1 : SSt} (hw : Wk X s s1) (h : QFun X rs m r h2 .ret s1) : QFun X rs m r h2 .ret s := by
 obtain ⟨s', h1, h2, h3, h4⟩ := h
 exact ⟨s', hw.trans h1, h2, h3, h4⟩
end Go.Proofs.YtalejfkholifpaaGreat
namespace Go.Proofs.YtalejfkholifpaaGreat
set_option linter.all false
open Go.RowKit
attribute [local simp] qaas qaar qaad qaag qaae qaaf qaap qaaq qaab qaa5 SOp.run SX.ev putd puts argS upds SOp.touch SSt.keep SSt.skip gets geth puth delh idOf SV.cells? setL qab4 qab5 sbin eq0 eq1 eqL qab0 qabj qabk qaa4 qaat qaac qaau qaa6 qaaj qaam FrzOk qaa9 qaa0 qaa7 qaa8 qaav qaaz qabf qaa1 qaax qaba qaaw frzS frzH frz frz1 frz0 SlotsM ObjsM ObjM rn ren ren1 ren0 qabq qabs qabt qabp qabg qab2 qab1 CoL qabb qabx dels adds idsH qabr
theorem qajv {X : Cx} {sl : Sl} {hp : Hp} {t nx id e z n e' z' : Nat} {es fs : List (List SV)} [PureR es] [PureR fs] (hm : X.m = 1) (hne : id ≠ 0) (hv : gets sl t = .own id n) (h0 : geth hp 0 = some (.row e' z' fs)) (h1 : geth hp id = some (.row e z es)) : QFun X [.tmp t] 1 (.own 1 n) [(0, .row e' z' fs), (1, .row e z es)] .ret ⟨sl, hp, nx⟩ := by
 have hw : Wk X ⟨sl, hp, nx⟩ ⟨[(t, .own 1 n)], [(0, .row e' z' fs), (1, .row e z es)], 2⟩ := by
  refine qabe [(1, id)] hm ⟨?_, trivial⟩ ⟨⟨_, h0, rfl, rfl, ?_⟩, ⟨_, h1, rfl, rfl, ?_⟩, trivial⟩ ?_ (by simp)
  ·rw [hv]; exact Co.refl _
  ·rw [PureR.ren]; exact CoLL.refl _
  ·rw [PureR.ren]; exact CoLL.refl _
  ·simp [qabr, diag, idsH, hne, Ne.symm hne, List.range_succ]
 exact ⟨_, hw, by simp [qaf2, resL, resV, one_, gets], ⟨rfl, rfl, trivial⟩, by simp⟩
theorem clrow_1 (l : List Entry) (hl : l.length ≤ 1000000) : SCalls Tryz.prog 151 [.own 0 l.length] [(0, .row 38 6 (l.map qaay))] 1 (.own 1 l.length) [(0, .row 38 6 (l.map qaay)), (1, .row 38 6 (l.map qaay))] := by
 rcases l with _ | ⟨x, l⟩
 ·refine qaai (N := 8) Tryz.func151 rfl rfl (by kernel_rfl) qah4 (by simp) (by repeat' (first | exact trivial | refine And.intro ?_ ?_ | rfl | decide | exact PureR.ren _)) ⟨by decide, rfl, trivial⟩ ?_
  rintro X hP hN hm
  unfold c_clrow
  refine qa99 0 0 rfl ?_ ?_
  ·show SWp _ _ _ ⟨[(0, .nilsl)], _, _⟩
   repeat' (first | refine yA ?_ | with_reducible refine yB ?_ ?_ | ((with_reducible refine yC fun h => ?_); have h' := h; (try simp at h'); (try subst h')) | exact yD | refine yE ?_ | ((refine qfun_wk (qajc 2 38 6 rfl) ?_; simp only [zT, puth, Nat.reduceEqDiff, reduceIte, Nat.reduceAdd]; exact qajv hm (by decide) rfl rfl rfl)) | exact trivial)
   all_goals trace_state
  ·show SWp _ _ _ ⟨[(0, .mt)], _, _⟩
   repeat' (first | refine yA ?_ | with_reducible refine yB ?_ ?_ | ((with_reducible refine yC fun h => ?_); have h' := h; (try simp at h'); (try subst h')) | ((exact qajv hm (by decide) rfl rfl rfl)) | exact trivial)
   all_goals trace_state
 ·refine qaai (N := 8) Tryz.func151 rfl rfl (by kernel_rfl) qah4 (by simp) (by repeat' (first | exact trivial | refine And.intro ?_ ?_ | rfl | decide | exact PureR.ren _)) ⟨by decide, qabz _ _ _, trivial⟩ ?_
  rintro X hP hN hm
  have hb : (x :: l).length ≤ maxLen := by unfold maxLen; omega
  simp only [List.length_cons] at hl hb
  unfold c_clrow
  repeat' (first | refine yA ?_ | with_reducible refine yB ?_ ?_ | ((with_reducible refine yC fun h => ?_); have h' := h; (try simp at h'); (try subst h')) | exact trivial)
  show QFun X [.tmp 2] 1 (.own 1 (l.length + 1)) [(0, .row 38 6 ((x :: l).map qaay)), (1, .row 38 6 ((x :: l).map qaay))] .ret ⟨_, [(0, .row 38 6 ((x :: l).map qaay)), (6, .row 38 6 ((x :: l).map qaay))], _⟩
  exact qajv hm (by decide) rfl rfl rfl
theorem clrow_o (l : List Entry) (hl : l.length ≤ 1000000) (a q : Nat) (ha : a < q) : SCalls Tryz.prog 151 [.own a l.length] [(a, .row 38 6 (l.map qaay))] q (.own q l.length) [(a, .row 38 6 (l.map qaay)), (q, .row 38 6 (l.map qaay))] := by
 have e0 : sg [a] q 0 = a := rfl
 have e1 : sg [a] q 1 = q := rfl
 exact qac9 [a] (clrow_1 l hl) rfl (by simp) (by simp; omega) (by simp [Go.Proofs.YtalejfkholifpaaGreat.ren, ren1, ren0, e0]) ⟨⟨.row 38 6 (l.map qaay), by rw [e0]; simp [geth], rfl, rfl, by rw [qabz]; exact CoLL.refl _⟩, trivial⟩ (by simp [idsH]) (by simp [Go.Proofs.YtalejfkholifpaaGreat.ren, ren1, ren0, e1]) rfl ⟨⟨.row 38 6 (l.map qaay), by rw [e0]; simp [geth], rfl, rfl, qain _ _, (qabz _ _ _).symm⟩, ⟨.row 38 6 (l.map qaay), by rw [e1]; simp [geth], rfl, rfl, qain _ _, (qabz _ _ _).symm⟩, trivial⟩ (by simp [idsH]) (by simp [idsH, e0, e1])
theorem hpop_r (l L : List Entry) (x : Entry) (h : popL l = L ++ [x]) (hb : l.length ≤ 1000000) (hs : ∀ x ∈ l, qade x) (a b q : Nat) (hab : a ≠ b) (ha : a < q) (hbq : b < q) : SCalls Tryz.prog 152 [.ifc 176 (.ptr a 0)] [(a, .cells 106 [.own b l.length]), (b, .row 38 6 (l.map qaay))] q (.ifc 38 (.agg (qaay x))) [(a, .cells 106 [.own b L.length]), (b, .row 38 6 (L.map qaay))] := by
 have e0 : sg [a, b] q 0 = a := rfl
 have e1 : sg [a, b] q 1 = b := rfl
 have h0 := hpop_s none l L x h hb hs 2 (Nat.le_refl _)
 have g0 : ∀ o p : SObj, geth [(a, o), (b, p)] b = some p := fun o p => by simp [geth, hab]
 exact qac9 [a, b] h0 rfl (by simp [hab]) (by simp; omega) (by simp [Go.Proofs.YtalejfkholifpaaGreat.ren, ren1, ren0, renA, renB, e0, hoff]) ⟨⟨.cells 106 [.own b l.length], by rw [e0]; simp [geth], rfl, by simp [hcs, Go.Proofs.YtalejfkholifpaaGreat.ren, ren1, ren0, e1]⟩, ⟨.row 38 6 (l.map qaay), by rw [e1]; exact g0 _ _, rfl, rfl, by rw [qabz]; exact CoLL.refl _⟩, trivial⟩ (by simp [idsH, hobj]) (by rfl) rfl ⟨⟨.cells 106 [.own b L.length], by rw [e0]; simp [geth], rfl, rfl, by simp [hcs, Go.Proofs.YtalejfkholifpaaGreat.ren, ren1, ren0, e1]⟩, ⟨.row 38 6 (L.map qaay), by rw [e1]; exact g0 _ _, rfl, rfl, qain _ _, (qabz _ _ _).symm⟩, trivial⟩ (by simp [idsH, hobj]) (by simp [idsH, hobj, e0, e1])
theorem fin_ghw {X : Cx} {s : SSt} {c : qaec} {l : List Entry} {t z : Nat} {es : List (List SV)} (hw : Wk X s ⟨[(t, .view z es)], hobj c l, 2⟩) : QFun X [.tmp t] 2 (.view z es) (hobj c l) .ret s :=
 ⟨_, hw, by simp [qaf2, resL, resV, one_, gets], ⟨rfl, rfl, trivial⟩, by simp⟩
theorem tall_o (k m : Int) (l : List Entry) (hl : l.length ≤ 1000000) (hs : ∀ x ∈ l, qade x) : SCalls Tryz.prog 140 [.ptr 0 0] (hobj (some (k, m)) l) 2 (.view 6 ((qa8r l).map qaay)) (hobj (some (k, m)) l) := by
 obtain ⟨F, hF⟩ : ∃ F, F = qa8r l := ⟨_, rfl⟩
 rw [← hF]
 replace hF := Lib.hid hF
 replace hs := Lib.hid hs
 have k1 := fun q hq => clrow_o l hl 1 q hq
 refine qaai (N := 28) Tryz.func140 rfl rfl (by kernel_rfl) qarf (by simp) (by repeat' (first | exact trivial | refine And.intro ?_ ?_ | rfl | decide | exact PureR.ren _)) (qapm (some (k, m)) l) ?_
 rintro X hP hN hm
 unfold c_tall hobj
 repeat' (first | ((with_reducible first | refine qaao ?_ | refine qaal (by rw [hP]; exact mixed) ?_); (try rw [hP]); simp -implicitDefEqProofs [hcs, *]) | ((with_reducible first | refine qaah ?_ | refine qaak ?_); (try simp -implicitDefEqProofs [hcs, *])) | ((with_reducible refine qaaa (fun h => ?_) (fun h => ?_)) <;> have h' := h <;> (try simp at h') <;> (try subst h') <;> simp -implicitDefEqProofs [hcs, *]) | ((with_reducible refine qaan ?_ ?_); (first | omega | (unfold maxLen; omega)); simp -implicitDefEqProofs [hcs, *]) | refine yA ?_ | with_reducible refine yB ?_ ?_ | ((with_reducible refine yC fun h => ?_); have h' := h; (try simp at h'); (try subst h')) | (refine qaeq (k1 _ (by simp)) ⟨rfl, trivial⟩ ⟨rfl, by simp [geth], trivial⟩ [] (by simp) ?_; simp -implicitDefEqProofs [hcs, *]) | exact trivial)
 refine qaqe (qajc 4 38 6 rfl) ?_
 simp only [zT, puth, Nat.reduceEqDiff, reduceIte, Nat.reduceAdd]
 refine qabl (qacv (fun s (x : List Entry × List Entry) => ⟨[(3, .ptr 2 0), (4, .own 4 x.2.length)], [(0, .cells (hty (some (k, m))) (hcs (some (k, m)) l.length)), (1, .row 38 6 (l.map qaay)), (2, .cells 106 [.own 3 x.1.length]), (3, .row 38 6 (x.1.map qaay)), (4, .row 38 6 (x.2.map qaay))], 5⟩) (fun x => F = x.2 ++ qa8s x.1.length x.1 ∧ (∀ e ∈ x.1, qade e) ∧ x.2.length + x.1.length ≤ 1000000) (fun x => x.1.length) (l, []) ?_ ⟨by rw [hF.out]; rfl, hs.out, by simpa using hl⟩ ?_)
 ·refine qabe [(2, 15), (3, 7), (4, 18)] hm ⟨Co.refl _, Co.refl _, trivial⟩ ⟨⟨_, rfl, rfl, qadd (some (k, m)) _ rfl⟩, ⟨_, rfl, rfl, rfl, ?_⟩, ⟨_, rfl, rfl, CoL.refl _⟩, ⟨_, rfl, rfl, rfl, ?_⟩, ⟨_, rfl, rfl, rfl, CoLL.refl _⟩, trivial⟩ rfl (by simp)
  ·rw [qabz]; exact CoLL.refl _
  ·rw [qabz]; exact CoLL.refl _
 rintro J hJ ⟨L, out⟩ ⟨h1, h2, h3⟩
 unfold qap3
 simp only [zT, puth, Nat.reduceEqDiff, reduceIte, Nat.reduceAdd] at h1 h2 h3 ⊢
 rcases Nat.eq_zero_or_pos L.length with h0 | h0
 ·have hLn : L = [] := List.eq_nil_of_length_eq_zero h0
  subst hLn
  have hFo : F = out := by rw [h1]; simp [qa8s]
  subst hFo
  clear h1 h2 h3 hJ
  repeat' (first | ((with_reducible refine qahn (c := .seq (.reg false qap2 [2]) .ret) ?_)) | ((with_reducible first | refine qaao ?_ | refine qaal (by rw [hP]; exact mixed) ?_); (try rw [hP]); simp -implicitDefEqProofs [hcs, *]) | ((with_reducible first | refine qaah ?_ | refine qaak ?_); (try simp -implicitDefEqProofs [hcs, *])) | ((with_reducible refine qaaa (fun h => ?_) (fun h => ?_)) <;> have h' := h <;> (try simp at h') <;> (try subst h') <;> simp -implicitDefEqProofs [hcs, *]) | ((with_reducible refine qaan ?_ ?_); (first | omega | (unfold maxLen; omega)); simp -implicitDefEqProofs [hcs, *]) | refine yA ?_ | with_reducible refine yB ?_ ?_ | ((with_reducible refine yC fun h => ?_); have h' := h; (try simp at h'); (try subst h')) | exact trivial)
  constructor
  refine qauj [4] ?_ ?_
  ·simp only [FrzOk, geth, Nat.reduceEqDiff, reduceIte, qapd, and_true]
  simp -implicitDefEqProofs
  repeat' (first | refine yA ?_ | with_reducible refine yB ?_ ?_ | ((with_reducible refine yC fun h => ?_); have h' := h; (try simp at h'); (try subst h')) | exact yD | refine yE ?_ | ((refine fin_ghw ?_; simp only [hobj])) | (exact qadd _ _ rfl) | exact trivial)
  all_goals trace_state
 ·obtain ⟨p1, p2⟩ := qavh h0
  have hdl : (popL L).dropLast.length = L.length - 1 := by rw [List.length_dropLast, (qaeg L).length_eq]
  have hds : ∀ e ∈ (popL L).dropLast, qade e := fun e he => h2 e ((qaeg L).mem_iff.1 ((List.dropLast_sublist _).mem he))
  have hxm : atE (popL L) (L.length - 1) ∈ popL L := by
   have h9 : atE (popL L) (L.length - 1) ∈ (popL L).dropLast ++ [atE (popL L) (L.length - 1)] := by simp
   rw [← p2] at h9; exact h9
  have hxs : qade (atE (popL L) (L.length - 1)) := h2 _ ((qaeg L).mem_iff.1 hxm)
  have h4 : F = (out ++ [towE (atE (popL L) (L.length - 1))]) ++ qa8s (popL L).dropLast.length (popL L).dropLast := by
   rw [h1, hdl, show L.length = L.length - 1 + 1 by omega]
   simp only [qa8s, p1]; simp
  have k2 := fun q h1 h3 => hpop_r L _ _ p2 (by omega) h2 2 3 q (by decide) h1 h3
  have k3 := fun q => qa95 _ hxs q
  generalize (popL L).dropLast = L2 at *
  generalize atE (popL L) (L.length - 1) = x at *
  generalize hte : towE x = te at *
  have hro : out.map qaay ++ [qaay te] = (out ++ [te]).map qaay := by simp
  have hlo : (out ++ [te]).length = out.length + 1 := by simp
  generalize out ++ [te] = O2 at *
  have b1 : out.length + 1 ≤ maxLen := by unfold maxLen; omega
  have b2 : (out.length + 1) * 96 ≤ 140737488355328 := by omega
  have hg : ((L.length : Int) > 0) := by omega
  clear p1 p2 h1 h2 hxs hxm hte
  replace h4 := Lib.hid h4
  replace hds := Lib.hid hds
  replace hdl := Lib.hid hdl
  replace hro := Lib.hid hro
  replace hlo := Lib.hid hlo
  replace hs := Lib.hid hs
  repeat' (first | ((with_reducible first | refine qaao ?_ | refine qaal (by rw [hP]; exact mixed) ?_); (try rw [hP]); simp -implicitDefEqProofs [hcs, b1, b2, qac0, qab6, qaey, *]) | ((with_reducible first | refine qaah ?_ | refine qaak ?_); (try simp -implicitDefEqProofs [hcs, b1, b2, qac0, qab6, qaey, *])) | ((with_reducible refine qaaa (fun h => ?_) (fun h => ?_)) <;> have h' := h <;> (try simp at h') <;> (try subst h') <;> simp -implicitDefEqProofs [hcs, b1, b2, qac0, qab6, qaey, *]) | ((with_reducible refine qaan ?_ ?_); (first | omega | (unfold maxLen; omega)); simp -implicitDefEqProofs [hcs, b1, b2, qac0, qab6, qaey, *]) | refine yA ?_ | with_reducible refine yB ?_ ?_ | ((with_reducible refine yC fun h => ?_); have h' := h; (try simp at h'); (try subst h')) | (refine qaeq (k2 _ (by simp) (by simp)) ⟨rfl, rfl, trivial⟩ ⟨rfl, rfl, trivial⟩ [] (by simp) ?_; simp -implicitDefEqProofs [hcs, b1, b2, qac0, qab6, qaey, *]) | (refine qabo (k3 _) ?_; simp -implicitDefEqProofs [hcs, b1, b2, qac0, qab6, qaey, *]) | exact trivial)
  refine qabn hJ (L2, O2) (qabe [(4, 36)] hm ⟨Co.refl _, ?_, trivial⟩ ⟨⟨_, rfl, rfl, qadd (some (k, m)) _ rfl⟩, ⟨_, rfl, rfl, rfl, ?_⟩, ⟨_, rfl, rfl, CoL.refl _⟩, ⟨_, rfl, rfl, rfl, ?_⟩, ⟨_, rfl, rfl, rfl, ?_⟩, trivial⟩ rfl (by simp)) ⟨h4.out, hds.out, ?_⟩ ?_
  ·simp only [hlo.out]; exact Co.refl _
  ·rw [qabz]; exact CoLL.refl _
  ·rw [qabz]; exact CoLL.refl _
  ·rw [qabz, hro.out]; exact CoLL.refl _
  ·simp only [hlo.out, hdl.out]; omega
  ·simp only [hdl.out]; omega
end Go.Proofs.YtalejfkholifpaaGreat
namespace Go.Proofs.YtalejfkholifpaaGreat
set_option linter.all false
open Go.RowKit
attribute [local simp] qaas qaar qaad qaag qaae qaaf qaap qaaq qaab qaa5 SOp.run SX.ev putd puts argS upds SOp.touch SSt.keep SSt.skip gets geth puth delh idOf SV.cells? setL qab4 qab5 sbin eq0 eq1 eqL qab0 qabj qabk qaa4 qaat qaac qaau qaa6 qaaj qaam FrzOk qaa9 qaa0 qaa7 qaa8 qaav qaaz qabf qaa1 qaax qaba qaaw frzS frzH frz frz1 frz0 SlotsM ObjsM ObjM rn ren ren1 ren0 qabq qabs qabt qabp qabg qab2 qab1 CoL qabb qabx dels adds idsH qabr
attribute [local irreducible] qab8
def qaxn (l : List Entry) (e : Entry) : Int := idxV l fun x => x.prio == e.prio && qav2 x e
def addV (k m : Int) (l : List Entry) (e : Entry) : Int := if qag7 k e = false then 6 else if 0 ≤ tatV l e then 7 else if 0 ≤ qaxn l e then 8 else if m ≤ l.length then 10 else 0
def addR (k m : Int) (l : List Entry) (e : Entry) : List Entry := if addV k m l e = 0 then qavc l (towE e) else l
theorem qa9o {k : Int} {e : Entry} (h : qag7 k e = true) : (e.keys.length : Int) = k ∧ (e.masks.length : Int) = k := by
 unfold qag7 at h
 split at h
 ·cases h
 ·omega
theorem qa15 {X : Cx} {s : SSt} {c : qaec} {l : List Entry} {o : SObj} (hs : SubH s.hp (hobj c l)) (h2 : geth s.hp 2 = some o) : Wk X s ⟨s.sl, [(0, .abs (qad3 c l)), (2, o)], s.nx⟩ :=
 qa8n (hh := hobj c l) (R := fun h => h = hobj c l) rfl (by decide) rfl (fun σ h => qagc c l (h 1 (by decide))) (by simp [idsH, hobj]) hs rfl (fun id o' h ho => by
  simp only [geth, if_neg (Ne.symm h)] at ho
  split at ho
  ·rename_i e; subst e; cases ho; exact ⟨h2, rfl⟩
  ·cases ho)
theorem fin_ai {X : Cx} {t nx : Nat} {n : Int} {sl : Sl} {hp : Hp} {I : AbsI} (hm : X.m = 1) (hb : gets sl t = .int .i64 n) (h : geth hp 0 = some (.abs I)) : QFun X [.tmp t] 1 (.int .i64 n) [(0, .abs I)] .ret ⟨sl, hp, nx⟩ :=
 ⟨⟨[(t, .int .i64 n)], [(0, .abs I)], 1⟩, qabe [] hm ⟨by rw [hb]; exact Co.refl _, trivial⟩ ⟨⟨_, h, rfl⟩, trivial⟩ rfl (Nat.le_refl _), by simp [qaf2, resL, resV, one_, gets], ⟨rfl, trivial⟩, by simp⟩
set_option maxRecDepth 4000 in
theorem tadd_s (k m : Int) (l : List Entry) (e : Entry) (hl : l.length < 1000000) (hs : ∀ x ∈ l, qade x) (hk : ∀ x ∈ l, qag7 k x = true) (he : qade e) : SCalls Tryz.prog 139 [.ptr 0 0, .agg (qaay e)] [(0, .abs (qad3 (some (k, m)) l))] 1 (.int .i64 (addV k m l e)) [(0, .abs (qad3 (some (k, m)) (addR k m l e)))] := by
 have k1 := fun q => qauf k m l e he q
 have k2 := fun q => tat_o k m l e (by omega) hs he q
 have k5 := fun q => qa95 e he q
 have k3 : qag7 k e = true → ∀ id q, 2 ≤ id → _ := fun hf id q h2 => conf_o 147 e l (fun x => x.prio == e.prio && qav2 x e) (some (k, m)) id h2 (by omega) (fun x hx q => by
  have h1 := qa9o (hk x hx)
  have h3 := qa9o hf
  exact ad1_s x e (hs x hx) he (by omega) (by omega) (by omega) q) q
 have k6 : ∀ q, 0 < q → SCalls Tryz.prog 149 [.ifc 176 (.ptr 0 2), .ifc 38 (.agg (qaay (towE e)))] [(0, .abs (qad3 (some (k, m)) l))] q (.tup []) [(0, .abs (qad3 (some (k, m)) (qavc l (towE e))))] := fun q hq => qaik (hpush_s (some (k, m)) l (towE e) hl hs ⟨he.1, he.2.1, he.2.2⟩) (fun σ h => by simp [Go.Proofs.YtalejfkholifpaaGreat.ren, ren1, ren0, h, renA, renB, qaay, nums]) (fun σ h => rfl) rfl q hq
 have hv : addV k m l e = if qag7 k e = false then 6 else if 0 ≤ tatV l e then 7 else if 0 ≤ qaxn l e then 8 else if m ≤ l.length then 10 else 0 := rfl
 have hr : addR k m l e = if addV k m l e = 0 then qavc l (towE e) else l := rfl
 change qag7 k e = true → ∀ id q, 2 ≤ id → SCalls _ _ _ _ q (.bool (decide (0 ≤ qaxn l e))) _ at k3
 generalize addV k m l e = v at hv hr
 generalize addR k m l e = r at hr
 generalize qag7 k e = a at k1 hv k3
 generalize tatV l e = b at k2 hv
 generalize qaxn l e = d at k3 hv
 refine qaai (N := 41) Tryz.func139 rfl rfl (by kernel_rfl) qarg (by simp) (by repeat' (first | exact trivial | refine And.intro ?_ ?_ | rfl | decide | exact PureR.ren _)) (by repeat' (first | exact trivial | refine And.intro ?_ ?_ | rfl | decide | exact PureR.ren _)) ?_
 rintro X hP hN hm
 refine qae0 (by omega) (by decide) (qagb _ l) fun hh h => ?_
 subst h
 unfold c_tadd
 unfold hobj at k1 k2 k3
 generalize qaay (towE e) = z at k5 k6
 unfold qaay at k1 k2 k3 k5
 rw [show qaay e = [nums .u64 e.keys, nums .u64 e.masks, .int .i64 e.len, .int .i64 e.prio, .int .i64 e.act, nums .u64 e.args] from rfl]
 unfold hobj
 cases a
 ·obtain rfl : v = 6 := by rw [hv, if_pos rfl]
  obtain rfl : r = l := by rw [hr, if_neg (by decide)]
  clear k2 k3 hv hr k6
  repeat' (first | refine yA ?_ | with_reducible refine yB ?_ ?_ | ((with_reducible refine yC fun h => ?_); have h' := h; (try simp at h'); (try subst h')) | refine qabv (k1 _) ⟨rfl, rfl, trivial⟩ ⟨rfl, rfl, trivial⟩ ?_ | exact yD | refine yE ?_ | ((refine qafq hm ?_; simp only [hobj])) | (exact qadd _ _ rfl) | exact trivial)
 ·replace k3 := k3 rfl
  rw [if_neg (by decide)] at hv
  by_cases hb : 0 ≤ b
  ·obtain rfl : v = 7 := by rw [hv, if_pos hb]
   obtain rfl : r = l := by rw [hr, if_neg (by decide)]
   clear k3 hv hr k6
   repeat' (first | refine yA ?_ | with_reducible refine yB ?_ ?_ | ((with_reducible refine yC fun h => ?_); have h' := h; (try simp at h'); (try subst h')) | refine qabv (k1 _) ⟨rfl, rfl, trivial⟩ ⟨rfl, rfl, trivial⟩ ?_ | refine qabv (k2 _) ⟨rfl, rfl, trivial⟩ ⟨rfl, rfl, trivial⟩ ?_ | exact yD | refine yE ?_ | ((refine qafq hm ?_; simp only [hobj])) | (exact qadd _ _ rfl) | exact trivial)
  ·rw [if_neg hb] at hv
   by_cases hd : 0 ≤ d
   ·obtain rfl : v = 8 := by rw [hv, if_pos hd]
    obtain rfl : r = l := by rw [hr, if_neg (by decide)]
    clear hv hr k6
    rw [decide_eq_true hd] at k3
    repeat' (first | ((with_reducible first | refine qaao ?_ | refine qaal (by rw [hP]; exact mixed) ?_); (try rw [hP]); simp -implicitDefEqProofs [hb, *]) | ((with_reducible first | refine qaah ?_ | refine qaak ?_); (try simp -implicitDefEqProofs [hb, *])) | ((with_reducible refine qaaa (fun h => ?_) (fun h => ?_)) <;> have h' := h <;> (try simp at h') <;> (try subst h') <;> simp -implicitDefEqProofs [hb, *]) | ((with_reducible refine qaan ?_ ?_); (first | omega | (unfold maxLen; omega)); simp -implicitDefEqProofs [hb, *]) | refine yA ?_ | with_reducible refine yB ?_ ?_ | ((with_reducible refine yC fun h => ?_); have h' := h; (try simp at h'); (try subst h')) | (refine qabv (k1 _) ⟨rfl, rfl, trivial⟩ ⟨rfl, rfl, trivial⟩ ?_; simp -implicitDefEqProofs [hb, *]) | (refine qabv (k2 _) ⟨rfl, rfl, trivial⟩ ⟨rfl, rfl, trivial⟩ ?_; simp -implicitDefEqProofs [hb, *]) | (refine qabv (k3 _ _ (by simp)) ⟨rfl, rfl, rfl, trivial⟩ ⟨rfl, rfl, rfl, trivial⟩ ?_; simp -implicitDefEqProofs [hb, *]) | exact yD | refine yE ?_ | ((refine qafq hm ?_; simp only [hobj])) | (exact qadd _ _ rfl) | exact trivial)
    all_goals trace_state
   ·rw [if_neg hd] at hv
    rw [decide_eq_false hd] at k3
    by_cases hml : m ≤ l.length
    ·obtain rfl : v = 10 := by rw [hv, if_pos hml]
     obtain rfl : r = l := by rw [hr, if_neg (by decide)]
     clear hv hr k6
     have c0 : hcs (some (k, m)) r.length = [.int .i64 k, .int .i64 m, .own 1 r.length] := rfl
     repeat' (first | ((with_reducible first | refine qaao ?_ | refine qaal (by rw [hP]; exact mixed) ?_); (try rw [hP]); simp -implicitDefEqProofs [hb, hml, hcs, *]) | ((with_reducible first | refine qaah ?_ | refine qaak ?_); (try simp -implicitDefEqProofs [hb, hml, hcs, *])) | ((with_reducible refine qaaa (fun h => ?_) (fun h => ?_)) <;> have h' := h <;> (try simp at h') <;> (try subst h') <;> simp -implicitDefEqProofs [hb, hml, hcs, *]) | ((with_reducible refine qaan ?_ ?_); (first | omega | (unfold maxLen; omega)); simp -implicitDefEqProofs [hb, hml, hcs, *]) | refine yA ?_ | with_reducible refine yB ?_ ?_ | ((with_reducible refine yC fun h => ?_); have h' := h; (try simp at h'); (try subst h')) | (refine qabv (k1 _) ⟨rfl, rfl, trivial⟩ ⟨rfl, rfl, trivial⟩ ?_; simp -implicitDefEqProofs [hb, hml, hcs, *]) | (refine qabv (k2 _) ⟨rfl, rfl, trivial⟩ ⟨rfl, rfl, trivial⟩ ?_; simp -implicitDefEqProofs [hb, hml, hcs, *]) | (refine qabv (k3 _ _ (by simp)) ⟨rfl, rfl, rfl, trivial⟩ ⟨rfl, rfl, rfl, trivial⟩ ?_; simp -implicitDefEqProofs [hb, hml, hcs, *]) | exact yD | refine yE ?_ | ((refine qafq hm ?_; simp only [hobj])) | (exact qadd _ _ rfl) | exact trivial)
     all_goals trace_state
    ·obtain rfl : v = 0 := by rw [hv, if_neg hml]
     rw [if_pos rfl] at hr
     rw [← hr] at k6
     clear hv hr
     replace k6 := Lib.hid k6
     repeat' (first | ((with_reducible refine qahn (c := .seq (.reg true qalp []) _) ?_)) | ((with_reducible first | refine qaao ?_ | refine qaal (by rw [hP]; exact mixed) ?_); (try rw [hP]); simp -implicitDefEqProofs [hb, hml, hcs, *]) | ((with_reducible first | refine qaah ?_ | refine qaak ?_); (try simp -implicitDefEqProofs [hb, hml, hcs, *])) | ((with_reducible refine qaaa (fun h => ?_) (fun h => ?_)) <;> have h' := h <;> (try simp at h') <;> (try subst h') <;> simp -implicitDefEqProofs [hb, hml, hcs, *]) | ((with_reducible refine qaan ?_ ?_); (first | omega | (unfold maxLen; omega)); simp -implicitDefEqProofs [hb, hml, hcs, *]) | refine yA ?_ | with_reducible refine yB ?_ ?_ | ((with_reducible refine yC fun h => ?_); have h' := h; (try simp at h'); (try subst h')) | (refine qabv (k1 _) ⟨rfl, rfl, trivial⟩ ⟨rfl, rfl, trivial⟩ ?_; simp -implicitDefEqProofs [hb, hml, hcs, *]) | (refine qabv (k2 _) ⟨rfl, rfl, trivial⟩ ⟨rfl, rfl, trivial⟩ ?_; simp -implicitDefEqProofs [hb, hml, hcs, *]) | (refine qabv (k3 _ _ (by simp)) ⟨rfl, rfl, rfl, trivial⟩ ⟨rfl, rfl, rfl, trivial⟩ ?_; simp -implicitDefEqProofs [hb, hml, hcs, *]) | exact trivial)
     constructor
     refine qaqe (qa15 (c := some (k, m)) (l := l) ⟨rfl, rfl, trivial⟩ rfl) ?_
     repeat' (first | refine yA ?_ | with_reducible refine yB ?_ ?_ | ((with_reducible refine yC fun h => ?_); have h' := h; (try simp at h'); (try subst h')) | refine qabo (k5 _) ?_ | refine qaeq (k6.out _ (by simp)) ⟨rfl, trivial⟩ ⟨rfl, trivial⟩ [] (by simp) ?_ | (exact fin_ai hm rfl rfl) | exact trivial)
     all_goals trace_state
end Go.Proofs.YtalejfkholifpaaGreat
namespace Go.Proofs.YtalejfkholifpaaGreat
set_option linter.all false
open Go.RowKit
theorem qa9y (v : BitVec 64) : BitVec.ofInt 64 (v.toNat : Int) = v := by
 rw [BitVec.ofInt_natCast]; simp
theorem qa9x (v : BitVec 64) : IntKind.u64.wrap (v.toNat : Int) = v.toNat := u64_in_ (by omega) (by have := v.isLt; omega)
end Go.Proofs.YtalejfkholifpaaGreat
namespace Go.Proofs.YtalejfkholifpaaGreat
set_option linter.all false
open Go.RowKit
theorem qaqb (x y : Int) : bits .and .u64 x y = ((BitVec.ofInt 64 x &&& BitVec.ofInt 64 y).toNat : Int) := qa9x _
theorem qa8c (x y : Int) : bits .xor .u64 x y = ((BitVec.ofInt 64 x ^^^ BitVec.ofInt 64 y).toNat : Int) := qa9x _
def meet1 (a b m n : Int) : Int := bits .and .u64 (bits .and .u64 (bits .xor .u64 a b) m) n
theorem qav3 (a b m n : Int) : meet1 a b m n = (((BitVec.ofInt 64 a ^^^ BitVec.ofInt 64 b) &&& BitVec.ofInt 64 m &&& BitVec.ofInt 64 n).toNat : Int) := by
 unfold meet1
 rw [qa8c, qaqb, qaqb, qa9y, qa9y]
theorem qav4 (a b m n : Int) : meet1 a b m n = meet1 b a n m := by
 rw [qav3, qav3, BitVec.xor_comm, BitVec.and_assoc, BitVec.and_comm (BitVec.ofInt 64 m), ← BitVec.and_assoc]
theorem qaks : ∀ xa xb xm xn : List Int, qa12 xa xb xm xn = qa12 xb xa xn xm
 | [], xb, xm, xn => by cases xb <;> cases xm <;> cases xn <;> rfl
 | _ :: _, [], xm, xn => by cases xm <;> cases xn <;> rfl
 | _ :: _, _ :: _, [], xn => by cases xn <;> rfl
 | _ :: _, _ :: _, _ :: _, [] => rfl
 | a :: xa, b :: xb, m :: xm, n :: xn => by
  have h := qav4 a b m n
  unfold meet1 at h
  rw [qa12, qa12, h, qaks xa xb xm xn]
theorem qav1 (a b : Entry) : qav2 a b = qav2 b a := qaks _ _ _ _
def qbdt (l : List Entry) : Prop := l.Pairwise fun a b => ¬ (a.prio = b.prio ∧ qav2 a b = true)
structure TInv (k : Int) (l : List Entry) : Prop where
 heap : Heap l
 small : ∀ x ∈ l, qade x
 fit : ∀ x ∈ l, qag7 k x = true
 len0 : ∀ x ∈ l, x.len = 0
 no : qbdt l
theorem qair {l l' : List Entry} (h : l.Perm l') (hl : qbdt l) : qbdt l' :=
 (h.pairwise_iff fun {a b} hab hba => hab ⟨hba.1.symm, by rw [qav1]; exact hba.2⟩).1 hl
theorem qa97 (k : Int) : TInv k [] := ⟨qbbh, fun x hx => (by cases hx), fun x hx => (by cases hx), fun x hx => (by cases hx), List.Pairwise.nil⟩
theorem qa96 (e : Entry) (h : e.len = 0) : towE e = e := by
 cases e; simp only at h; subst h; rfl
theorem qbbg {l : List Entry} {p : Entry → Bool} (h : ¬ 0 ≤ idxV l p) : ∀ x ∈ l, p x = false := by
 unfold idxV at h
 split at h
 ·omega
 ·rename_i h1; exact fun x hx => by have := List.findIdx?_eq_none_iff.1 h1 x hx; simpa using this
theorem tatV_at {l : List Entry} {e : Entry} {i : Nat} (h : tatV l e = i) : ∃ hi : i < l.length, ordE l[i] e = 0 := by
 unfold tatV idxV at h
 split at h
 ·rename_i j hj
  obtain ⟨h1, h2, _⟩ := List.findIdx?_eq_some_iff_getElem.1 hj
  obtain rfl : j = i := by omega
  exact ⟨h1, by simpa using h2⟩
 ·omega
theorem qaqd {k m : Int} {l : List Entry} {e : Entry} (h : addV k m l e = 0) : qag7 k e = true ∧ ¬ 0 ≤ tatV l e ∧ ¬ 0 ≤ qaxn l e ∧ ¬ m ≤ l.length := by
 unfold addV at h
 split at h
 ·cases h
 ·split at h
  ·cases h
  ·split at h
   ·cases h
   ·split at h
    ·cases h
    ·exact ⟨by simp_all, by assumption, by assumption, by assumption⟩
theorem qbdq {k m : Int} {l : List Entry} {e : Entry} (h : TInv k l) (he : qade e) : TInv k (addR k m l e) := by
 unfold addR
 by_cases h0 : addV k m l e = 0
 ·rw [if_pos h0]
  obtain ⟨q1, -, q3, -⟩ := qaqd h0
  have hm : ∀ x, x ∈ qavc l (towE e) → x ∈ l ∨ x = towE e := fun x hx => by
   have := (qae3 l (towE e)).mem_iff.1 hx
   simpa using this
  refine ⟨qa2q h.heap _, fun x hx => ?_, fun x hx => ?_, fun x hx => ?_, qair (qae3 l (towE e)).symm ?_⟩
  ·rcases hm x hx with h1 | rfl
   ·exact h.small x h1
   ·exact ⟨he.1, he.2.1, he.2.2⟩
  ·rcases hm x hx with h1 | rfl
   ·exact h.fit x h1
   ·exact q1
  ·rcases hm x hx with h1 | rfl
   ·exact h.len0 x h1
   ·rfl
  ·refine List.pairwise_append.2 ⟨h.no, List.pairwise_singleton _ _, fun a ha b hb => ?_⟩
   rw [List.mem_singleton.1 hb]
   rintro ⟨h1, h2⟩
   have := qbbg q3 a ha
   have h1' : a.prio = e.prio := h1
   have e1 : (a.prio == e.prio) = true := by simpa using h1'
   rw [e1, Bool.true_and] at this
   rw [show qav2 a e = true from h2] at this; cases this
 ·rw [if_neg h0]; exact h
theorem sub_inv {k : Int} {l L : List Entry} (h : TInv k l) (hh : Heap L.dropLast) (hp : L.Perm l) : TInv k L.dropLast := by
 have hm : ∀ x, x ∈ L.dropLast → x ∈ l := fun x hx => hp.mem_iff.1 ((List.dropLast_sublist _).mem hx)
 exact ⟨hh, fun x hx => h.small x (hm x hx), fun x hx => h.fit x (hm x hx), fun x hx => h.len0 x (hm x hx), (qair hp.symm h.no).sublist (List.dropLast_sublist _)⟩
theorem qa3m {k : Int} {l : List Entry} {e : Entry} (h : TInv k l) : TInv k (qapw k l e) := by
 unfold qapw
 split
 ·exact h
 ·split
  ·exact h
  ·rename_i h1
   obtain ⟨i, h2, h3⟩ := qao1 l e h1
   rw [h2, Int.toNat_natCast]
   exact sub_inv h (qban h.heap i h3).1 (qaf3 l i)
theorem qbb5 {k : Int} {l : List Entry} {e : Entry} (h : TInv k l) (he : qade e) : TInv k (chgR k l e) := by
 unfold chgR
 split
 ·exact h
 ·rename_i hf
  split
  ·exact h
  ·rename_i h1
   obtain ⟨i, h2, h3⟩ := qao1 l e h1
   rw [h2, Int.toNat_natCast]
   obtain ⟨hi, ho⟩ := tatV_at h2
   have hm : ∀ x, x ∈ l.set i (towE e) → x ∈ l ∨ x = towE e := fun x hx => List.mem_or_eq_of_mem_set hx
   obtain ⟨z1, z2, z3⟩ := (qajl _ _).1 ho
   refine ⟨qbae h.heap i _ hi (by rw [qbdm hi]; exact ho), fun x hx => ?_, fun x hx => ?_, fun x hx => ?_, ?_⟩
   ·rcases hm x hx with h1 | rfl
    ·exact h.small x h1
    ·exact ⟨he.1, he.2.1, he.2.2⟩
   ·rcases hm x hx with h1 | rfl
    ·exact h.fit x h1
    ·have hff : qag7 k e = true := by simpa using hf
     exact hff
   ·rcases hm x hx with h1 | rfl
    ·exact h.len0 x h1
    ·rfl
   ·have q : ∀ j (hj : j < (l.set i (towE e)).length) (hj' : j < l.length), (l.set i (towE e))[j].prio = l[j].prio ∧ (l.set i (towE e))[j].keys = l[j].keys ∧ (l.set i (towE e))[j].masks = l[j].masks := fun j hj hj' => by
     rw [List.getElem_set]
     split
     ·rename_i e1; subst e1; exact ⟨z1.symm, z2.symm, z3.symm⟩
     ·exact ⟨rfl, rfl, rfl⟩
    refine List.pairwise_iff_getElem.2 fun a b ha hb hab => ?_
    have ha' : a < l.length := by simpa using ha
    have hb' : b < l.length := by simpa using hb
    obtain ⟨a1, a2, a3⟩ := q a ha ha'
    obtain ⟨b1, b2, b3⟩ := q b hb hb'
    have := List.pairwise_iff_getElem.1 h.no a b ha' hb' hab
    unfold qav2 at this ⊢
    rw [a1, a2, a3, b1, b2, b3]; exact this
theorem qa8h {k m : Int} {l : List Entry} {e : Entry} (h : (l.length : Int) ≤ max m 0) : ((addR k m l e).length : Int) ≤ max m 0 := by
 unfold addR
 by_cases h0 : addV k m l e = 0
 ·rw [if_pos h0, (qae3 l (towE e)).length_eq]
  have := (qaqd h0).2.2.2
  simp; omega
 ·rw [if_neg h0]; exact h
theorem qa3l {k : Int} {l : List Entry} {e : Entry} : (qapw k l e).length ≤ l.length := by
 unfold qapw; split
 ·omega
 ·split
  ·omega
  ·rw [List.length_dropLast, (qaf3 _ _).length_eq]; omega
theorem qbb4 {k : Int} {l : List Entry} {e : Entry} : (chgR k l e).length = l.length := by
 unfold chgR; split
 ·rfl
 ·split
  ·rfl
  ·simp
theorem qa1r {k : Int} {l : List Entry} (h : TInv k l) : (qa8r l).Perm l := by
 have h1 := qaui l
 have h2 : l.map towE = l := by
  have : l.map towE = l.map id := List.map_congr_left fun x hx => qa96 x (h.len0 x hx)
  rw [this, List.map_id]
 rw [h2] at h1; exact h1
end Go.Proofs.YtalejfkholifpaaGreat
namespace Go.Proofs.YtalejfkholifpaaGreat
set_option linter.all false
open Go.RowKit
attribute [local simp] qaas qaar qaad qaag qaae qaaf qaap qaaq qaab qaa5 SOp.run SX.ev putd puts argS upds SOp.touch SSt.keep SSt.skip gets geth puth delh idOf SV.cells? setL qab4 qab5 sbin eq0 eq1 eqL qab0 qabj qabk qaa4 qaat qaac qaau qaa6 qaaj qaam FrzOk qaa9 qaa0 qaa7 qaa8 qaav qaaz qabf qaa1 qaax qaba qaaw frzS frzH frz frz1 frz0 SlotsM ObjsM ObjM rn ren ren1 ren0 qabq qabs qabt qabp qabg qab2 qab1 CoL qabb qabx dels adds idsH qabr
theorem qawh (c : qaec) (l : List Entry) : ∀ i ∈ idsH (hobj c l), i < 2 := by intro i hi; simp [idsH, hobj] at hi; omega
theorem tall_a (k m : Int) (l : List Entry) (h : TInv k l) (hl : l.length ≤ 1000000) (id q : Nat) : SCalls Tryz.prog 140 [.ptr id 0] [(id, .abs (qad3 (some (k, m)) l))] q (ents (qa8r l)) [(id, .abs (qad3 (some (k, m)) l))] :=
 qail (tall_o k m l hl h.small).1 (by decide) (fun σ h => qagc _ _ (h 1 (by decide))) (qawh _ _) (tall_o k m l hl h.small) (fun _ => rfl) (fun σ => rfl) id q
theorem tlen_a (k m : Int) (l : List Entry) (id q : Nat) : SCalls Tryz.prog 132 [.ptr id 0] [(id, .abs (qad3 (some (k, m)) l))] q (.int .i64 l.length) [(id, .abs (qad3 (some (k, m)) l))] :=
 qail (tlen_o k m l 2).1 (by decide) (fun σ h => qagc _ _ (h 1 (by decide))) (qawh _ _) (tlen_o k m l 2) (fun _ => rfl) (fun σ => rfl) id q
theorem tadd_a (k m : Int) (l : List Entry) (e : Entry) (h : TInv k l) (hl : l.length < 1000000) (he : qade e) (id q : Nat) (hq : id < q) : SCalls Tryz.prog 139 [.ptr id 0, .agg (qaay e)] [(id, .abs (qad3 (some (k, m)) l))] q (.int .i64 (addV k m l e)) [(id, .abs (qad3 (some (k, m)) (addR k m l e)))] :=
 qagm (tadd_s k m l e hl h.small h.fit he) (fun _ => rfl) (fun _ => rfl) rfl id q hq
theorem tdrop_a (k m : Int) (l : List Entry) (e : Entry) (h : TInv k l) (hl : l.length ≤ 1000000) (he : qade e) (id q : Nat) (hq : id < q) : SCalls Tryz.prog 142 [.ptr id 0, .agg (qaay e)] [(id, .abs (qad3 (some (k, m)) l))] q (.int .i64 (dropV k l e)) [(id, .abs (qad3 (some (k, m)) (qapw k l e)))] :=
 qagm (tdrop_s k m l e hl h.small he) (fun _ => rfl) (fun _ => rfl) rfl id q hq
theorem tchg_a (k m : Int) (l : List Entry) (e : Entry) (h : TInv k l) (hl : l.length ≤ 1000000) (he : qade e) (id q : Nat) (hq : id < q) : SCalls Tryz.prog 141 [.ptr id 0, .agg (qaay e)] [(id, .abs (qad3 (some (k, m)) l))] q (.int .i64 (dropV k l e)) [(id, .abs (qad3 (some (k, m)) (chgR k l e)))] :=
 qagm (tchg_s k m l e hl h.small he) (fun _ => rfl) (fun _ => rfl) rfl id q hq
theorem tnew_a (k m : Int) (q : Nat) : SCalls Tryz.prog 35 [.int .i64 k, .int .i64 m] [] q (.ptr q 0) [(q, .abs (qad3 (some (k, m)) []))] := by
 have e0 : sg [] q 0 = q := rfl
 exact qac9 [] (tnew_s k m) rfl (by simp) (by simp) rfl trivial (by simp [idsH]) (by simp [Go.Proofs.YtalejfkholifpaaGreat.ren, ren1, ren0, e0]) rfl ⟨⟨.abs (qad3 (some (k, m)) []), by rw [e0]; simp [geth], rfl⟩, trivial⟩ (by simp [idsH]) (by simp [idsH, e0])
end Go.Proofs.YtalejfkholifpaaGreat
namespace Go.Proofs.YtalejfkholifpaaGreat
set_option linter.all false
open Go.RowKit
def pre (W : Nat) (key : Int) (i : Nat) : Int := key / 2 ^ (W - i)
def kbit (W : Nat) (key : Int) (i : Nat) : Int := key / 2 ^ (W - 1 - i) % 2
theorem qahv (n : Nat) : (0 : Int) < 2 ^ n := Int.pow_pos (by decide)
theorem qaep (W : Nat) (key : Int) (i : Nat) : 0 ≤ kbit W key i ∧ kbit W key i ≤ 1 := by unfold kbit; omega
theorem qana {W : Nat} {key : Int} (h0 : 0 ≤ key) (h1 : key < 2 ^ W) : pre W key 0 = 0 := by
 unfold pre; rw [Nat.sub_zero]; exact Int.ediv_eq_zero_of_lt h0 h1
theorem qahu {W i : Nat} (key : Int) (hi : i < W) : pre W key (i + 1) = 2 * pre W key i + kbit W key i := by
 unfold pre kbit
 rw [show W - (i + 1) = W - 1 - i by omega, show W - i = (W - 1 - i) + 1 by omega]
 generalize W - 1 - i = m
 rw [Int.pow_succ, ← Int.ediv_ediv_of_nonneg (Int.le_of_lt (qahv m))]
 omega
theorem qakl {W : Nat} {key : Int} (h0 : 0 ≤ key) (i : Nat) : 0 ≤ pre W key i := Int.ediv_nonneg h0 (Int.le_of_lt (qahv _))
theorem pre_lt {W i : Nat} {key : Int} (h1 : key < 2 ^ W) (hi : i ≤ W) : pre W key i < 2 ^ i := by
 unfold pre
 refine Int.ediv_lt_of_lt_mul (qahv _) ?_
 rw [← Int.pow_add, show i + (W - i) = W by omega]
 exact h1
theorem qawf {W n : Nat} {key : Int} (h : key % 2 ^ (W - n) = 0) : key = pre W key n * 2 ^ (W - n) := by
 unfold pre
 have := Int.emod_add_mul_ediv key (2 ^ (W - n))
 rw [h, Int.zero_add, Int.mul_comm] at this
 exact this.symm
def qafy (width key n : Int) : Bool := decide (1 ≤ width ∧ width ≤ 64 ∧ 0 ≤ n ∧ n ≤ width ∧ key < 2 ^ width.toNat ∧ key % 2 ^ (width - n).toNat = 0)
end Go.Proofs.YtalejfkholifpaaGreat
namespace Go.Proofs.YtalejfkholifpaaGreat
set_option linter.all false
open Go.RowKit
structure Dat where
 there : Bool
 act : Int
 args : List Int
def qaj3 : Dat := ⟨false, 0, []⟩
def ptr (o : Option Nat) : Value := .pointer (o.map fun g => ⟨g, 0, none⟩)
theorem qadq : ptr none = .pointer none := rfl
theorem qact (g : Nat) : ptr (some g) = .pointer (some ⟨g, 0, none⟩) := rfl
def NodeAt (w : World) (M : Nat → Prop) (adr : Nat → Int → Option Nat) (i : Nat) (v : Int) (g : Nat) (d : Dat) : Prop :=
 ∃ ao n c, Blk w g 103 #[.bool d.there, .int .i64 d.act, .slice ao n c, ptr (adr (i + 1) (2 * v)), ptr (adr (i + 1) (2 * v + 1))] ∧ RdL (Lay.int .u64) (fun k => ¬ M k) w ao n c d.args ∧ Fits .i64 d.act
structure Trie (w : World) (M : Nat → Prop) (adr : Nat → Int → Option Nat) (dat : Nat → Int → Dat) : Prop where
 node : ∀ i v g, adr i v = some g → NodeAt w M adr i v g (dat i v) ∧ ¬ M g
 inj : ∀ i v j u g, adr i v = some g → adr j u = some g → i = j ∧ v = u
 up : ∀ i v, adr (i + 1) v ≠ none → adr i (v / 2) ≠ none
 lt : ∀ k, M k → k < w.heap.size
theorem NodeAt.step {w w' : World} {M : Nat → Prop} {adr : Nat → Int → Option Nat} {i : Nat} {v : Int} {g : Nat} {d : Dat} (h : NodeAt w M adr i v g d) {S : Nat → Prop} (hs : Step S w w') (hM : ∀ k, S k → ¬ M k) (hg : ¬ S g) : NodeAt w' M adr i v g d := by
 obtain ⟨ao, n, c, h1, h2, h3⟩ := h
 exact ⟨ao, n, c, (hs.block g h1.lt hg).trans h1, h2.step (hs.mono hM), h3⟩
theorem Trie.step {w w' : World} {M : Nat → Prop} {adr : Nat → Int → Option Nat} {dat : Nat → Int → Dat} (h : Trie w M adr dat) {S : Nat → Prop} (hs : Step S w w') (hM : ∀ k, S k → ¬ M k) (hg : ∀ i v g, adr i v = some g → ¬ S g) : Trie w' M adr dat :=
 ⟨fun i v g e => ⟨(h.node i v g e).1.step hs hM (hg i v g e), (h.node i v g e).2⟩, h.inj, h.up, fun k hk => Nat.lt_of_lt_of_le (h.lt k hk) hs.size⟩
theorem Trie.below {w w' : World} {M : Nat → Prop} {adr : Nat → Int → Option Nat} {dat : Nat → Int → Dat} (h : Trie w M adr dat) (hb : Below w.heap.size w w') : Trie w' M adr dat :=
 h.step (S := fun _ => False) (Step.of hb) (fun _ h => h.elim) (fun _ _ _ _ h => h)
theorem Trie.cells {w : World} {M : Nat → Prop} {adr : Nat → Int → Option Nat} {dat : Nat → Int → Dat} (h : Trie w M adr dat) {i : Nat} {v : Int} {g : Nat} (e : adr i v = some g) :
  ∃ ao n c, w.cell? ⟨g, 0, none⟩ = some (.bool (dat i v).there) ∧ w.cell? ⟨g, 1, none⟩ = some (.int .i64 (dat i v).act) ∧ w.cell? ⟨g, 2, none⟩ = some (.slice ao n c) ∧ w.cell? ⟨g, 3, none⟩ = some (ptr (adr (i + 1) (2 * v))) ∧ w.cell? ⟨g, 4, none⟩ = some (ptr (adr (i + 1) (2 * v + 1))) ∧
   RdL (Lay.int .u64) (fun k => ¬ M k) w ao n c (dat i v).args ∧ g < w.heap.size ∧ (∀ j, w.frozen? ⟨g, j, none⟩ = false) := by
 obtain ⟨⟨ao, n, c, h1, h2, _⟩, _⟩ := h.node i v g e
 exact ⟨ao, n, c, by rw [h1.cell]; rfl, by rw [h1.cell]; rfl, by rw [h1.cell]; rfl, by rw [h1.cell]; rfl, by rw [h1.cell]; rfl, h2, h1.lt, fun j => h1.frozen j⟩
theorem Trie.none_up {w : World} {M : Nat → Prop} {adr : Nat → Int → Option Nat} {dat : Nat → Int → Dat} (h : Trie w M adr dat) {W : Nat} {key : Int} {i j : Nat} (hij : i ≤ j) (hj : j ≤ W) (hn : adr i (pre W key i) = none) : adr j (pre W key j) = none := by
 obtain ⟨d, rfl⟩ := Nat.exists_eq_add_of_le hij
 clear hij
 induction d with
 | zero => exact hn
 | succ d ih =>
  have ih := ih (by omega)
  cases e : adr (i + d + 1) (pre W key (i + d + 1)) with
  | none => rfl
  | some g =>
   have := h.up (i + d) (pre W key (i + d + 1)) (by rw [e]; simp)
   have e2 : pre W key (i + d + 1) / 2 = pre W key (i + d) := by rw [qahu key (by omega)]; have := qaep W key (i + d); omega
   rw [e2, ih] at this
   exact absurd rfl this
structure Pfx (w : World) (gt : Nat) (width most n : Int) (M : Nat → Prop) (adr : Nat → Int → Option Nat) (dat : Nat → Int → Dat) : Prop where
 blk : Blk w gt 105 #[.int .i64 width, .int .i64 most, .int .i64 n, ptr (adr 0 0)]
 trie : Trie w M adr dat
 out : ¬ M gt
 root : adr 0 0 ≠ none
theorem Pfx.ne {w : World} {gt : Nat} {width most n : Int} {M : Nat → Prop} {adr : Nat → Int → Option Nat} {dat : Nat → Int → Dat} (h : Pfx w gt width most n M adr dat) {i : Nat} {v : Int} {g : Nat} (e : adr i v = some g) : g ≠ gt := by
 obtain ⟨⟨ao, k, c, h1, _⟩, _⟩ := h.trie.node i v g e
 intro he
 subst he
 have h2 := h.blk
 unfold Blk at h1 h2
 rw [h1] at h2
 injection h2 with h2
 injection h2 with _ h3
 exact absurd h3 (by decide)
end Go.Proofs.YtalejfkholifpaaGreat
namespace Go.Proofs.YtalejfkholifpaaGreat
set_option linter.all false
open Go.RowKit
theorem qbdn (v w : Int) (h0 : 0 ≤ v) (h1 : v ≤ 18446744073709551615) (hw0 : 1 ≤ w) (hw : w ≤ 64) : bits .and .u64 v (ones w) = v % 2 ^ w.toNat := by
 have hr := qavq w
 unfold ones at hr ⊢
 rw [if_pos ⟨hw0, hw⟩] at hr ⊢
 obtain ⟨a, rfl⟩ := Int.eq_ofNat_of_zero_le h0
 have hp : 0 < 2 ^ w.toNat := Nat.two_pow_pos _
 have e1 : qa2y w.toNat = ((2 ^ w.toNat - 1 : Nat) : Int) := by
  unfold qa2y
  have : ((2 ^ w.toNat : Nat) : Int) = (2 : Int) ^ w.toNat := by simp
  omega
 rw [e1] at hr ⊢
 rw [u64_and_nat a _ (by omega) (by omega), Nat.and_two_pow_sub_one_eq_mod]
 simp
end Go.Proofs.YtalejfkholifpaaGreat
namespace Go.Proofs.YtalejfkholifpaaGreat
set_option linter.all false
open Go.RowKit
attribute [local go_sem ↓] Go.wp_at_zero Go.wp_at_succ
theorem qadk {x : Int} (h : -9223372036854775808 ≤ x) (h2 : x ≤ 9223372036854775807) : IntKind.i64.wrap x = x := by
 simp [IntKind.wrap, IntKind.bits, IntKind.signed, Int.bmod]; omega
theorem qakm (gt : Nat) (width most n : Int) (M : Nat → Prop) (adr : Nat → Int → Option Nat) (dat : Nat → Int → Dat) (w : World) (h : Pfx w gt width most n M adr dat) :
  Calls Tryz.prog 115 #[.pointer (some ⟨gt, 0, none⟩)] w fun e w' => e = .returned (.int .i64 n) ∧ w = w' := by
 have h0 := h.blk.cell 2
 simp at h0
 have hz := h.blk.lt
 go_enter Tryz.func115, Tryz.ntmps115
 go_wp2_with fail
 go_ret
 exact ⟨rfl, rfl⟩
theorem qahw (gt : Nat) (W i : Nat) (key most n : Int) (M : Nat → Prop) (adr : Nat → Int → Option Nat) (dat : Nat → Int → Dat) (w : World) (h : Pfx w gt (W : Int) most n M adr dat) (hW : W ≤ 64) (hi : i < W) (hk : Fits .u64 key) :
  Calls Tryz.prog 131 #[.pointer (some ⟨gt, 0, none⟩), .int .u64 key, .int .i64 (i : Int)] w fun e w' => e = .returned (.int .i64 (kbit W key i)) ∧ w = w' := by
 have h0 := h.blk.cell 0
 simp at h0
 have hz := h.blk.lt
 have hk' := hk.u64
 have hcode : bits .and .u64 (key / 2 ^ (W - 1 - i)) 1 = kbit W key i := qamt key hk'.1 hk'.2 (W - 1 - i)
 have hr := qaep W key i
 have hw : IntKind.i64.wrap (kbit W key i) = kbit W key i := qadk (by omega) (by omega)
 have H := Lib.hid h
 clear h
 go_enter Tryz.func131, Tryz.ntmps131
 go_wp2_with fail
 go_ret
 refine ⟨qau3 ?_, rfl⟩
 first | rfl | (rw [hcode]; exact hw) | exact hw | (simp only [hw]; done)
set_option maxRecDepth 100000 in
set_option maxHeartbeats 2000000 in
theorem qac4 (gt : Nat) (width key k most n : Int) (M : Nat → Prop) (adr : Nat → Int → Option Nat) (dat : Nat → Int → Dat) (w : World) (h : Pfx w gt width most n M adr dat) (hw : Fits .i64 width) (hk : Fits .i64 k) (hkey : Fits .u64 key) :
  Calls Tryz.prog 127 #[.pointer (some ⟨gt, 0, none⟩), .int .u64 key, .int .i64 k] w fun e w' => e = .returned (.bool (qafy width key k)) ∧ w = w' := by
 have h0 := h.blk.cell 0
 simp at h0
 have hz := h.blk.lt
 have hk' := hkey.u64
 have hwi := hw.i64
 have hki := hk.i64
 clear h
 by_cases c1 : width < 1
 ·have q : qafy width key k = false := by unfold qafy; rw [decide_eq_false_iff_not]; omega
  have Q := Lib.hid q
  clear q
  go_enter Tryz.func127, Tryz.ntmps127
  go_wp2_with fail
  go_ret
  exact ⟨by rw [Q.out]; rfl, rfl⟩
 have c1' : 1 ≤ width := by omega
 by_cases c2 : 64 < width
 ·have q : qafy width key k = false := by unfold qafy; rw [decide_eq_false_iff_not]; omega
  have Q := Lib.hid q
  clear q
  go_enter Tryz.func127, Tryz.ntmps127
  go_wp2_with fail
  go_ret
  exact ⟨by rw [Q.out]; rfl, rfl⟩
 have c2' : width ≤ 64 := by omega
 by_cases c3 : k < 0
 ·have q : qafy width key k = false := by unfold qafy; rw [decide_eq_false_iff_not]; omega
  have Q := Lib.hid q
  clear q
  go_enter Tryz.func127, Tryz.ntmps127
  go_wp2_with fail
  go_ret
  exact ⟨by rw [Q.out]; rfl, rfl⟩
 have c3' : 0 ≤ k := by omega
 by_cases c4 : width < k
 ·have q : qafy width key k = false := by unfold qafy; rw [decide_eq_false_iff_not]; omega
  have Q := Lib.hid q
  clear q
  go_enter Tryz.func127, Tryz.ntmps127
  go_wp2_with fail
  go_ret
  exact ⟨by rw [Q.out]; rfl, rfl⟩
 have c4' : k ≤ width := by omega
 have hon : ones width = 2 ^ width.toNat - 1 := by unfold ones; rw [if_pos ⟨c1', c2'⟩]; rfl
 by_cases c5 : ones width < key
 ·have q : qafy width key k = false := by unfold qafy; rw [decide_eq_false_iff_not]; omega
  have Q := Lib.hid q
  clear q hon
  go_enter Tryz.func127, Tryz.ntmps127
  go_wp2_with (go_at_call 49; refine (qaic _ _ hw).mono ?_; rintro e w' ⟨rfl, rfl⟩)
  go_ret
  exact ⟨by rw [Q.out]; rfl, rfl⟩
 have c5' : key ≤ ones width := by omega
 by_cases c6 : k = width
 ·have q : qafy width key k = true := by
   unfold qafy; rw [decide_eq_true_iff]
   subst c6
   refine ⟨c1', c2', c3', Int.le_refl _, by omega, by simp⟩
  have Q := Lib.hid q
  have q6 : (k == width) = true := by rw [beq_iff_eq]; exact c6
  clear q hon c6
  go_enter Tryz.func127, Tryz.ntmps127
  go_wp2_with (go_at_call 49; refine (qaic _ _ hw).mono ?_; rintro e w' ⟨rfl, rfl⟩)
  go_ret
  exact ⟨by rw [Q.out]; rfl, rfl⟩
 have q6 : (k == width) = false := by rw [beq_eq_false_iff_ne]; exact c6
 have hs : IntKind.i64.wrap (width - k) = width - k := qadk (by omega) (by omega)
 have hA : bits .and .u64 key (ones (width - k)) = key % 2 ^ (width - k).toNat := qbdn key (width - k) hk'.1 hk'.2 (by omega) (by omega)
 have hf2 : Fits .i64 (width - k) := Fits.of_i64 (by omega) (by omega)
 obtain ⟨r, hr⟩ : ∃ r, key % 2 ^ (width - k).toNat = r := ⟨_, rfl⟩
 have hq : qafy width key k = (r == 0) := by
  unfold qafy
  rw [← hr, Bool.eq_iff_iff, decide_eq_true_iff, beq_iff_eq]
  exact ⟨fun h => h.2.2.2.2.2, fun h => ⟨c1', c2', c3', c4', by omega, h⟩⟩
 rw [hr] at hA
 have Q := Lib.hid hq
 clear hq hon c6 hr
 go_enter Tryz.func127, Tryz.ntmps127
 go_wp2_with fail
 refine (qaic width _ hw).mono ?_
 rintro e w' ⟨rfl, rfl⟩
 go_wp2_with fail
 refine (qaic (width - k) _ hf2).mono ?_
 rintro e w' ⟨rfl, rfl⟩
 go_wp2_with fail
 go_ret
 exact ⟨by rw [Q.out]; rfl, rfl⟩
end Go.Proofs.YtalejfkholifpaaGreat
namespace Go.Proofs.YtalejfkholifpaaGreat
set_option linter.all false
open Go.RowKit
attribute [local go_sem ↓] Go.wp_at_zero Go.wp_at_succ
theorem qae2 {P : Program} {f : FuncId} {args : Array Value} {w : World} {n : Nat} {v : Value}
  (h : Calls P f args (w.drewN n) fun e w' => e = .returned v ∧ w.drewN n = w') : Calls P f args (w.drewN n) fun e w'' => e = .returned v ∧ ∃ m, w'' = w.drewN m :=
 h.mono fun _ _ ⟨he, hm⟩ => ⟨he, n, hm.symm⟩
theorem Pfx.below {w w' : World} {gt : Nat} {width most n : Int} {M : Nat → Prop} {adr : Nat → Int → Option Nat} {dat : Nat → Int → Dat} (h : Pfx w gt width most n M adr dat) (hb : Below w.heap.size w w') : Pfx w' gt width most n M adr dat :=
 ⟨h.blk.below hb h.blk.lt, h.trie.below hb, h.out, h.root⟩
set_option maxRecDepth 100000 in
set_option maxHeartbeats 2000000 in
theorem qahc (gt : Nat) (W k : Nat) (key most n : Int) (M : Nat → Prop) (adr : Nat → Int → Option Nat) (dat : Nat → Int → Dat) (w : World) (h : Pfx w gt (W : Int) most n M adr dat) (hW : W ≤ 64) (hk : k ≤ W) (hkey : Fits .u64 key) (hlt : key < 2 ^ W) :
  Calls Tryz.prog 128 #[.pointer (some ⟨gt, 0, none⟩), .int .u64 key, .int .i64 (k : Int), .bool false] w fun e w' => e = .returned (ptr (adr k (pre W key k))) ∧ Below w.heap.size w w' := by
 have h0 := h.blk.cell 3
 simp at h0
 have hz := h.blk.lt
 have H := Lib.hid h
 have hup := fun j (h1 : j ≤ k) (e : adr j (pre W key j) = none) => h.trie.none_up h1 hk e
 have HU := Lib.hid hup
 have p0 := qana (W := W) hkey.u64.1 hlt
 obtain ⟨P, hP⟩ : ∃ P, ptr (adr k (pre W key k)) = P := ⟨_, rfl⟩
 obtain ⟨R, hR⟩ : ∃ R, ptr (adr 0 0) = R := ⟨_, rfl⟩
 rw [hR] at h0
 rw [hP]
 have HP := Lib.hid hP
 have HR := Lib.hid hR
 have HP0 := Lib.hid p0
 clear h hup hP hR p0
 go_enter Tryz.func128, Tryz.ntmps128
 go_wp2_with fail
 go_loopw [9, 10] (fun p i wr => ∃ j : Nat, j ≤ k ∧ i = .int .i64 j ∧ p = ptr (adr j (pre W key j)) ∧ Below w.heap.size w wr) (fun _ i _ => k - (intOf i).toNat)
 case atStart => exact ⟨0, Nat.zero_le _, rfl, by rw [HP0.out, HR.out], rf _⟩
 case round =>
  obtain ⟨j, hj, rfl, rfl, hbr⟩ := hrel
  by_cases hjk : j < k
  ·cases e : adr j (pre W key j) with
   | none =>
    have E : Hid (P = .pointer none) := by show P = _; rw [← HP.out, HU.out j hj e]; rfl
    rw [qadq]
    go_wp2_with fail
    go_ret
    exact ⟨by rw [E.out]; rfl, hbr⟩
   | some g =>
    rw [qact]
    obtain ⟨ao, an, ac, _, _, _, b3, b4, _, hg, _⟩ := (H.out.below hbr).trie.cells e
    have hs := qahu key (show j < W by omega)
    have hpr := Lib.hid hs
    have HB := fun w' (hb : Below w.heap.size w w') => qahw gt W j key most n M adr dat w' (H.out.below hb) hW (by omega) hkey
    have hkb : kbit W key j = 0 ∨ kbit W key j = 1 := by have := qaep W key j; omega
    have hgz : g < wr.heap.size := hg
    clear hs e hg
    rcases hkb with hb | hb
    ·rw [hb] at HB
     have HB2 := Lib.hid HB
     have hn : Hid (pre W key (j + 1) = 2 * pre W key j) := by show _ = _; rw [hpr.out, hb]; omega
     clear HB hb b4
     obtain ⟨q, hq⟩ : ∃ q, adr (j + 1) (2 * pre W key j) = q := ⟨_, rfl⟩
     rw [hq] at b3
     have HQ := Lib.hid hq
     clear hq
     cases q with
     | none =>
      rw [qadq] at b3
      go_wp2_with fail
      go_big_quiet ((go_at_call 131; exact qae2 (HB2.out _ (qabd hbr _))))
      go_wp2_with fail
      go_roundw
      case rel => exact ⟨j + 1, by omega, by go_num, by rw [hn.out, HQ.out]; rfl, qabd hbr _⟩
      case measure => simp [intOf]; omega
     | some g2 =>
      rw [qact] at b3
      go_wp2_with fail
      go_big_quiet ((go_at_call 131; exact qae2 (HB2.out _ (qabd hbr _))))
      go_wp2_with fail
      go_roundw
      case rel => exact ⟨j + 1, by omega, by go_num, by rw [hn.out, HQ.out]; rfl, qabd hbr _⟩
      case measure => simp [intOf]; omega
    ·rw [hb] at HB
     have HB2 := Lib.hid HB
     have hn : Hid (pre W key (j + 1) = 2 * pre W key j + 1) := by show _ = _; rw [hpr.out, hb]
     clear HB hb b3
     obtain ⟨q, hq⟩ : ∃ q, adr (j + 1) (2 * pre W key j + 1) = q := ⟨_, rfl⟩
     rw [hq] at b4
     have HQ := Lib.hid hq
     clear hq
     cases q with
     | none =>
      rw [qadq] at b4
      go_wp2_with fail
      go_big_quiet ((go_at_call 131; exact qae2 (HB2.out _ (qabd hbr _))))
      go_wp2_with fail
      go_roundw
      case rel => exact ⟨j + 1, by omega, by go_num, by rw [hn.out, HQ.out]; rfl, qabd hbr _⟩
      case measure => simp [intOf]; omega
     | some g2 =>
      rw [qact] at b4
      go_wp2_with fail
      go_big_quiet ((go_at_call 131; exact qae2 (HB2.out _ (qabd hbr _))))
      go_wp2_with fail
      go_roundw
      case rel => exact ⟨j + 1, by omega, by go_num, by rw [hn.out, HQ.out]; rfl, qabd hbr _⟩
      case measure => simp [intOf]; omega
  ·obtain rfl : j = k := by omega
   rw [HP.out]
   go_wp2_with fail
   go_ret
   exact ⟨rfl, hbr⟩
end Go.Proofs.YtalejfkholifpaaGreat
namespace Go.Proofs.YtalejfkholifpaaGreat
set_option linter.all false
open Go.RowKit
attribute [local go_sem ↓] Go.wp_at_zero Go.wp_at_succ
def qaew (adr : Nat → Int → Option Nat) (j : Nat) (u : Int) (o : Option Nat) : Nat → Int → Option Nat := fun i v => if i = j ∧ v = u then o else adr i v
theorem qabw (adr : Nat → Int → Option Nat) (j : Nat) (u : Int) (o : Option Nat) : qaew adr j u o j u = o := by unfold qaew; rw [if_pos ⟨rfl, rfl⟩]
theorem qabh {adr : Nat → Int → Option Nat} {j i : Nat} {u v : Int} {o : Option Nat} (h : ¬ (i = j ∧ v = u)) : qaew adr j u o i v = adr i v := by unfold qaew; rw [if_neg h]
def qaet (dat : Nat → Int → Dat) (j : Nat) (u : Int) (d : Dat) : Nat → Int → Dat := fun i v => if i = j ∧ v = u then d else dat i v
theorem qaeh (dat : Nat → Int → Dat) (j : Nat) (u : Int) (d : Dat) : qaet dat j u d j u = d := by unfold qaet; rw [if_pos ⟨rfl, rfl⟩]
theorem qadw {dat : Nat → Int → Dat} {j i : Nat} {u v : Int} {d : Dat} (h : ¬ (i = j ∧ v = u)) : qaet dat j u d i v = dat i v := by unfold qaet; rw [if_neg h]
def qa11 : Array Value := #[.bool false, .int .i64 0, .slice none 0 0, .pointer none, .pointer none]
theorem Pfx.grow {w : World} {gt : Nat} {width most n : Int} {M : Nat → Prop} {adr : Nat → Int → Option Nat} {dat : Nat → Int → Dat} (h : Pfx w gt width most n M adr dat) {j g c : Nat} {u : Int} (hg : adr j u = some g) (hc : c = 0 ∨ c = 1) (hn : adr (j + 1) (2 * u + c) = none) :
  Pfx ((w.setCell ⟨g, 3 + c, none⟩ (.pointer (some ⟨w.heap.size, 0, none⟩))).alloc (.cells qa11 103)) gt width most n M (qaew adr (j + 1) (2 * u + c) (some w.heap.size)) (qaet dat (j + 1) (2 * u + c) qaj3) := by
 have hgt : gt ≠ g := fun e => h.ne hg e.symm
 have hMg : ¬ M g := (h.trie.node _ _ _ hg).2
 have hwM : ¬ M w.heap.size := fun hk => Nat.lt_irrefl _ (h.trie.lt _ hk)
 have hs : Step (fun k => k = g) w ((w.setCell ⟨g, 3 + c, none⟩ (.pointer (some ⟨w.heap.size, 0, none⟩))).alloc (.cells qa11 103)) := (Step.set (fun k => k = g) w ⟨g, 3 + c, none⟩ rfl _).trans (Step.alloc _ _ _)
 refine ⟨?_, ⟨?_, ?_, ?_, fun k hk => Nat.lt_of_lt_of_le (h.trie.lt k hk) hs.size⟩, h.out, ?_⟩
 ·rw [qabh (by omega)]
  exact (h.blk.far (p := ⟨g, 3 + c, none⟩) hgt _).alloc _
 ·intro i v b e
  by_cases hx : i = j + 1 ∧ v = 2 * u + c
  ·obtain ⟨rfl, rfl⟩ := hx
   rw [qabw] at e
   cases e
   refine ⟨?_, hwM⟩
   rw [qaeh]
   refine ⟨none, 0, 0, ?_, RdL.nil_ _ _ _, Fits.of_i64 (by decide) (by decide)⟩
   have hch : ∀ d : Int, d = 0 ∨ d = 1 → adr (j + 1 + 1) (2 * (2 * u + c) + d) = none := fun d hd => by
    cases e : adr (j + 1 + 1) (2 * (2 * u + c) + d) with
    | none => rfl
    | some x =>
     have := h.trie.up (j + 1) (2 * (2 * u + c) + d) (by rw [e]; simp)
     rw [show (2 * (2 * u + c) + d) / 2 = 2 * u + c by omega, hn] at this
     exact absurd rfl this
   have h1 := hch 0 (.inl rfl)
   have h2 := hch 1 (.inr rfl)
   rw [Int.add_zero] at h1
   rw [qabh (by omega), qabh (by omega), h1, h2]
   have := Blk.new (w.setCell ⟨g, 3 + c, none⟩ (.pointer (some ⟨w.heap.size, 0, none⟩))) 103 qa11
   rw [show (w.setCell ⟨g, 3 + c, none⟩ (.pointer (some ⟨w.heap.size, 0, none⟩))).heap.size = w.heap.size by simp [World.setCell]] at this
   exact this
  ·rw [qabh hx] at e
   rw [qadw hx]
   obtain ⟨⟨ao, an, ac, b1, b2, b3⟩, hM⟩ := h.trie.node i v b e
   refine ⟨⟨ao, an, ac, ?_, b2.step (hs.mono fun k hk => by subst hk; exact hMg), b3⟩, hM⟩
   by_cases hij : i = j ∧ v = u
   ·obtain ⟨rfl, rfl⟩ := hij
    rw [hg] at e
    cases e
    have B := (b1.set_ (3 + c) (.pointer (some ⟨w.heap.size, 0, none⟩))).alloc (.cells qa11 103)
    rcases hc with rfl | rfl
    ·rw [show (2 * v + ((0 : Nat) : Int)) = 2 * v by simp, qabw, qabh (by omega)]
     simpa [ptr] using B
    ·rw [qabh (by simp; omega), show (2 * v + ((1 : Nat) : Int)) = 2 * v + 1 by simp, qabw]
     simpa [ptr] using B
   ·have hbg : b ≠ g := fun hb => hij (h.trie.inj i v j u g (by rw [e, hb]) hg)
    rw [qabh (by rcases hc with rfl | rfl <;> simp <;> omega), qabh (by rcases hc with rfl | rfl <;> simp <;> omega)]
    exact (b1.far (p := ⟨g, 3 + c, none⟩) hbg _).alloc _
 ·intro i v i2 v2 b e1 e2
  have hlt : ∀ i v b, adr i v = some b → b < w.heap.size := fun i v b e => by obtain ⟨⟨_, _, _, h1, _⟩, _⟩ := h.trie.node i v b e; exact h1.lt
  by_cases hx : i = j + 1 ∧ v = 2 * u + c
  ·by_cases hy : i2 = j + 1 ∧ v2 = 2 * u + c
   ·exact ⟨hx.1.trans hy.1.symm, hx.2.trans hy.2.symm⟩
   ·obtain ⟨rfl, rfl⟩ := hx
    rw [qabw] at e1
    rw [qabh hy] at e2
    cases e1
    exact absurd (hlt _ _ _ e2) (Nat.lt_irrefl _)
  ·rw [qabh hx] at e1
   by_cases hy : i2 = j + 1 ∧ v2 = 2 * u + c
   ·obtain ⟨rfl, rfl⟩ := hy
    rw [qabw] at e2
    cases e2
    exact absurd (hlt _ _ _ e1) (Nat.lt_irrefl _)
   ·rw [qabh hy] at e2
    exact h.trie.inj _ _ _ _ _ e1 e2
 ·intro i v hne
  by_cases hx : i + 1 = j + 1 ∧ v = 2 * u + c
  ·obtain ⟨h1, rfl⟩ := hx
   obtain rfl : i = j := by omega
   rw [show (2 * u + (c : Int)) / 2 = u by rcases hc with rfl | rfl <;> simp <;> omega]
   unfold qaew
   split
   ·simp
   ·rw [hg]; simp
  ·rw [qabh hx] at hne
   have := h.trie.up i v hne
   unfold qaew
   split
   ·simp
   ·exact this
 ·rw [qabh (by omega)]; exact h.root
structure Grown (w wr : World) (adr adr' : Nat → Int → Option Nat) (dat dat' : Nat → Int → Dat) : Prop where
 old : ∀ i v g, adr i v = some g → adr' i v = some g ∧ dat' i v = dat i v
 new : ∀ i v g, adr' i v = some g → adr i v = some g ∨ (w.heap.size ≤ g ∧ adr i v = none ∧ dat' i v = qaj3)
 step : Step (fun b => ∃ i v, adr i v = some b) w wr
theorem Grown.refl (w : World) (adr : Nat → Int → Option Nat) (dat : Nat → Int → Dat) : Grown w w adr adr dat dat := ⟨fun _ _ _ e => ⟨e, rfl⟩, fun _ _ _ e => .inl e, Step.refl _ _⟩
theorem Grown.below {w wr w' : World} {adr adr' : Nat → Int → Option Nat} {dat dat' : Nat → Int → Dat} (h : Grown w wr adr adr' dat dat') (hb : Below wr.heap.size wr w') : Grown w w' adr adr' dat dat' := ⟨h.old, h.new, h.step.trans (Step.of hb)⟩
theorem Step.fresh {A B : Nat → Prop} {w wr w' : World} (h : Step A w wr) (k : Step B wr w') (hB : ∀ b, B b → A b ∨ w.heap.size ≤ b) : Step A w w' :=
 ⟨k.os.trans h.os, k.tape.trans h.tape, k.output.trans h.output, Nat.le_trans h.size k.size, fun i hi hA => (k.block i (Nat.lt_of_lt_of_le hi h.size) fun hb => (hB i hb).elim hA fun h2 => absurd hi (Nat.not_lt_of_le h2)).trans (h.block i hi hA)⟩
theorem Grown.add {w wr : World} {gt : Nat} {width most n : Int} {M : Nat → Prop} {adr adr' : Nat → Int → Option Nat} {dat dat' : Nat → Int → Dat} (h : Grown w wr adr adr' dat dat') (hP : Pfx wr gt width most n M adr' dat') {j g c : Nat} {u : Int} (hg : adr' j u = some g) (hc : c = 0 ∨ c = 1) (hn : adr' (j + 1) (2 * u + c) = none) :
  Grown w ((wr.setCell ⟨g, 3 + c, none⟩ (.pointer (some ⟨wr.heap.size, 0, none⟩))).alloc (.cells qa11 103)) adr (qaew adr' (j + 1) (2 * u + c) (some wr.heap.size)) dat (qaet dat' (j + 1) (2 * u + c) qaj3) := by
 refine ⟨fun i v b e => ?_, fun i v b e => ?_, ?_⟩
 ·obtain ⟨h1, h2⟩ := h.old i v b e
  have hx : ¬ (i = j + 1 ∧ v = 2 * u + c) := fun hx => by obtain ⟨rfl, rfl⟩ := hx; rw [hn] at h1; cases h1
  rw [qabh hx, qadw hx]
  exact ⟨h1, h2⟩
 ·by_cases hx : i = j + 1 ∧ v = 2 * u + c
  ·obtain ⟨rfl, rfl⟩ := hx
   rw [qabw] at e
   cases e
   refine .inr ⟨h.step.size, ?_, qaeh _ _ _ _⟩
   cases e2 : adr (j + 1) (2 * u + c) with
   | none => rfl
   | some x => have := (h.old _ _ _ e2).1; rw [hn] at this; cases this
  ·rw [qabh hx] at e
   rw [qadw hx]
   exact h.new i v b e
 ·refine h.step.fresh ((Step.set (fun k => k = g) wr ⟨g, 3 + c, none⟩ rfl _).trans (Step.alloc _ _ _)) fun b hb => ?_
  subst hb
  rcases h.new j u b hg with e | ⟨e, _⟩
  ·exact .inl ⟨j, u, e⟩
  ·exact .inr e
set_option maxRecDepth 100000 in
set_option maxHeartbeats 4000000 in
theorem qako (gt : Nat) (W k : Nat) (key most n : Int) (M : Nat → Prop) (adr : Nat → Int → Option Nat) (dat : Nat → Int → Dat) (w : World) (h : Pfx w gt (W : Int) most n M adr dat) (hW : W ≤ 64) (hk : k ≤ W) (hkey : Fits .u64 key) (hlt : key < 2 ^ W) :
  Calls Tryz.prog 128 #[.pointer (some ⟨gt, 0, none⟩), .int .u64 key, .int .i64 (k : Int), .bool true] w fun e w' => ∃ adr' dat', e = .returned (ptr (adr' k (pre W key k))) ∧ adr' k (pre W key k) ≠ none ∧ Pfx w' gt (W : Int) most n M adr' dat' ∧ Grown w w' adr adr' dat dat' := by
 have h0 := h.blk.cell 3
 simp at h0
 have hz := h.blk.lt
 have H := Lib.hid h
 have p0 := qana (W := W) hkey.u64.1 hlt
 obtain ⟨R, hR⟩ : ∃ R, ptr (adr 0 0) = R := ⟨_, rfl⟩
 rw [hR] at h0
 have HR := Lib.hid hR
 have HP0 := Lib.hid p0
 clear h hR p0
 go_enter Tryz.func128, Tryz.ntmps128
 go_wp2_with fail
 go_loopw [9, 10] (fun p i wr => ∃ (j : Nat) (adr' : Nat → Int → Option Nat) (dat' : Nat → Int → Dat), j ≤ k ∧ i = .int .i64 j ∧ p = ptr (adr' j (pre W key j)) ∧ Pfx wr gt (W : Int) most n M adr' dat' ∧ Grown w wr adr adr' dat dat' ∧ adr' j (pre W key j) ≠ none) (fun _ i _ => k - (intOf i).toNat)
 case atStart => exact ⟨0, adr, dat, Nat.zero_le _, rfl, by rw [HP0.out, HR.out], H.out, Grown.refl _ _ _, by rw [HP0.out]; exact H.out.root⟩
 case round =>
  obtain ⟨j, adr', dat', hj, rfl, rfl, hP, hGr, hne⟩ := hrel
  by_cases hjk : j < k
  ·cases hE : adr' j (pre W key j) with
   | none => exact absurd hE hne
   | some g =>
    rw [qact]
    obtain ⟨ao, an, ac, _, _, _, b3, b4, _, hg, hfz⟩ := hP.trie.cells hE
    have hs := qahu key (show j < W by omega)
    have hpr := Lib.hid hs
    have HB := fun w' (hb : Below wr.heap.size wr w') => qahw gt W j key most n M adr' dat' w' (hP.below hb) hW (by omega) hkey
    have hkb : kbit W key j = 0 ∨ kbit W key j = 1 := by have := qaep W key j; omega
    have hgz : g < wr.heap.size := hg
    have HE := Lib.hid hE
    clear hs hg hE
    rcases hkb with hb | hb
    ·rw [hb] at HB
     have HB2 := Lib.hid HB
     have hn : Hid (pre W key (j + 1) = 2 * pre W key j) := by show _ = _; rw [hpr.out, hb]; omega
     clear HB hb b4
     obtain ⟨q, hq⟩ : ∃ q, adr' (j + 1) (2 * pre W key j) = q := ⟨_, rfl⟩
     rw [hq] at b3
     cases q with
     | none =>
      rw [qadq] at b3
      have HQ := Lib.hid hq
      clear hq
      go_wp2_with fail
      go_big_quiet ((go_at_call 131; exact qae2 (HB2.out _ (qabd (rf _) _))))
      have hPd := hP.below (qabd (rf wr) nq)
      have hGd := hGr.below (qabd (rf wr) nq)
      clear hgz hfz b3 HB2
      generalize wr.drewN nq = wd at hPd hGd ⊢
      obtain ⟨ao2, an2, ac2, x0, x1, x2, x3, x4, x5, hgz, hfz⟩ := hPd.trie.cells HE.out
      clear x0 x1 x2 x5 x4
      rw [HQ.out, qadq] at x3
      have hfr := hfz 3
      have HG := Lib.hid (Pfx.grow hPd (c := 0) HE.out (.inl rfl) (by simpa using HQ.out))
      have HGr := Lib.hid (hGd.add hPd HE.out (c := 0) (.inl rfl) (by simpa using HQ.out))
      clear hfz
      go_wp2_with fail
      go_roundw
      case rel =>
       have e2 : pre W key (j + 1) = 2 * pre W key j + ((0 : Nat) : Int) := by rw [hn.out]; simp
       exact ⟨j + 1, _, _, by omega, by go_num, by rw [e2, qabw]; rfl, HG.out, HGr.out, by rw [e2, qabw]; simp⟩
      case measure => simp [intOf]; omega
     | some g2 =>
      rw [qact] at b3
      have HQ := Lib.hid hq
      clear hq
      go_wp2_with fail
      go_big_quiet ((go_at_call 131; exact qae2 (HB2.out _ (qabd (rf _) _))))
      go_wp2_with fail
      go_roundw
      case rel => exact ⟨j + 1, adr', dat', by omega, by go_num, by rw [hn.out, HQ.out]; rfl, hP.below (qabd (rf _) _), hGr.below (qabd (rf _) _), by rw [hn.out, HQ.out]; simp⟩
      case measure => simp [intOf]; omega
    ·rw [hb] at HB
     have HB2 := Lib.hid HB
     have hn : Hid (pre W key (j + 1) = 2 * pre W key j + 1) := by show _ = _; rw [hpr.out, hb]
     clear HB hb b3
     obtain ⟨q, hq⟩ : ∃ q, adr' (j + 1) (2 * pre W key j + 1) = q := ⟨_, rfl⟩
     rw [hq] at b4
     cases q with
     | none =>
      rw [qadq] at b4
      have HQ := Lib.hid hq
      clear hq
      go_wp2_with fail
      go_big_quiet ((go_at_call 131; exact qae2 (HB2.out _ (qabd (rf _) _))))
      have hPd := hP.below (qabd (rf wr) nq)
      have hGd := hGr.below (qabd (rf wr) nq)
      clear hgz hfz b4 HB2
      generalize wr.drewN nq = wd at hPd hGd ⊢
      obtain ⟨ao2, an2, ac2, x0, x1, x2, x3, x4, x5, hgz, hfz⟩ := hPd.trie.cells HE.out
      clear x0 x1 x2 x5 x3
      rw [HQ.out, qadq] at x4
      have hfr := hfz 4
      have HG := Lib.hid (Pfx.grow hPd (c := 1) HE.out (.inr rfl) (by simpa using HQ.out))
      have HGr := Lib.hid (hGd.add hPd HE.out (c := 1) (.inr rfl) (by simpa using HQ.out))
      clear hfz
      go_wp2_with fail
      go_roundw
      case rel =>
       have e2 : pre W key (j + 1) = 2 * pre W key j + ((1 : Nat) : Int) := by rw [hn.out]; simp
       exact ⟨j + 1, _, _, by omega, by go_num, by rw [e2, qabw]; rfl, HG.out, HGr.out, by rw [e2, qabw]; simp⟩
      case measure => simp [intOf]; omega
     | some g2 =>
      rw [qact] at b4
      have HQ := Lib.hid hq
      clear hq
      go_wp2_with fail
      go_big_quiet ((go_at_call 131; exact qae2 (HB2.out _ (qabd (rf _) _))))
      go_wp2_with fail
      go_roundw
      case rel => exact ⟨j + 1, adr', dat', by omega, by go_num, by rw [hn.out, HQ.out]; rfl, hP.below (qabd (rf _) _), hGr.below (qabd (rf _) _), by rw [hn.out, HQ.out]; simp⟩
      case measure => simp [intOf]; omega
  ·obtain rfl : j = k := by omega
   obtain ⟨P, hPP⟩ : ∃ P, ptr (adr' j (pre W key j)) = P := ⟨_, rfl⟩
   have HPP := Lib.hid hPP
   rw [hPP]
   clear hPP
   go_wp2_with fail
   go_ret
   exact ⟨adr', dat', by rw [HPP.out]; rfl, hne, hP, hGr⟩
end Go.Proofs.YtalejfkholifpaaGreat
namespace Go.Proofs.YtalejfkholifpaaGreat
set_option linter.all false
open Go.RowKit
theorem qafb (ao : Option Addr) (n cap : Nat) (xs : List Int) (w : World) (hr : Rd w .u64 ao n cap xs) (hn : n ≤ 1000000) :
  Calls Tryz.prog 32 #[.slice ao n cap] w fun e w' => ∃ r, e = .returned r ∧ Mine w' w.heap.size 70 .u64 r xs ∧ Below w.heap.size w w' := by
 have hq := fun w : World => Lib.run_eql_slice_nil (P := Tryz.prog) w 24 70 ao n cap 0 0 Tryz.underlying24
 cases ao with
 | none =>
  have h0 := hr.nil rfl
  have h1 := hr.le
  have h2 := hr.len
  obtain rfl : cap = 0 := h0
  obtain rfl : n = 0 := by omega
  obtain rfl : xs = [] := List.eq_nil_of_length_eq_zero h2
  go_enter Tryz.func32, Tryz.ntmps32
  go_wp2_with fail
  go_ret
  exact ⟨_, rfl, Mine.nil _ _ _ _, Below.refl _ _⟩
 | some a =>
  have hr' : Rd (w.alloc (.cells #[] 70)) .u64 (some a) n cap xs := hr.below ((Below.refl _ _).alloc (Nat.le_refl _) _)
  have hm : Mine (w.alloc (.cells #[] 70)) w.heap.size 70 .u64 (.slice (some ⟨w.heap.size, 0, none⟩) 0 0) [] := ⟨World.ownsRow_made w #[] 0 (Nat.le_refl _) (by simp [maxLen]) rfl, by simp [AllFit]⟩
  go_enter Tryz.func32, Tryz.ntmps32
  go_wp2_with (at_builtin; refine qahk (v := .slice (some ⟨w.heap.size, 0, none⟩) 0 0) (xs := []) rfl _ _ 24 rfl qbab w.heap.size rfl hm rfl hr' (by simp; omega) (by omega) (by simp) ?_; intro r' w2 hm2 hg2)
  go_ret
  exact ⟨_, rfl, hm2, ((Below.refl _ _).alloc (Nat.le_refl _) _).grown hg2 (by simp) (by simp [Value.ownBlock])⟩
end Go.Proofs.YtalejfkholifpaaGreat
namespace Go.Proofs.YtalejfkholifpaaGreat
set_option linter.all false
open Go.RowKit
attribute [local go_sem ↓] Go.wp_at_zero Go.wp_at_succ
theorem Pfx.say {w w' : World} {gt : Nat} {width most n : Int} {M M' : Nat → Prop} {adr : Nat → Int → Option Nat} {dat : Nat → Int → Dat} (h : Pfx w gt width most n M adr dat) {i : Nat} {v : Int} {g : Nat} (hg : adr i v = some g) (hs : Step (fun k => k = g) w w')
  (hM : ∀ k, M k → M' k) (hM2 : ∀ k, M' k → M k ∨ w.heap.size ≤ k) (hM3 : ∀ k, M' k → k < w'.heap.size) {d : Dat} (hb : NodeAt w' M' adr i v g d) : Pfx w' gt width most n M' adr (qaet dat i v d) := by
 have hold : ∀ k, k < w.heap.size → ¬ M k → ¬ M' k := fun k hk hn hm => (hM2 k hm).elim hn fun h2 => Nat.not_lt_of_le h2 hk
 have hng : ¬ gt = g := fun e => h.ne hg e.symm
 refine ⟨(hs.block gt h.blk.lt hng).trans h.blk, ⟨fun j u b e => ?_, h.trie.inj, h.trie.up, hM3⟩, hold _ h.blk.lt h.out, h.root⟩
 obtain ⟨⟨ao, an, ac, b1, b2, b3⟩, b4⟩ := h.trie.node j u b e
 refine ⟨?_, hold _ b1.lt b4⟩
 by_cases hx : j = i ∧ u = v
 ·obtain ⟨rfl, rfl⟩ := hx
  rw [hg] at e
  cases e
  rw [qaeh]
  exact hb
 ·rw [qadw hx]
  have hbg : ¬ b = g := fun e2 => hx (h.trie.inj j u i v g (by rw [e, e2]) hg)
  refine ⟨ao, an, ac, (hs.block b b1.lt hbg).trans b1, ?_, b3⟩
  have h1 := b2.step (hs.mono fun k hk => by subst hk; exact (h.trie.node _ _ _ hg).2)
  exact h1.weaken fun k hk _ hm => hk (hM k hm)
theorem Pfx.count {w : World} {gt : Nat} {width most n : Int} {M : Nat → Prop} {adr : Nat → Int → Option Nat} {dat : Nat → Int → Dat} (h : Pfx w gt width most n M adr dat) (n' : Int) : Pfx (w.setCell ⟨gt, 2, none⟩ (.int .i64 n')) gt width most n' M adr dat := by
 have hs := Step.set (fun k => k = gt) w ⟨gt, 2, none⟩ rfl (.int .i64 n')
 refine ⟨by have := h.blk.set_ 2 (.int .i64 n'); simpa using this, h.trie.step hs (fun k hk => by subst hk; exact h.out) (fun i v g e hk => h.ne e hk), h.out, h.root⟩
def ent (adr : Nat → Int → Option Nat) (dat : Nat → Int → Dat) (i : Nat) (v : Int) : Option (Int × List Int) := match adr i v with
 | some _ => if (dat i v).there then some ((dat i v).act, (dat i v).args) else none
 | none => none
theorem qadt {adr : Nat → Int → Option Nat} {dat : Nat → Int → Dat} {i : Nat} {v : Int} (h : adr i v = none) : ent adr dat i v = none := by unfold ent; rw [h]
theorem qac7 {adr : Nat → Int → Option Nat} {dat : Nat → Int → Dat} {i : Nat} {v : Int} {g : Nat} (h : adr i v = some g) : ent adr dat i v = if (dat i v).there then some ((dat i v).act, (dat i v).args) else none := by unfold ent; rw [h]
def PfxObj (w : World) (Fp : Nat → Prop) (gt : Nat) (width most n : Int) (E : Nat → Int → Option (Int × List Int)) : Prop :=
 ∃ M adr dat, Pfx w gt width most n M adr dat ∧ (∀ i v, ent adr dat i v = E i v) ∧ Fp gt ∧ (∀ k, M k → Fp k) ∧ (∀ i v g, adr i v = some g → Fp g) ∧ ∀ k, Fp k → k < w.heap.size
theorem PfxObj.below {w w' : World} {Fp : Nat → Prop} {gt : Nat} {width most n : Int} {E : Nat → Int → Option (Int × List Int)} (h : PfxObj w Fp gt width most n E) (hb : Below w.heap.size w w') : PfxObj w' Fp gt width most n E := by
 obtain ⟨M, adr, dat, h1, h2, h3, h4, h5, h6⟩ := h
 exact ⟨M, adr, dat, h1.below hb, h2, h3, h4, h5, fun k hk => Nat.lt_of_lt_of_le (h6 k hk) hb.size⟩
instance {Fp : Nat → Prop} {gt : Nat} {width most n : Int} {E : Nat → Int → Option (Int × List Int)} : Mono (fun w => PfxObj w Fp gt width most n E) := ⟨fun h hb => h.below hb⟩
theorem PfxObj.step {w w' : World} {Fp : Nat → Prop} {gt : Nat} {width most n : Int} {E : Nat → Int → Option (Int × List Int)} (h : PfxObj w Fp gt width most n E) {S : Nat → Prop} (hs : Step S w w') (hd : ∀ k, S k → ¬ Fp k) : PfxObj w' Fp gt width most n E := by
 obtain ⟨M, adr, dat, h1, h2, h3, h4, h5, h6⟩ := h
 exact ⟨M, adr, dat, ⟨(hs.block gt h1.blk.lt fun hk => hd _ hk h3).trans h1.blk, h1.trie.step hs (fun k hk hm => hd k hk (h4 k hm)) (fun i v g e hk => hd g hk (h5 i v g e)), h1.out, h1.root⟩, h2, h3, h4, h5, fun k hk => Nat.lt_of_lt_of_le (h6 k hk) hs.size⟩
def qad4 (E : Nat → Int → Option (Int × List Int)) (i : Nat) (v : Int) (x : Option (Int × List Int)) : Nat → Int → Option (Int × List Int) := fun j u => if j = i ∧ u = v then x else E j u
def qacq (width most n : Int) (E : Nat → Int → Option (Int × List Int)) (key k : Int) : Int :=
 if qafy width key k = false then 6 else if (E k.toNat (pre width.toNat key k.toNat)).isSome then 7 else if most ≤ n then 10 else 0
def qaex (width most n : Int) (E : Nat → Int → Option (Int × List Int)) (key k : Int) : Int := if qacq width most n E key k = 0 then n + 1 else n
def qae4 (width most n : Int) (E : Nat → Int → Option (Int × List Int)) (key k act : Int) (args : List Int) : Nat → Int → Option (Int × List Int) := if qacq width most n E key k = 0 then qad4 E k.toNat (pre width.toNat key k.toNat) (some (act, args)) else E
theorem qaf8 {width most n : Int} {E : Nat → Int → Option (Int × List Int)} {key k : Int} (h : qacq width most n E key k ≠ 0) (act : Int) (args : List Int) : qaex width most n E key k = n ∧ qae4 width most n E key k act args = E := by unfold qaex qae4; rw [if_neg h, if_neg h]; exact ⟨rfl, rfl⟩
theorem qakp {width most n : Int} {E : Nat → Int → Option (Int × List Int)} {key k : Int} (h : qacq width most n E key k = 0) (act : Int) (args : List Int) : qaex width most n E key k = n + 1 ∧ qae4 width most n E key k act args = qad4 E k.toNat (pre width.toNat key k.toNat) (some (act, args)) := by unfold qaex qae4; rw [if_pos h, if_pos h]; exact ⟨rfl, rfl⟩
theorem qae5 {width key k : Int} (h : qafy width key k = true) : ∃ W K : Nat, width = W ∧ k = K ∧ 1 ≤ W ∧ W ≤ 64 ∧ K ≤ W ∧ key < 2 ^ W ∧ key % 2 ^ (W - K) = 0 := by
 unfold qafy at h
 rw [decide_eq_true_iff] at h
 obtain ⟨h1, h2, h3, h4, h5, h6⟩ := h
 refine ⟨width.toNat, k.toNat, by omega, by omega, by omega, by omega, by omega, h5, ?_⟩
 rw [show width.toNat - k.toNat = (width - k).toNat by omega]; exact h6
theorem Grown.ent {w wr : World} {adr adr' : Nat → Int → Option Nat} {dat dat' : Nat → Int → Dat} (h : Grown w wr adr adr' dat dat') (i : Nat) (v : Int) : ent adr' dat' i v = ent adr dat i v := by
 cases e : adr' i v with
 | none =>
  rw [qadt e]
  cases e2 : adr i v with
  | none => rw [qadt e2]
  | some g => have := (h.old i v g e2).1; rw [e] at this; cases this
 | some g =>
  rw [qac7 e]
  rcases h.new i v g e with e2 | ⟨_, e2, e3⟩
  ·rw [qac7 e2, (h.old i v g e2).2]
  ·rw [qadt e2, e3]; rfl
def qao5 (w4 : World) (g : Nat) (act : Int) (sl : Value) : World := ((w4.setCell ⟨g, 0, none⟩ (.bool true)).setCell ⟨g, 1, none⟩ (.int .i64 act)).setCell ⟨g, 2, none⟩ sl
theorem qaki (w4 : World) (g : Nat) (act : Int) (sl : Value) : Step (fun k => k = g) w4 (qao5 w4 g act sl) :=
 ((Step.set (fun k => k = g) w4 ⟨g, 0, none⟩ rfl _).trans (Step.set (fun k => k = g) _ ⟨g, 1, none⟩ rfl _)).trans (Step.set (fun k => k = g) _ ⟨g, 2, none⟩ rfl _)
theorem Pfx.said {w3 w4 : World} {gt : Nat} {width most n act : Int} {args : List Int} {M : Nat → Prop} {adr : Nat → Int → Option Nat} {dat : Nat → Int → Dat} (h : Pfx w3 gt width most n M adr dat) {i : Nat} {v : Int} {g : Nat} (hg : adr i v = some g) (hb : Below w3.heap.size w3 w4) {a4 : Option Addr} {n4 c4 : Nat}
  (hm : Mine w4 w3.heap.size 70 .u64 (.slice a4 n4 c4) args) (hact : Fits .i64 act) :
  Pfx (qao5 w4 g act (.slice a4 n4 c4)) gt width most n (fun k => M k ∨ (Value.slice a4 n4 c4).ownBlock = some k) adr (qaet dat i v ⟨true, act, args⟩) := by
 have hs := qaki w4 g act (.slice a4 n4 c4)
 obtain ⟨⟨ao, an, ac, b1, b2, b3⟩, b4⟩ := h.trie.node i v g hg
 have B4 := b1.below hb b1.lt
 refine h.say hg ((Step.of hb).trans hs) (fun k hk => .inl hk) (fun k hk => hk.imp id fun e => (hm.1.lt k e).1) (fun k hk => ?_) ?_
 ·have h2 : (qao5 w4 g act (.slice a4 n4 c4)).heap.size = w4.heap.size := by simp [qao5, World.setCell]
  rw [h2]
  rcases hk with hk | hk
  ·exact Nat.lt_of_lt_of_le (h.trie.lt k hk) hb.size
  ·exact (hm.1.lt k hk).2
 ·refine ⟨a4, n4, c4, ?_, ?_, hact⟩
  ·have := ((B4.set_ 0 (.bool true)).set_ 1 (.int .i64 act)).set_ 2 (.slice a4 n4 c4)
   unfold qao5
   simpa using this
  ·have hr := hm.rd_
   have hne : ∀ b off, a4 = some ⟨b, off, none⟩ → 0 < n4 → ¬ (fun k => k = g) b := by
    intro b off e _ hbg
    have hown : (Value.slice a4 n4 c4).ownBlock = some g := by rw [e]; show some b = some g; rw [show b = g from hbg]
    have := (hm.1.lt g hown).1
    exact Nat.not_lt_of_le this b1.lt
   have hr2 : Rd (qao5 w4 g act (.slice a4 n4 c4)) .u64 a4 n4 c4 args := by
    have hl := hr.len
    refine ⟨hr.len, hr.fit, hr.le, hr.max, fun h0 => ?_, hr.nil⟩
    obtain ⟨b, off, e, hc⟩ := hr.here h0
    exact ⟨b, off, e, fun j hj => hs.cell (hc j hj) (hne b off e (by omega))⟩
   refine hr2.lay _ fun a ha _ hk => hk (.inr ?_)
   rw [ha]; rfl
theorem PfxObj.added {w w2 w3 w4 : World} {Fp : Nat → Prop} {gt : Nat} {width most n act : Int} {args : List Int} {M : Nat → Prop} {adr adr' : Nat → Int → Option Nat} {dat dat' : Nat → Int → Dat} {E : Nat → Int → Option (Int × List Int)} (n' : Int)
  (h2 : ∀ i v, ent adr dat i v = E i v) (h3 : Fp gt) (h4 : ∀ k, M k → Fp k) (h5 : ∀ i v g, adr i v = some g → Fp g) (h6 : ∀ k, Fp k → k < w.heap.size) (hB : Below w.heap.size w w2) (hG : Grown w2 w3 adr adr' dat dat') (hP : Pfx w3 gt width most n M adr' dat')
  {i : Nat} {v : Int} {g : Nat} (hg : adr' i v = some g) (hb : Below w3.heap.size w3 w4) {a4 : Option Addr} {n4 c4 : Nat} (hm : Mine w4 w3.heap.size 70 .u64 (.slice a4 n4 c4) args) (hact : Fits .i64 act) :
  ∃ Fp', PfxObj ((qao5 w4 g act (.slice a4 n4 c4)).setCell ⟨gt, 2, none⟩ (.int .i64 n')) Fp' gt width most n' (qad4 E i v (some (act, args))) ∧ (∀ b, Fp' b → Fp b ∨ w.heap.size ≤ b) ∧ Step Fp w ((qao5 w4 g act (.slice a4 n4 c4)).setCell ⟨gt, 2, none⟩ (.int .i64 n')) := by
 have hnode : ∀ i v b, adr' i v = some b → Fp b ∨ w.heap.size ≤ b := fun i v b e => by
  rcases hG.new i v b e with h | ⟨h, _⟩
  ·exact .inl (h5 i v b h)
  ·exact .inr (Nat.le_trans hB.size h)
 have hsz : w.heap.size ≤ w3.heap.size := Nat.le_trans hB.size hG.step.size
 have hown : ∀ k, (Value.slice a4 n4 c4).ownBlock = some k → w3.heap.size ≤ k ∧ k < w4.heap.size := fun k hk => hm.1.lt k hk
 have hs2 : (qao5 w4 g act (.slice a4 n4 c4)).heap.size = w4.heap.size := by simp [qao5, World.setCell]
 refine ⟨fun b => Fp b ∨ (∃ i v, adr' i v = some b) ∨ (Value.slice a4 n4 c4).ownBlock = some b, ⟨_, adr', qaet dat' i v ⟨true, act, args⟩, (hP.said hg hb hm hact).count n', fun j u => ?_, .inl h3, fun k hk => ?_, fun j u b e => .inr (.inl ⟨j, u, e⟩), fun k hk => ?_⟩, fun b hk => ?_, ?_⟩
 ·unfold qad4
  by_cases hx : j = i ∧ u = v
  ·obtain ⟨rfl, rfl⟩ := hx
   rw [if_pos ⟨rfl, rfl⟩, qac7 hg, qaeh]; rfl
  ·rw [if_neg hx, ← h2 j u, ← hG.ent j u]
   unfold ent
   rw [qadw hx]
 ·rcases hk with hk | hk
  ·exact .inl (h4 k hk)
  ·exact .inr (.inr hk)
 ·have : ((qao5 w4 g act (.slice a4 n4 c4)).setCell ⟨gt, 2, none⟩ (.int .i64 n')).heap.size = w4.heap.size := by rw [← hs2]; simp [World.setCell]
  rw [this]
  rcases hk with hk | ⟨j, u, e⟩ | hk
  ·exact Nat.lt_of_lt_of_le (h6 k hk) (Nat.le_trans hsz hb.size)
  ·obtain ⟨⟨_, _, _, b1, _⟩, _⟩ := hP.trie.node j u k e
   exact Nat.lt_of_lt_of_le b1.lt hb.size
  ·exact (hown k hk).2
 ·rcases hk with hk | ⟨j, u, e⟩ | hk
  ·exact .inl hk
  ·exact hnode j u b e
  ·exact .inr (Nat.le_trans hsz (hown b hk).1)
 ·have s1 : Step Fp w w3 := ((Step.of hB : Step Fp w w2)).trans (hG.step.mono fun b ⟨j, u, e⟩ => h5 j u b e)
  refine ((s1.trans (Step.of hb)).fresh (qaki w4 g act (.slice a4 n4 c4)) fun b hbg => ?_).trans (Step.set Fp _ ⟨gt, 2, none⟩ h3 _)
  rw [show b = g from hbg]
  exact hnode i v g hg
end Go.Proofs.YtalejfkholifpaaGreat
namespace Go.Proofs.YtalejfkholifpaaGreat
set_option linter.all false
open Go.RowKit
attribute [local go_sem ↓] Go.wp_at_zero Go.wp_at_succ
theorem Rd.step_ {w w' : World} {k : IntKind} {ao : Option Addr} {n cap : Nat} {xs : List Int} (h : Rd w k ao n cap xs) {S : Nat → Prop} (hs : Step S w w') (hS : ∀ b off, ao = some ⟨b, off, none⟩ → 0 < n → ¬ S b) : Rd w' k ao n cap xs := by
 have hl := h.len
 refine ⟨h.len, h.fit, h.le, h.max, fun h0 => ?_, h.nil⟩
 obtain ⟨b, off, e, hc⟩ := h.here h0
 exact ⟨b, off, e, fun i hi => hs.cell (hc i hi) (hS b off e (by omega))⟩
theorem Below.drew0_ (w : World) : Below w.heap.size w w.drew := ⟨rfl, rfl, rfl, Nat.le_refl _, fun _ _ => rfl⟩
theorem Rd.noNode {w : World} {ao : Option Addr} {n cap : Nat} {xs : List Int} (h : Rd w .u64 ao n cap xs) {M : Nat → Prop} {adr : Nat → Int → Option Nat} {dat : Nat → Int → Dat} (ht : Trie w M adr dat) : ∀ b off, ao = some ⟨b, off, none⟩ → 0 < n → ¬ ∃ i v, adr i v = some b := by
 rintro b off e h0 ⟨i, v, hg⟩
 have hl := h.len
 obtain ⟨b2, off2, e2, hc⟩ := h.here (by omega)
 rw [e] at e2
 cases e2
 have hx := hc 0 (by omega)
 obtain ⟨⟨a1, a2, a3, hb, _⟩, _⟩ := ht.node i v b hg
 rw [Nat.add_zero, hb.cell] at hx
 have : off = 0 ∨ off = 1 ∨ off = 2 ∨ off = 3 ∨ off = 4 ∨ 5 ≤ off := by omega
 rcases this with rfl | rfl | rfl | rfl | rfl | h5
 ·simp at hx
 ·simp at hx
 ·simp at hx
 ·simp [ptr] at hx
 ·simp [ptr] at hx
 ·rw [Array.getElem?_eq_none (by simpa using h5)] at hx; cases hx
set_option maxRecDepth 100000 in
set_option maxHeartbeats 4000000 in
theorem qavn (gt : Nat) (Fp : Nat → Prop) (width most n key k act : Int) (ao : Option Addr) (an ac : Nat) (args : List Int) (E : Nat → Int → Option (Int × List Int)) (w : World) (h : PfxObj w Fp gt width most n E) (hw : Fits .i64 width) (hkey : Fits .u64 key) (hk : Fits .i64 k) (hact : Fits .i64 act) (hr : Rd w .u64 ao an ac args) (han : an ≤ 1000000) (hn : 0 ≤ n ∧ n ≤ 1000000) :
  Calls Tryz.prog 122 #[.pointer (some ⟨gt, 0, none⟩), .int .u64 key, .int .i64 k, .agg #[.int .i64 act, .slice ao an ac]] w fun e w' => e = .returned (.int .i64 (qacq width most n E key k)) ∧
   ∃ Fp', PfxObj w' Fp' gt width most (qaex width most n E key k) (qae4 width most n E key k act args) ∧ (∀ b, Fp' b → Fp b ∨ w.heap.size ≤ b) ∧ Step Fp w w' := by
 have HO := Lib.hid h
 obtain ⟨M, adr, dat, h1, h2, h3, h4, h5, h6⟩ := h
 have hal := al (rf w) (.cells #[.int .i64 act, .slice ao an ac] 46)
 have H1 := Lib.hid (h1.below hal)
 by_cases hf : qafy width key k = true
 case neg =>
  have hf' : qafy width key k = false := by simpa using hf
  have hc : qacq width most n E key k = 6 := by unfold qacq; rw [if_pos hf']
  obtain ⟨e1, e2⟩ := qaf8 (show qacq width most n E key k ≠ 0 by rw [hc]; decide) act args
  rw [hc, e1, e2]
  have HF := Lib.hid hf'
  clear hf hf' hc e1 e2 h6 h5 h4 h3 h2
  go_enter Tryz.func122, Tryz.ntmps122
  go_wp2_with fail
  refine (qac4 _ _ _ _ _ _ _ _ _ _ H1.out hw hk hkey).mono ?_
  rintro e w' ⟨rfl, rfl⟩
  rw [HF.out]
  go_wp2_with fail
  go_ret
  exact ⟨rfl, Fp, HO.out.below hal, fun b hb => .inl hb, Step.of hal⟩
 obtain ⟨W, K, rfl, rfl, hW1, hW, hK, hlt, hmod⟩ := qae5 hf
 have HF := Lib.hid hf
 have hE := h2 K (pre W key K)
 have HA := Lib.hid (qahc gt W K key most n M adr dat)
 go_enter Tryz.func122, Tryz.ntmps122
 go_wp2_with fail
 refine (qac4 _ _ _ _ _ _ _ _ _ _ H1.out hw hk hkey).mono ?_
 rintro e w' ⟨rfl, rfl⟩
 rw [HF.out]
 go_wp2_with fail
 refine (qahc gt W K key most n M adr dat _ H1.out hW hK hkey hlt).mono ?_
 rintro e w2 ⟨rfl, hb2⟩
 have hB2 := ov hal hb2
 have H2 := Lib.hid (H1.out.below hb2)
 have hbox : w2.cell? ⟨w.heap.size, 0, none⟩ = some (.int .i64 act) ∧ w2.cell? ⟨w.heap.size, 1, none⟩ = some (.slice ao an ac) := by
  obtain ⟨x, y⟩ := (Blk.new w 46 #[.int .i64 act, .slice ao an ac]).two
  exact ⟨keep x hb2, keep y hb2⟩
 obtain ⟨hx0, hx1⟩ := hbox
 have hxz : w.heap.size < w2.heap.size := by have := hb2.size; simp at this; omega
 clear hb2 hal
 have hcs : (∃ g, adr K (pre W key K) = some g ∧ (dat K (pre W key K)).there = true) ∨ (E K (pre W key K) = none ∧ (adr K (pre W key K) = none ∨ ∃ g, adr K (pre W key K) = some g ∧ (dat K (pre W key K)).there = false)) := by
  cases e : adr K (pre W key K) with
  | none => exact .inr ⟨by rw [← hE, qadt e], .inl rfl⟩
  | some g =>
   cases t : (dat K (pre W key K)).there with
   | true => exact .inl ⟨g, rfl, rfl⟩
   | false => exact .inr ⟨by rw [← hE, qac7 e, t]; rfl, .inr ⟨g, rfl, rfl⟩⟩
 rcases hcs with ⟨g, e, t⟩ | ⟨hE0, hcs⟩
 ·have hc : Hid (qacq (W : Int) most n E key (K : Int) = 7) := by
   show _ = _
   unfold qacq
   rw [if_neg (by rw [HF.out]; decide), if_pos]
   show (E K (pre W key K)).isSome = true
   rw [← hE, qac7 e, t]; rfl
  rw [e, qact]
  obtain ⟨_, _, _, y0, _, _, _, _, _, hgz, _⟩ := H2.out.trie.cells e
  rw [t] at y0
  clear hx0 hx1 hE t e h2 h3 h4 h5 h6 h1
  go_wp2_with fail
  go_ret
  obtain ⟨e1, e2⟩ := qaf8 (show qacq (W : Int) most n E key (K : Int) ≠ 0 by rw [hc.out]; decide) act args
  rw [hc.out, e1, e2]
  exact ⟨rfl, Fp, HO.out.step (S := fun _ => False) (Step.of hB2) (fun _ h => h.elim), fun b hb => .inl hb, Step.of hB2⟩
 have HE0 := Lib.hid hE0
 have T0 := H2.out.blk.cell 1
 have T1 := H2.out.blk.cell 2
 simp at T0 T1
 have Tz := H2.out.blk.lt
 have hc : Hid (qacq (W : Int) most n E key (K : Int) = if most ≤ n then 10 else 0) := by
  show _ = _
  unfold qacq
  rw [if_neg (by rw [HF.out]; decide), if_neg]
  show ¬ (E K (pre W key K)).isSome = true
  rw [HE0.out]; decide
 have H6 := Lib.hid h6
 have H5 := Lib.hid h5
 have H24 := Lib.hid (And.intro h2 h4)
 have hCs := hcs
 clear hE hE0 h1 h2 h4 h5 h6 hCs
 have hmd : ∃ p : Value, ptr (adr K (pre W key K)) = p ∧ (p = .pointer none ∨ ∃ g, p = .pointer (some ⟨g, 0, none⟩) ∧ w2.cell? ⟨g, 0, none⟩ = some (.bool false) ∧ g < w2.heap.size) := by
  rcases hcs with e | ⟨g, e, t⟩
  ·exact ⟨_, by rw [e]; rfl, .inl rfl⟩
  ·obtain ⟨_, _, _, y0, _, _, _, _, _, hgz, _⟩ := H2.out.trie.cells e
   rw [t] at y0
   exact ⟨_, by rw [e]; rfl, .inr ⟨g, rfl, y0, hgz⟩⟩
 obtain ⟨p, hp, hpc⟩ := hmd
 rw [hp]
 clear hp hcs
 by_cases hfull : most ≤ n
 ·have hfull' : decide (most ≤ n) = true := decide_eq_true hfull
  have hc2 : Hid (qacq (W : Int) most n E key (K : Int) = 10) := by show _ = _; rw [hc.out, if_pos hfull]
  clear hx0 hx1
  rcases hpc with rfl | ⟨g, rfl, y0, hgz⟩
  all_goals
   go_wp2_with fail
   go_big_quiet (fail)
   go_wp2_with fail
   go_ret
   obtain ⟨e1, e2⟩ := qaf8 (show qacq (W : Int) most n E key (K : Int) ≠ 0 by rw [hc2.out]; decide) act args
   rw [hc2.out, e1, e2]
   exact ⟨rfl, Fp, HO.out.step (S := fun _ => False) (Step.of (qabd hB2 _)) (fun _ h => h.elim), fun b hb => .inl hb, Step.of (qabd hB2 _)⟩
 have hfull' : decide (most ≤ n) = false := decide_eq_false hfull
 have hc2 : Hid (qacq (W : Int) most n E key (K : Int) = 0) := by show _ = _; rw [hc.out, if_neg hfull]
 rcases hpc with rfl | ⟨g0, rfl, y0, hgz0⟩
 all_goals
  go_wp2_with fail
  go_big_quiet (fail)
  go_wp2_with fail
  refine (qako gt W K key most n M adr dat _ (H2.out.below (qabd (rf _) _)) hW hK hkey hlt).mono ?_
  rintro e w3 ⟨adr', dat', rfl, hne, hP3, hG3⟩
  cases e3 : adr' K (pre W key K) with
  | none => exact absurd e3 hne
  | some g =>
   rw [qact]
   have hnb : ∀ i v b, adr i v = some b → b < w.heap.size := fun i v b hb => H6.out b (H5.out i v b hb)
   have hd0 : w3.cell? ⟨w.heap.size, 0, none⟩ = some (.int .i64 act) := hG3.step.cell (keep hx0 (qabd (rf _) _)) (fun ⟨i, v, hb⟩ => Nat.lt_irrefl _ (hnb i v _ hb))
   have hd1 : w3.cell? ⟨w.heap.size, 1, none⟩ = some (.slice ao an ac) := hG3.step.cell (keep hx1 (qabd (rf _) _)) (fun ⟨i, v, hb⟩ => Nat.lt_irrefl _ (hnb i v _ hb))
   have hr3 : Rd w3 .u64 ao an ac args := ((hr.below hB2).below (qabd (rf w2) nq)).step_ hG3.step (Rd.noNode ((hr.below hB2).below (qabd (rf w2) nq)) (H2.out.below (qabd (rf w2) nq)).trie)
   have hxz3 : w.heap.size < w3.heap.size := Nat.lt_of_lt_of_le hxz hG3.step.size
   obtain ⟨⟨na, nn, nc, B3, _, _⟩, nM⟩ := hP3.trie.node _ _ _ e3
   have hgne : ¬ w.heap.size = g := by
    intro hh
    rcases hG3.new _ _ _ e3 with h | ⟨h, _⟩
    ·have := hnb _ _ _ h; omega
    ·have hs : (w2.drewN nq).heap.size = w2.heap.size := rfl
     rw [hs] at h; omega
   have hr4 := hr3.below (Below.drew0_ w3)
   have hd0' : w3.drew.cell? ⟨w.heap.size, 0, none⟩ = some (.int .i64 act) := hd0
   have hd1' : w3.drew.cell? ⟨w.heap.size, 1, none⟩ = some (.slice ao an ac) := hd1
   clear hx0 hx1
   go_wp2_with fail
   go_region_law ((first
    | (go_simp; go_at_call 32; refine (qafb _ _ _ _ _ (hr4.below (rf _)) han).mono ?_; rintro e w4 ⟨r4, rfl, hm4, hb4⟩; obtain ⟨a4, c4, rfl⟩ := hm4.form; have B4 : Blk w4 g _ _ := Blk.below (w := w3.drew) B3 hb4 B3.lt; have m0 := B4.cell 0; have m1 := B4.cell 1; have m2 := B4.cell 2; simp at m0 m1 m2; have mf0 := B4.frozen 0; have mf1 := B4.frozen 1; have mf2 := B4.frozen 2; have mz := B4.lt; have m5 := keep hd0' hb4; have m6 := keep hd1' hb4; have m7 : w.heap.size < w4.heap.size := Nat.lt_of_lt_of_le hxz3 hb4.size)))
   all_goals
    have hFin := PfxObj.added (n + 1) H24.out.1 h3 H24.out.2 H5.out H6.out (qabd hB2 nq) hG3 hP3 e3 ((Below.drew0_ w3).trans hb4) hm4 hact
    have hwr : IntKind.i64.wrap (n + 1) = n + 1 := qadk (by omega) (by omega)
    have hPs := hP3.said e3 ((Below.drew0_ w3).trans hb4) hm4 hact
    have t2 := hPs.blk.cell 2
    simp at t2
    have tz := hPs.blk.lt
    have tf := hPs.blk.frozen 2
    have HFin := Lib.hid hFin
    clear hFin hPs m0 m1 m2 mf0 mf1 mf2 m5 m6 B4 B3 hd0 hd1 hd0' hd1' hm4 hb4
    change Exit.then _ _ _ _ (qao5 w4 g act (.slice a4 args.length c4))
    generalize qao5 w4 g act (.slice a4 args.length c4) = wF at *
    go_wp2_with fail
    go_ret
    obtain ⟨e1, e2⟩ := qakp (show qacq (W : Int) most n E key (K : Int) = 0 from hc2.out) act args
    rw [hc2.out, e1, e2]
    exact ⟨rfl, HFin.out⟩
end Go.Proofs.YtalejfkholifpaaGreat
