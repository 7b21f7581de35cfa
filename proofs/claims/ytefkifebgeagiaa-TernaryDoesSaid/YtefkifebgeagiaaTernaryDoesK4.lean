/-
  Texts joined: XTerH XTerI XTerJ XTerO XTerK XTerL XTerM XTrow XShPL XTerP XTerN XBv XTerR XCrow XTabE XRowA XRowB XRowC XRowD XRowE. No condition.
-/
import Derived.WalkSpells
import Derived.RegionTactic
import Derived.BigRegion
import Derived.Deep.RegionLaw
import Derived.Test.YtefkifebgeagiaaProg
import Derived.Test.YtefkifebgeagiaaTernaryDoesK3
namespace Go.Proofs.Ytefkifebgeagiaa
set_option linter.all false
open Go.RowKit
attribute [local simp] qaao qaan qaac qaah qaad qaag qaal qaam qaaa qaay SOp.run SX.ev putd puts argS upds SOp.touch SSt.keep SSt.skip gets geth puth delh idOf SV.cells? setL qab0 qab1 sbin eq0 eq1 eqL qabz qabd qabe qaau qaak qaab qaap qaaz qaaf qaai FrzOk qaa4 qaaw qaa2 qaa3 qaaq qaav qabb qaax qaas qaa5 qaar frzS frzH frz frz1 frz0 SlotsM ObjsM ObjM rn ren ren1 ren0 qabj qabs qaby qabi qabc qabu qabx CoL qaa6 qab4 dels adds idsH qabv
attribute [local irreducible] qacz
theorem qa2b {X : Cx} {s : SSt} {c : qac6} {n t : Nat} {l : List Entry} {b : Bool} (hw : Wk X s ⟨[(t, .bool b)], hobn c n l, 2⟩) : QFun X [.tmp t] 2 (.bool b) (hobn c n l) .ret s := ⟨_, hw, by simp [qagq, resL, resV, one_, gets], ⟨rfl, rfl, trivial⟩, by simp⟩
theorem down_s (c : qac6) (l : List Entry) (i0 n : Nat) (hn : n ≤ l.length) (hi0 : i0 ≤ l.length) (hb : l.length ≤ 1000000) (hs : ∀ x ∈ l, qab7 x) (q : Nat) (hq : 2 ≤ q) : SCalls Try.prog 54 [.ifc 73 (.ptr 0 (hoff c)), .int .i64 i0, .int .i64 n] (hobj c l) q (.bool (decide (i0 < (qadq (n - i0 + 1) l i0 n).2))) (hobj c (qadq (n - i0 + 1) l i0 n).1) := by
 refine h_up ?_ q hq rfl rfl rfl
 obtain ⟨F, hF⟩ : ∃ F, F = qadq (n - i0 + 1) l i0 n := ⟨_, rfl⟩
 have hFl : F.1.length = l.length := by rw [hF]; exact (qacr _ _ _ _).length_eq
 rw [← hF, qacw hFl, qacw (c := c) (l := l) rfl]
 generalize hN : l.length = N at hn hb hFl hi0
 replace hF := Lib.hid hF
 replace hFl := Lib.hid hFl
 replace hs := Lib.hid hs
 replace hN := Lib.hid hN
 refine qaa0 (N := 48) Try.func54 rfl rfl (by kernel_rfl) qaln (by simp) (by repeat' (first | exact trivial | refine And.intro ?_ ?_ | rfl | decide | exact PureR.ren _)) (qag6 c N l) ?_
 rintro X hP hNn hm
 unfold c_hdown
 repeat' (first | (with_reducible refine zA ?_) | ((with_reducible refine qaaj ?_); (try rw [hP]); simp -implicitDefEqProofs [*]) | fail)
 refine qabp (qads (fun s (x : Nat × List Entry) => s.turn [(7, .int .i64 x.1)] [(1, .row 29 6 (x.2.map qaae))]) (fun x => x.1 ≤ N ∧ x.2.length = N ∧ (∀ e ∈ x.2, qab7 e) ∧ F = qadq (n - x.1 + 1) x.2 x.1 n) (fun x => N - x.1) (i0, l) ?_ ⟨hi0, hN.out, hs.out, hF.out⟩ ?_)
 ·repeat' (first | ((with_reducible refine qabh [] hm ?_ ?_ ?_ ?_) <;> (try simp only [zT, puth, Nat.reduceEqDiff, reduceIte, Nat.reduceAdd])) | (with_reducible first | refine za ?_ ?_ | refine zb ?_ ?_ ?_ ?_ | refine zc ?_ ?_ ?_ ?_) | (with_reducible first | exact qaba | exact qabf) | ((with_reducible first | refine zga ?_ | refine zgb ?_); rfl) | ((with_reducible refine zgc ?_); (first | (with_reducible rfl) | rfl | (simp; done))) | ((with_reducible refine zgd ?_); (first | omega | (simp; done))) | (exact Co.refl _) | fail)
  all_goals exact qada _ _ rfl
 rintro J hJ ⟨i, L⟩ ⟨h1, h2, h3, h4⟩
 unfold qaj1
 simp only [zT, puth, Nat.reduceEqDiff, reduceIte, Nat.reduceAdd] at h1 h2 h3 h4 ⊢
 rw [qadq] at h4
 have w0 : IntKind.i64.wrap (2 * (i : Int)) = 2 * (i : Int) := qaes _ (by omega) (by omega)
 have w1 : IntKind.i64.wrap (2 * (i : Int) + 1) = 2 * (i : Int) + 1 := qaes _ (by omega) (by omega)
 have w2 : IntKind.i64.wrap (2 * (i : Int) + 1 + 1) = 2 * (i : Int) + 1 + 1 := qaes _ (by omega) (by omega)
 have hneg : ¬ (2 * (i : Int) + 1 < 0) := by omega
 rcases Nat.lt_or_ge (2 * i + 1) n with hj | hj
 ·have hng : ¬ ((n : Int) ≤ 2 * (i : Int) + 1) := by omega
  have hsn := qaid L i n hj
  have hm1 : ((2 * i + 1 : Nat) : Int) = 2 * (i : Int) + 1 := by omega
  have hm2 : ((2 * i + 1 + 1 : Nat) : Int) = 2 * (i : Int) + 1 + 1 := by omega
  have k0 : 2 * i + 1 + 1 < n → ∀ q, 2 ≤ q → SCalls Try.prog 104 [.own 1 N, .int .i64 (2 * (i : Int) + 1 + 1), .int .i64 (2 * (i : Int) + 1)] (hobn c N L) q (.bool (qafl L (2 * i + 1 + 1) (2 * i + 1))) (hobn c N L) := fun h q hq => by
   rw [← hm2, ← hm1]
   exact qaql c N L h2 h3 (2 * i + 1 + 1) (2 * i + 1) (by omega) (by omega) q hq
  have k1 : ∀ q, 2 ≤ q → _ := fun q hq => qaql c N L h2 h3 (sonL L i n) i (by omega) (by omega) q hq
  have k2 : ∀ q, 2 ≤ q → _ := fun q hq => qal2 c N L h2 i (sonL L i n) (by omega) (by omega) q hq
  have hsl : (qac2 L i (sonL L i n)).length = N := by rw [qac0, h2]
  have hss : ∀ e ∈ qac2 L i (sonL L i n), qab7 e := fun e he => h3 e ((qacn _ _ _).mem_iff.1 he)
  generalize qac2 L i (sonL L i n) = L2 at h4 k2 hsl hss
  have hcase : (2 * i + 1 + 1 < n ∧ qafl L (2 * i + 1 + 1) (2 * i + 1) = true ∧ sonL L i n = 2 * i + 1 + 1) ∨ (2 * i + 1 + 1 < n ∧ qafl L (2 * i + 1 + 1) (2 * i + 1) = false ∧ sonL L i n = 2 * i + 1) ∨ (¬ 2 * i + 1 + 1 < n ∧ sonL L i n = 2 * i + 1) := by
   unfold sonL
   by_cases hA : 2 * i + 1 + 1 < n
   ·cases hx : qafl L (2 * i + 1 + 1) (2 * i + 1)
    ·exact .inr (.inl ⟨hA, rfl, by rw [if_neg (by simp)]⟩)
    ·exact .inl ⟨hA, rfl, by rw [if_pos ⟨hA, rfl⟩]⟩
   ·exact .inr (.inr ⟨hA, by rw [if_neg fun h => hA h.1]⟩)
  have h5 : F = if qafl L (sonL L i n) i = false then (L, i) else qadq (n - sonL L i n + 1) L2 (sonL L i n) n := by
   rw [h4]
   by_cases hy : qafl L (sonL L i n) i = false
   ·rw [if_pos (.inr hy), if_pos hy]
   ·rw [if_neg (fun h => h.elim (by omega) hy), if_neg hy]; exact qaiu _ _ _ _ _ (by omega) (by omega)
  generalize hy : qafl L (sonL L i n) i = y at h5 k1
  replace h2 := Lib.hid h2
  replace h3 := Lib.hid h3
  replace hsl := Lib.hid hsl
  replace hss := Lib.hid hss
  clear h4 hy
  have fin1 : y = false → F = (L, i) := fun e => by rw [h5, if_pos e]
  have fin2 : y = true → F = qadq (n - sonL L i n + 1) L2 (sonL L i n) n := fun e => by rw [h5, e, if_neg (by decide)]
  clear h5
  rcases hcase with ⟨hA, hx, hs0⟩ | ⟨hA, hx, hs0⟩ | ⟨hA, hs0⟩
  all_goals
   rw [hs0] at k1 k2
   first | (replace k0 := k0 hA; rw [hx] at k0) | clear k0
   first | (have hB : 2 * (i : Int) + 1 + 1 < n := by omega) | (have hB : ¬ (2 * (i : Int) + 1 + 1 < n) := by omega)
   first | rw [hm2] at k1 k2 | rw [hm1] at k1 k2
   cases y
   ·obtain rfl := fin1 rfl
    clear fin2
    repeat' (first | (with_reducible first | refine zA ?_ | refine qaa9 ?_) | ((with_reducible refine qaaj ?_); (try rw [hP]); simp -implicitDefEqProofs [w0, w1, w2, hng, hneg, *]) | ((with_reducible first | refine qaa1 ?_ | refine qabw ?_); (try simp -implicitDefEqProofs [w0, w1, w2, hng, hneg, *])) | ((with_reducible refine qaa7 ?_); (try simp only [qaau, qaab, qaaf])) | ((with_reducible refine qaat rfl (fun h => ?_) (fun h => ?_)) <;> have h' := h <;> (try simp at h') <;> (try subst h')) | ((first | refine qadd [(0, .cells (hty c) (hcs c N))] ⟨rfl, trivial⟩ (qacy qano) (k0 _ (by simp)) ⟨rfl, rfl, trivial⟩ ⟨rfl, rfl, trivial⟩ [] (by simp) ?_ | refine qadd [(0, .cells (hty c) (hcs c N))] ⟨rfl, trivial⟩ (qacy qano) (k1 _ (by simp)) ⟨rfl, rfl, trivial⟩ ⟨rfl, rfl, trivial⟩ [] (by simp) ?_); simp -implicitDefEqProofs [w0, w1, w2, hng, hneg, *]) | ((with_reducible refine qabh [] hm ?_ ?_ ?_ ?_) <;> (try simp only [zT, puth, Nat.reduceEqDiff, reduceIte, Nat.reduceAdd])) | (with_reducible first | refine za ?_ ?_ | refine zb ?_ ?_ ?_ ?_ | refine zc ?_ ?_ ?_ ?_) | (with_reducible first | exact qaba | exact qabf) | ((with_reducible first | refine zga ?_ | refine zgb ?_); rfl) | ((with_reducible refine zgc ?_); (first | (with_reducible rfl) | rfl | (simp; done))) | ((with_reducible refine zgd ?_); (first | omega | (simp; done))) | (exact Co.refl _) | ((refine qa2b ?_)) | (exact qada _ _ rfl) | fail)
   ·replace fin2 := Lib.hid (fin2 rfl)
    clear fin1
    repeat' (first | (with_reducible first | refine zA ?_ | refine qaa9 ?_) | ((with_reducible refine qaaj ?_); (try rw [hP]); simp -implicitDefEqProofs [w0, w1, w2, hng, hneg, *]) | ((with_reducible refine qaa1 ?_); (try simp -implicitDefEqProofs [w0, w1, w2, hng, hneg, *])) | ((with_reducible refine qaat rfl (fun h => ?_) (fun h => ?_)) <;> have h' := h <;> (try simp at h') <;> (try subst h')) | ((first | refine qadd [(0, .cells (hty c) (hcs c N))] ⟨rfl, trivial⟩ (qacy qano) (k0 _ (by simp)) ⟨rfl, rfl, trivial⟩ ⟨rfl, rfl, trivial⟩ [] (by simp) ?_ | refine qadd [(0, .cells (hty c) (hcs c N))] ⟨rfl, trivial⟩ (qacy qano) (k1 _ (by simp)) ⟨rfl, rfl, trivial⟩ ⟨rfl, rfl, trivial⟩ [] (by simp) ?_ | refine qadd [(0, .cells (hty c) (hcs c N))] ⟨rfl, trivial⟩ (qacy qare) (k2 _ (by simp)) ⟨rfl, rfl, trivial⟩ ⟨rfl, rfl, trivial⟩ [] (by simp) ?_); simp -implicitDefEqProofs [w0, w1, w2, hng, hneg, *]) | (with_reducible first | refine za ?_ ?_ | refine zb ?_ ?_ ?_ ?_ | refine zc ?_ ?_ ?_ ?_) | (with_reducible first | exact qaba | exact qabf) | ((with_reducible first | refine zga ?_ | refine zgb ?_); rfl) | ((with_reducible refine zgc ?_); (first | (with_reducible rfl) | rfl | (simp; done))) | ((with_reducible first | refine zgd ?_ | refine zge ?_); (first | omega | (simp; done))) | (exact Co.refl _) | (refine qabs ?_; first | omega | (simp_all; done)) | ((refine qacp hJ (sonL L i n, L2) ?_ ?_ ?_; (with_reducible refine qabh [] hm ?_ ?_ ?_ ?_) <;> (try simp only [zT, puth, Nat.reduceEqDiff, reduceIte, Nat.reduceAdd]))) | (exact qada _ _ rfl) | fail)
    all_goals exact ⟨by omega, hsl.out, hss.out, fin2.out⟩
 ·have hge : ((n : Int) ≤ 2 * (i : Int) + 1) := by omega
  obtain rfl : F = (L, i) := by rw [h4, if_pos (.inl hj)]
  clear h4
  repeat' (first | (with_reducible first | refine zA ?_ | refine qaa9 ?_) | ((with_reducible refine qaaj ?_); (try rw [hP]); simp -implicitDefEqProofs [w0, w1, w2, hge, *]) | ((with_reducible refine qabw ?_); (try simp -implicitDefEqProofs [w0, w1, w2, hge, *])) | ((with_reducible refine qaa7 ?_); (try simp only [qaau, qaab, qaaf])) | ((with_reducible refine qaat rfl (fun h => ?_) (fun h => ?_)) <;> have h' := h <;> (try simp at h') <;> (try subst h')) | ((with_reducible refine qabh [] hm ?_ ?_ ?_ ?_) <;> (try simp only [zT, puth, Nat.reduceEqDiff, reduceIte, Nat.reduceAdd])) | (with_reducible first | refine za ?_ ?_ | refine zb ?_ ?_ ?_ ?_ | refine zc ?_ ?_ ?_ ?_) | (with_reducible first | exact qaba | exact qabf) | ((with_reducible first | refine zga ?_ | refine zgb ?_); rfl) | ((with_reducible refine zgc ?_); (first | (with_reducible rfl) | rfl | (simp; done))) | ((with_reducible refine zgd ?_); (first | omega | (simp; done))) | (exact Co.refl _) | ((refine qa2b ?_)) | (exact qada _ _ rfl) | fail)
end Go.Proofs.Ytefkifebgeagiaa
namespace Go.Proofs.Ytefkifebgeagiaa
set_option linter.all false
open Go.RowKit
attribute [local simp] qaao qaan qaac qaah qaad qaag qaal qaam qaaa qaay SOp.run SX.ev putd puts argS upds SOp.touch SSt.keep SSt.skip gets geth puth delh idOf SV.cells? setL qab0 qab1 sbin eq0 eq1 eqL qabz qabd qabe qaau qaak qaab qaap qaaz qaaf qaai FrzOk qaa4 qaaw qaa2 qaa3 qaaq qaav qabb qaax qaas qaa5 qaar frzS frzH frz frz1 frz0 SlotsM ObjsM ObjM rn ren ren1 ren0 qabj qabs qaby qabi qabc qabu qabx CoL qaa6 qab4 dels adds idsH qabv
attribute [local irreducible] qacz
def popL (l : List Entry) : List Entry := (qadq (l.length - 1 - 0 + 1) (qac2 l 0 (l.length - 1)) 0 (l.length - 1)).1
def remL (l : List Entry) (i : Nat) : List Entry := if l.length - 1 = i then l else
 if i < (qadq (l.length - 1 - i + 1) (qac2 l i (l.length - 1)) i (l.length - 1)).2 then (qadq (l.length - 1 - i + 1) (qac2 l i (l.length - 1)) i (l.length - 1)).1
 else upL (i + 1) (qadq (l.length - 1 - i + 1) (qac2 l i (l.length - 1)) i (l.length - 1)).1 i
theorem qack (l : List Entry) : (popL l).Perm l := (qacr _ _ _ _).trans (qacn _ _ _)
theorem qadl (l : List Entry) (i : Nat) : (remL l i).Perm l := by
 unfold remL
 split
 ·exact .refl _
 ·split
  ·exact (qacr _ _ _ _).trans (qacn _ _ _)
  ·exact (qaf2 _ _ _).trans ((qacr _ _ _ _).trans (qacn _ _ _))
theorem qamh {X : Cx} {s : SSt} {c : qac6} {n t : Nat} {l : List Entry} {e : Entry} (hw : Wk X s ⟨[(t, .ifc 29 (.agg (qaae e)))], hobn c n l, 2⟩) : QFun X [.tmp t] 2 (.ifc 29 (.agg (qaae e))) (hobn c n l) .ret s := ⟨_, hw, by simp [qagq, resL, resV, one_, gets], ⟨rfl, rfl, trivial⟩, by simp⟩
theorem qa2q (c : qac6) (n : Nat) (l : List Entry) (hl : l.length = n) (q : Nat) (hq : 2 ≤ q) : SCalls Try.prog 103 [.own 1 n] (hobn c n l) q (.int .i64 n) (hobn c n l) := by subst hl; exact rlen_s c l q hq
theorem rpop_n (c : qac6) (n : Nat) (l L : List Entry) (x : Entry) (h : l = L ++ [x]) (hl : L.length = n) (hb : n + 1 ≤ 1000000) (q : Nat) (hq : 2 ≤ q) : SCalls Try.prog 106 [.ptr 0 (hoff c)] (hobn c (n + 1) l) q (.ifc 29 (.agg (qaae x))) (hobn c n L) := by
 subst h hl
 have := rpop_s c L x hb q hq
 rw [qacw (c := c) (n := L.length + 1) (l := L ++ [x]) (by simp)] at this
 exact this
theorem up_n (c : qac6) (n : Nat) (l : List Entry) (hl : l.length = n) (j : Nat) (hj : j < n) (hb : n ≤ 1000000) (hs : ∀ x ∈ l, qab7 x) (q : Nat) (hq : 2 ≤ q) : SCalls Try.prog 55 [.ifc 73 (.ptr 0 (hoff c)), .int .i64 j] (hobn c n l) q (.tup []) (hobn c n (upL (j + 1) l j)) := by
 have := up_s c l j (by omega) (by omega) hs q hq
 rw [qacw hl, qacw (c := c) (n := n) (l := upL (j + 1) l j) (by rw [(qaf2 _ _ _).length_eq, hl])] at this
 exact this
theorem down_n (c : qac6) (N : Nat) (l : List Entry) (hl : l.length = N) (i n : Nat) (hn : n ≤ N) (hi : i ≤ N) (hb : N ≤ 1000000) (hs : ∀ x ∈ l, qab7 x) (q : Nat) (hq : 2 ≤ q) : SCalls Try.prog 54 [.ifc 73 (.ptr 0 (hoff c)), .int .i64 i, .int .i64 n] (hobn c N l) q (.bool (decide (i < (qadq (n - i + 1) l i n).2))) (hobn c N (qadq (n - i + 1) l i n).1) := by
 have := down_s c l i n (by omega) (by omega) (by omega) hs q hq
 rw [qacw hl, qacw (c := c) (n := N) (l := (qadq (n - i + 1) l i n).1) (by rw [(qacr _ _ _ _).length_eq, hl])] at this
 exact this
theorem hpop_s (c : qac6) (l L : List Entry) (x : Entry) (h : popL l = L ++ [x]) (hb : l.length ≤ 1000000) (hs : ∀ x ∈ l, qab7 x) (q : Nat) (hq : 2 ≤ q) : SCalls Try.prog 38 [.ifc 73 (.ptr 0 (hoff c))] (hobj c l) q (.ifc 29 (.agg (qaae x))) (hobj c L) := by
 refine h_up ?_ q hq rfl rfl rfl
 have hl : l.length = L.length + 1 := by rw [← (qack l).length_eq, h]; simp
 unfold popL at h
 generalize hn : L.length = n at hl
 rw [hl, Nat.add_sub_cancel] at h
 rw [qacw hl, qacw hn]
 have k1 := fun q hq => qa2q c (n + 1) l hl q hq
 have k2 := fun q hq => qal2 c (n + 1) l hl 0 n (by omega) (by omega) q hq
 have hsl : (qac2 l 0 n).length = n + 1 := by rw [qac0, hl]
 have hss : ∀ e ∈ qac2 l 0 n, qab7 e := fun e he => hs e ((qacn _ _ _).mem_iff.1 he)
 have k3 := fun q hq => down_n c (n + 1) (qac2 l 0 n) hsl 0 n (by omega) (by omega) (by omega) hss q hq
 rw [h] at k3
 have k4 := fun q hq => rpop_n c n (L ++ [x]) L x rfl hn (by omega) q hq
 generalize decide (0 < (qadq (n - 0 + 1) (qac2 l 0 n) 0 n).2) = y at k3
 generalize qac2 l 0 n = l1 at k2 k3
 generalize L ++ [x] = l2 at k3 k4
 have w1 : IntKind.i64.wrap (n : Int) = n := qaes _ (by omega) (by omega)
 clear h hs hss hsl
 replace hl := Lib.hid hl
 replace hn := Lib.hid hn
 refine qaa0 (N := 15) Try.func38 rfl rfl (by kernel_rfl) qaod (by simp) (by repeat' (first | exact trivial | refine And.intro ?_ ?_ | rfl | decide | exact PureR.ren _)) (qag6 c (n + 1) l) ?_
 rintro X hP hN hm
 unfold c_hpop
 repeat' (first | (with_reducible refine zA ?_) | ((with_reducible refine qaaj ?_); (try rw [hP]); simp -implicitDefEqProofs [w1, *]) | ((with_reducible refine qaa7 ?_); (try simp only [qaau, qaab, qaaf])) | ((first | refine qadd [(0, .cells (hty c) (hcs c (n + 1)))] ⟨rfl, trivial⟩ (qacy m_len) (k1 _ (by simp)) ⟨rfl, rfl, trivial⟩ ⟨rfl, rfl, trivial⟩ [] (by simp) ?_ | refine qadd [(0, .cells (hty c) (hcs c (n + 1)))] ⟨rfl, trivial⟩ (qacy qare) (k2 _ (by simp)) ⟨rfl, rfl, trivial⟩ ⟨rfl, rfl, trivial⟩ [] (by simp) ?_ | refine qado (k3 _ (by simp)) ⟨rfl, rfl, trivial⟩ ⟨rfl, rfl, trivial⟩ [] (by simp) ?_ | refine qadd [] trivial (qaf9 m_pop qa4w) (k4 _ (by simp)) ⟨rfl, rfl, trivial⟩ ⟨rfl, rfl, trivial⟩ [] (by simp) ?_); simp -implicitDefEqProofs [w1, *]) | ((with_reducible refine qabh [] hm ?_ ?_ ?_ ?_) <;> (try simp only [zT, puth, Nat.reduceEqDiff, reduceIte, Nat.reduceAdd])) | (with_reducible first | refine za ?_ ?_ | refine zb ?_ ?_ ?_ ?_ | refine zc ?_ ?_ ?_ ?_) | (with_reducible first | exact qaba | exact qabf) | ((with_reducible first | refine zga ?_ | refine zgb ?_); rfl) | ((with_reducible refine zgc ?_); (first | (with_reducible rfl) | rfl | (simp; done))) | ((with_reducible refine zgd ?_); (first | omega | (simp; done))) | (exact Co.refl _) | ((refine qamh ?_)) | (exact qada _ _ rfl) | fail)
theorem hrem_s (c : qac6) (l L : List Entry) (i : Nat) (hi : i < l.length) (x : Entry) (h : remL l i = L ++ [x]) (hb : l.length ≤ 1000000) (hs : ∀ x ∈ l, qab7 x) (q : Nat) (hq : 2 ≤ q) : SCalls Try.prog 31 [.ifc 73 (.ptr 0 (hoff c)), .int .i64 i] (hobj c l) q (.ifc 29 (.agg (qaae x))) (hobj c L) := by
 refine h_up ?_ q hq rfl rfl rfl
 have hl : l.length = L.length + 1 := by rw [← (qadl l i).length_eq, h]; simp
 unfold remL at h
 generalize hn : L.length = n at hl
 rw [hl, Nat.add_sub_cancel] at h
 rw [qacw hl, qacw hn]
 have w1 : IntKind.i64.wrap (n : Int) = n := qaes _ (by omega) (by omega)
 have k1 := fun q hq => qa2q c (n + 1) l hl q hq
 have k4 := fun q hq => rpop_n c n (L ++ [x]) L x rfl hn (by omega) q hq
 by_cases hni : n = i
 ·rw [if_pos hni] at h
  subst hni
  rw [← h] at k4
  clear h hs
  replace hl := Lib.hid hl
  replace hn := Lib.hid hn
  refine qaa0 (N := 26) Try.func31 rfl rfl (by kernel_rfl) qafe (by simp) (by repeat' (first | exact trivial | refine And.intro ?_ ?_ | rfl | decide | exact PureR.ren _)) (qag6 c (n + 1) l) ?_
  rintro X hP hN hm
  unfold c_hrem
  repeat' (first | (with_reducible refine zA ?_) | ((with_reducible refine qaaj ?_); (try rw [hP]); simp -implicitDefEqProofs [w1, *]) | ((with_reducible refine qaa1 ?_); (try simp -implicitDefEqProofs [w1, *])) | ((with_reducible refine qaa7 ?_); (try simp only [qaau, qaab, qaaf])) | ((with_reducible refine qaat rfl (fun h => ?_) (fun h => ?_)) <;> have h' := h <;> (try simp at h') <;> (try subst h')) | ((first | refine qadd [(0, .cells (hty c) (hcs c (n + 1)))] ⟨rfl, trivial⟩ (qacy m_len) (k1 _ (by simp)) ⟨rfl, rfl, trivial⟩ ⟨rfl, rfl, trivial⟩ [] (by simp) ?_ | refine qadd [] trivial (qaf9 m_pop qa4w) (k4 _ (by simp)) ⟨rfl, rfl, trivial⟩ ⟨rfl, rfl, trivial⟩ [] (by simp) ?_); simp -implicitDefEqProofs [w1, *]) | ((with_reducible refine qabh [] hm ?_ ?_ ?_ ?_) <;> (try simp only [zT, puth, Nat.reduceEqDiff, reduceIte, Nat.reduceAdd])) | (with_reducible first | refine za ?_ ?_ | refine zb ?_ ?_ ?_ ?_ | refine zc ?_ ?_ ?_ ?_) | (with_reducible first | exact qaba | exact qabf) | ((with_reducible first | refine zga ?_ | refine zgb ?_); rfl) | ((with_reducible refine zgc ?_); (first | (with_reducible rfl) | rfl | (simp; done))) | ((with_reducible refine zgd ?_); (first | omega | (simp; done))) | (exact Co.refl _) | ((refine qamh ?_)) | (exact qada _ _ rfl) | fail)
 ·rw [if_neg hni] at h
  have k2 := fun q hq => qal2 c (n + 1) l hl i n (by omega) (by omega) q hq
  have hsl : (qac2 l i n).length = n + 1 := by rw [qac0, hl]
  have hss : ∀ e ∈ qac2 l i n, qab7 e := fun e he => hs e ((qacn _ _ _).mem_iff.1 he)
  have k3 := fun q hq => down_n c (n + 1) (qac2 l i n) hsl i n (by omega) (by omega) (by omega) hss q hq
  have hdl : (qadq (n - i + 1) (qac2 l i n) i n).1.length = n + 1 := by rw [(qacr _ _ _ _).length_eq, hsl]
  have hds : ∀ e ∈ (qadq (n - i + 1) (qac2 l i n) i n).1, qab7 e := fun e he => hss e ((qacr _ _ _ _).mem_iff.1 he)
  generalize qac2 l i n = l1 at k2 k3 h hdl hds
  generalize qadq (n - i + 1) l1 i n = d at k3 h hdl hds
  have k5 := fun q hq => up_n c (n + 1) d.1 hdl i (by omega) (by omega) hds q hq
  have hb1 : ((n : Int) == (i : Int)) = false := by simp; omega
  generalize d.1 = l2 at k3 k5 h
  clear hs hsl hss hdl hds
  replace hl := Lib.hid hl
  replace hn := Lib.hid hn
  by_cases hy : i < d.2
  ·rw [if_pos hy] at h
   rw [decide_eq_true hy] at k3
   rw [← h] at k4
   clear k5 hy h
   refine qaa0 (N := 26) Try.func31 rfl rfl (by kernel_rfl) qafe (by simp) (by repeat' (first | exact trivial | refine And.intro ?_ ?_ | rfl | decide | exact PureR.ren _)) (qag6 c (n + 1) l) ?_
   rintro X hP hN hm
   unfold c_hrem
   repeat' (first | (with_reducible refine zA ?_) | ((with_reducible refine qaaj ?_); (try rw [hP]); simp -implicitDefEqProofs [w1, hb1, hni, *]) | ((with_reducible refine qaa1 ?_); (try simp -implicitDefEqProofs [w1, hb1, hni, *])) | ((with_reducible refine qaa7 ?_); (try simp only [qaau, qaab, qaaf])) | ((with_reducible refine qaat rfl (fun h => ?_) (fun h => ?_)) <;> have h' := h <;> (try simp at h') <;> (try subst h')) | ((first | refine qadd [(0, .cells (hty c) (hcs c (n + 1)))] ⟨rfl, trivial⟩ (qacy m_len) (k1 _ (by simp)) ⟨rfl, rfl, trivial⟩ ⟨rfl, rfl, trivial⟩ [] (by simp) ?_ | refine qadd [(0, .cells (hty c) (hcs c (n + 1)))] ⟨rfl, trivial⟩ (qacy qare) (k2 _ (by simp)) ⟨rfl, rfl, trivial⟩ ⟨rfl, rfl, trivial⟩ [] (by simp) ?_ | refine qado (k3 _ (by simp)) ⟨rfl, rfl, trivial⟩ ⟨rfl, rfl, trivial⟩ [] (by simp) ?_ | refine qadd [] trivial (qaf9 m_pop qa4w) (k4 _ (by simp)) ⟨rfl, rfl, trivial⟩ ⟨rfl, rfl, trivial⟩ [] (by simp) ?_); simp -implicitDefEqProofs [w1, hb1, hni, *]) | ((with_reducible refine qabh [] hm ?_ ?_ ?_ ?_) <;> (try simp only [zT, puth, Nat.reduceEqDiff, reduceIte, Nat.reduceAdd])) | (with_reducible first | refine za ?_ ?_ | refine zb ?_ ?_ ?_ ?_ | refine zc ?_ ?_ ?_ ?_) | (with_reducible first | exact qaba | exact qabf) | ((with_reducible first | refine zga ?_ | refine zgb ?_); rfl) | ((with_reducible refine zgc ?_); (first | (with_reducible rfl) | rfl | (simp; done))) | ((with_reducible refine zgd ?_); (first | omega | (simp; done))) | (exact Co.refl _) | ((refine qamh ?_)) | (exact qada _ _ rfl) | fail)
   all_goals (exfalso; omega)
  ·rw [if_neg hy] at h
   rw [decide_eq_false hy] at k3
   rw [h] at k5
   generalize L ++ [x] = l3 at k4 k5
   clear h hy
   refine qaa0 (N := 26) Try.func31 rfl rfl (by kernel_rfl) qafe (by simp) (by repeat' (first | exact trivial | refine And.intro ?_ ?_ | rfl | decide | exact PureR.ren _)) (qag6 c (n + 1) l) ?_
   rintro X hP hN hm
   unfold c_hrem
   repeat' (first | (with_reducible refine zA ?_) | ((with_reducible refine qaaj ?_); (try rw [hP]); simp -implicitDefEqProofs [w1, hb1, hni, *]) | ((with_reducible refine qaa1 ?_); (try simp -implicitDefEqProofs [w1, hb1, hni, *])) | ((with_reducible refine qaa7 ?_); (try simp only [qaau, qaab, qaaf])) | ((with_reducible refine qaat rfl (fun h => ?_) (fun h => ?_)) <;> have h' := h <;> (try simp at h') <;> (try subst h')) | ((first | refine qadd [(0, .cells (hty c) (hcs c (n + 1)))] ⟨rfl, trivial⟩ (qacy m_len) (k1 _ (by simp)) ⟨rfl, rfl, trivial⟩ ⟨rfl, rfl, trivial⟩ [] (by simp) ?_ | refine qadd [(0, .cells (hty c) (hcs c (n + 1)))] ⟨rfl, trivial⟩ (qacy qare) (k2 _ (by simp)) ⟨rfl, rfl, trivial⟩ ⟨rfl, rfl, trivial⟩ [] (by simp) ?_ | refine qado (k3 _ (by simp)) ⟨rfl, rfl, trivial⟩ ⟨rfl, rfl, trivial⟩ [] (by simp) ?_ | refine qado (k5 _ (by simp)) ⟨rfl, rfl, trivial⟩ ⟨rfl, rfl, trivial⟩ [] (by simp) ?_ | refine qadd [] trivial (qaf9 m_pop qa4w) (k4 _ (by simp)) ⟨rfl, rfl, trivial⟩ ⟨rfl, rfl, trivial⟩ [] (by simp) ?_); simp -implicitDefEqProofs [w1, hb1, hni, *]) | ((with_reducible refine qabh [] hm ?_ ?_ ?_ ?_) <;> (try simp only [zT, puth, Nat.reduceEqDiff, reduceIte, Nat.reduceAdd])) | (with_reducible first | refine za ?_ ?_ | refine zb ?_ ?_ ?_ ?_ | refine zc ?_ ?_ ?_ ?_) | (with_reducible first | exact qaba | exact qabf) | ((with_reducible first | refine zga ?_ | refine zgb ?_); rfl) | ((with_reducible refine zgc ?_); (first | (with_reducible rfl) | rfl | (simp; done))) | ((with_reducible refine zgd ?_); (first | omega | (simp; done))) | (exact Co.refl _) | ((refine qamh ?_)) | (exact qada _ _ rfl) | fail)
   all_goals (exfalso; omega)
end Go.Proofs.Ytefkifebgeagiaa
namespace Go.Proofs.Ytefkifebgeagiaa
set_option linter.all false
open Go.RowKit
attribute [local simp] qaao qaan qaac qaah qaad qaag qaal qaam qaaa qaay SOp.run SX.ev putd puts argS upds SOp.touch SSt.keep SSt.skip gets geth puth delh idOf SV.cells? setL qab0 qab1 sbin eq0 eq1 eqL qabz qabd qabe qaau qaak qaab qaap qaaz qaaf qaai FrzOk qaa4 qaaw qaa2 qaa3 qaaq qaav qabb qaax qaas qaa5 qaar frzS frzH frz frz1 frz0 SlotsM ObjsM ObjM rn ren ren1 ren0 qabj qabs qaby qabi qabc qabu qabx CoL qaa6 qab4 dels adds idsH qabv
attribute [local irreducible] qacz
def qaqw (l : List Entry) (e : Entry) : List Entry := upL (l.length + 1) (l ++ [e]) l.length
theorem qadt (l : List Entry) (e : Entry) : (qaqw l e).Perm (l ++ [e]) := qaf2 _ _ _
theorem qagx {P : Program} {f : FuncId} {args : List SV} {I1 I2 : AbsI} {r : SV} (h : SCalls P f args [(0, .abs I1)] 1 r [(0, .abs I2)]) (ha : ∀ σ : Nat → Nat, σ 0 = 0 → args.map (Go.Proofs.Ytefkifebgeagiaa.ren σ) = args) (hr : ∀ σ : Nat → Nat, σ 0 = 0 → Go.Proofs.Ytefkifebgeagiaa.ren σ r = r) (hk : ok2 r = true) (q : Nat) (hq : 0 < q) : SCalls P f args [(0, .abs I1)] q r [(0, .abs I2)] := by
 have e0 : sg [0] q 0 = 0 := rfl
 exact qacj [0] h rfl (by simp) (by simp; omega) (ha _ e0).symm ⟨⟨.abs I1, by rw [e0]; simp [geth], rfl⟩, trivial⟩ (by simp [idsH]) (hr _ e0).symm hk ⟨⟨.abs I2, by rw [e0]; simp [geth], rfl⟩, trivial⟩ (by simp [idsH]) (by simp [idsH, e0])
theorem hpush_s (c : qac6) (l : List Entry) (e : Entry) (hl : l.length < 1000000) (hs : ∀ x ∈ l, qab7 x) (he : qab7 e) : SCalls Try.prog 35 [.ifc 73 (.ptr 0 (hoff c)), .ifc 29 (.agg (qaae e))] [(0, .abs (qacx c l))] 1 (.tup []) [(0, .abs (qacx c (qaqw l e)))] := by
 have k1 := fun q hq => qagx (rpush_s c l e hl) (fun σ h => by simp [Go.Proofs.Ytefkifebgeagiaa.ren, ren1, ren0, h, renA, renB, qaae, nums]) (fun σ h => rfl) rfl q hq
 have hn : (l ++ [e]).length = l.length + 1 := by simp
 have hss : ∀ x ∈ l ++ [e], qab7 x := fun x hx => by
  rcases List.mem_append.1 hx with h | h
  ·exact hs x h
  ·rw [List.mem_singleton.1 h]; exact he
 have k2 := fun q hq => qa2q c (l.length + 1) (l ++ [e]) hn q hq
 have k3 := fun q hq => up_n c (l.length + 1) (l ++ [e]) hn l.length (by omega) (by omega) hss q hq
 have w1 : IntKind.i64.wrap (l.length : Int) = l.length := qaes _ (by omega) (by omega)
 have hpl : (qaqw l e).length = l.length + 1 := by rw [(qadt l e).length_eq, hn]
 rw [show upL (l.length + 1) (l ++ [e]) l.length = qaqw l e from rfl] at k3
 generalize qaqw l e = L2 at k3 hpl
 generalize l.length = n at k2 k3 w1 hpl hn
 generalize l ++ [e] = L1 at k1 k2 k3 hn
 refine qaa0 (N := 12) Try.func35 rfl rfl (by kernel_rfl) qalm (by simp) (by repeat' (first | exact trivial | refine And.intro ?_ ?_ | rfl | decide | exact PureR.ren _)) (by repeat' (first | exact trivial | refine And.intro ?_ ?_ | rfl | decide | exact PureR.ren _)) ?_
 rintro X hP hN hm
 unfold c_hpush
 repeat' (first | ((with_reducible refine qac8 (c := .reg false qaj0 []) ?_)) | (with_reducible refine zA ?_) | ((with_reducible refine qaaj ?_); (try rw [hP]); simp -implicitDefEqProofs [*]) | (refine qadd [] trivial (qaf9 m_push qa4w) (k1 _ (by simp)) ⟨rfl, trivial⟩ ⟨rfl, trivial⟩ [] (by simp) ?_; simp -implicitDefEqProofs [*]) | fail)
 constructor
 refine qaef (s' := ⟨[(0, .ifc 73 (.ptr 0 (hoff c)))], [(0, .abs (qacx c L1))], 1⟩) (qabh [] hm ⟨Co.refl _, trivial⟩ ⟨⟨_, rfl, rfl⟩, trivial⟩ rfl (Nat.le_refl _)) ?_
 refine qadr (by omega) (by decide) (qaex c L1) fun hh h => ?_
 subst h
 rw [qacw hn]
 replace hn := Lib.hid hn
 replace hpl := Lib.hid hpl
 repeat' (first | ((with_reducible refine qaaj ?_); (try rw [hP]); simp -implicitDefEqProofs [w1, *]) | ((first | refine qadd [(0, .cells (hty c) (hcs c (n + 1)))] ⟨rfl, trivial⟩ (qacy m_len) (k2 _ (by simp)) ⟨rfl, rfl, trivial⟩ ⟨rfl, rfl, trivial⟩ [] (by simp) ?_ | refine qado (k3 _ (by simp)) ⟨rfl, rfl, trivial⟩ ⟨rfl, rfl, trivial⟩ [] (by simp) ?_); simp -implicitDefEqProofs [w1, *]) | ((with_reducible refine qabh [] hm ?_ ?_ ?_ ?_) <;> (try simp only [zT, puth, Nat.reduceEqDiff, reduceIte, Nat.reduceAdd])) | (with_reducible first | refine zb ?_ ?_ ?_ ?_ | refine zc ?_ ?_ ?_ ?_) | (with_reducible first | exact qaba | exact qabf) | ((with_reducible first | refine zga ?_ | refine zgb ?_); rfl) | ((with_reducible refine zgc ?_); (first | (with_reducible rfl) | rfl | (simp; done))) | ((with_reducible refine zgd ?_); (first | omega | (simp; done))) | ((refine qa2c (.inr rfl) hm ?_; rw [qacw hpl.out])) | (exact qada _ _ rfl) | fail)
 all_goals trace_state
end Go.Proofs.Ytefkifebgeagiaa
namespace Go.Proofs.Ytefkifebgeagiaa
set_option linter.all false
open Go.RowKit
theorem qad7 {a b : Int} : cmpI a b = 0 ↔ a = b := by unfold cmpI; split <;> (try split) <;> omega
theorem qah5 {a b : Int} : cmpI a b < 0 ↔ a < b := by unfold cmpI; split <;> (try split) <;> omega
theorem qaml (a b : Int) : cmpI b a = - cmpI a b := by unfold cmpI; split <;> (try split) <;> omega
theorem qafx : ∀ a b : List Int, cmpL b a = - cmpL a b
 | [], [] => rfl
 | [], _ :: _ => rfl
 | _ :: _, [] => rfl
 | x :: a, y :: b => by
  have h := qaml x y
  have ih := qafx a b
  simp only [cmpL]
  split <;> split <;> omega
theorem qadn : ∀ a b : List Int, cmpL a b = 0 ↔ a = b
 | [], [] => by simp [cmpL]
 | [], _ :: _ => by simp [cmpL]
 | _ :: _, [] => by simp [cmpL]
 | x :: a, y :: b => by
  have ih := qadn a b
  have h := @qad7 x y
  simp only [cmpL, List.cons.injEq]
  split
  ·constructor
   ·intro h0; omega
   ·intro h0; exact absurd (h.2 h0.1) ‹_›
  ·have : x = y := h.1 (by omega)
   simp [this, ih]
theorem qagl : ∀ a b c : List Int, cmpL a b ≤ 0 → cmpL b c ≤ 0 → cmpL a c ≤ 0
 | [], b, [], _, _ => by simp [cmpL]
 | [], b, _ :: _, _, _ => by simp [cmpL]
 | _ :: _, [], c, h, _ => by simp [cmpL] at h
 | _ :: _, _ :: _, [], _, h => by simp [cmpL] at h
 | x :: a, y :: b, z :: c, h1, h2 => by
  have ih := qagl a b c
  have e1 := @qad7 x y
  have e2 := @qad7 y z
  have e3 := @qad7 x z
  have n1 := @qah5 x y
  have n2 := @qah5 y z
  have n3 := @qah5 x z
  simp only [cmpL] at h1 h2 ⊢
  split at h1 <;> split at h2 <;> split <;> first | omega | (exact ih h1 h2) | (exfalso; omega)
theorem qaxi {a b c : List Int} (h1 : cmpL a b < 0) (h2 : cmpL b c ≤ 0) : cmpL a c < 0 := by
 have h := qagl a b c (by omega) h2
 rcases Int.lt_or_eq_of_le h with h3 | h3
 ·exact h3
 ·have h4 := (qadn a c).1 h3
  subst h4
  have := qafx a b
  omega
def leE (a b : Entry) : Prop := ordE a b ≤ 0
theorem qal5 (a b : Entry) : ordE a b = if cmpI a.prio b.prio ≠ 0 then cmpI a.prio b.prio else if cmpL a.keys b.keys ≠ 0 then cmpL a.keys b.keys else cmpL a.masks b.masks := by
 unfold ordE
 simp only [orL]
 split
 ·rfl
 ·split
  ·rfl
  ·split <;> omega
theorem qawy (a b : Entry) : ordE b a = - ordE a b := by
 rw [qal5, qal5]
 have h1 := qaml a.prio b.prio
 have h2 := qafx a.keys b.keys
 have h3 := qafx a.masks b.masks
 split <;> (try split) <;> (try split) <;> (try split) <;> omega
theorem qacu (a b : Entry) : ordE a b = 0 ↔ a.prio = b.prio ∧ a.keys = b.keys ∧ a.masks = b.masks := by
 rw [qal5]
 have h1 := @qad7 a.prio b.prio
 have h2 := qadn a.keys b.keys
 have h3 := qadn a.masks b.masks
 constructor
 ·intro h
  split at h
  ·omega
  ·split at h
   ·omega
   ·exact ⟨by omega, h2.1 (by omega), h3.1 h⟩
 ·rintro ⟨e1, e2, e3⟩
  rw [if_neg (by omega), if_neg (by have := h2.2 e2; omega)]
  exact h3.2 e3
theorem qama (a b : Entry) : leE a b ↔ a.prio < b.prio ∨ (a.prio = b.prio ∧ (cmpL a.keys b.keys < 0 ∨ (a.keys = b.keys ∧ cmpL a.masks b.masks ≤ 0))) := by
 unfold leE
 rw [qal5]
 have h1 := @qad7 a.prio b.prio
 have h1' := @qah5 a.prio b.prio
 have h2 := qadn a.keys b.keys
 constructor
 ·intro h
  split at h
  ·exact .inl (by omega)
  ·refine .inr ⟨by omega, ?_⟩
   split at h
   ·exact .inl (by omega)
   ·exact .inr ⟨h2.1 (by omega), h⟩
 ·rintro (h | ⟨h, h3 | ⟨h3, h4⟩⟩)
  ·rw [if_pos (by omega)]; omega
  ·rw [if_neg (by omega), if_pos (by omega)]; omega
  ·rw [if_neg (by omega), if_neg (by have := h2.2 h3; omega)]; exact h4
theorem qaew {a b c : Entry} (h1 : leE a b) (h2 : leE b c) : leE a c := by
 rw [qama] at *
 rcases h1 with h1 | ⟨e1, h1 | ⟨f1, h1⟩⟩ <;> rcases h2 with h2 | ⟨e2, h2 | ⟨f2, h2⟩⟩
 ·exact .inl (by omega)
 ·exact .inl (by omega)
 ·exact .inl (by omega)
 ·exact .inl (by omega)
 ·exact .inr ⟨by omega, .inl (qaxi h1 (by omega))⟩
 ·exact .inr ⟨by omega, .inl (by rw [← f2]; exact h1)⟩
 ·exact .inl (by omega)
 ·exact .inr ⟨by omega, .inl (by rw [f1]; exact h2)⟩
 ·exact .inr ⟨by omega, .inr ⟨f1.trans f2, qagl _ _ _ h1 h2⟩⟩
theorem qarh {a b : Entry} (h : ¬ ordE a b < 0) : leE b a := by
 unfold leE; rw [qawy a b]; omega
theorem qaw6 {a b : Entry} (h : ordE a b < 0) : leE a b := by unfold leE; omega
theorem qakw (a : Entry) : leE a a := by unfold leE; rw [(qacu a a).2 ⟨rfl, rfl, rfl⟩]; omega
def e0E : Entry := ⟨[], [], 0, 0, 0, []⟩
def atE (l : List Entry) (i : Nat) : Entry := l[i]?.getD e0E
theorem qawd {l : List Entry} {i : Nat} (h : i < l.length) : atE l i = l[i] := by unfold atE; rw [List.getElem?_eq_getElem h]; rfl
theorem qa28 {l : List Entry} {i j : Nat} (h : qafl l i j = true) : leE (atE l i) (atE l j) := by
 unfold qafl at h
 split at h
 ·rename_i a b h1 h2
  unfold atE; rw [h1, h2]; exact qaw6 (by simpa using h)
 ·cases h
theorem qa29 {l : List Entry} {i j : Nat} (hi : i < l.length) (hj : j < l.length) (h : qafl l i j = false) : leE (atE l j) (atE l i) := by
 rw [qarf hi hj] at h
 rw [qawd hi, qawd hj]
 exact qarh (by simpa using h)
theorem qanc {l : List Entry} {i j : Nat} (hi : i < l.length) (hj : j < l.length) (k : Nat) : atE (qac2 l i j) k = if k = j then atE l i else if k = i then atE l j else atE l k := by
 rw [qakg hi hj]
 unfold atE
 rw [List.getElem?_set, List.getElem?_set]
 by_cases e1 : k = j
 ·subst e1
  rw [if_pos rfl, if_pos rfl, if_pos (by simpa using hj), List.getElem?_eq_getElem hi]
 ·rw [if_neg (Ne.symm e1), if_neg e1]
  by_cases e2 : k = i
  ·subst e2
   rw [if_pos rfl, if_pos rfl, if_pos hi, List.getElem?_eq_getElem hj]
  ·rw [if_neg (Ne.symm e2), if_neg e2]
def HeapN (n : Nat) (l : List Entry) : Prop := ∀ i, 0 < i → i < n → leE (atE l ((i - 1) / 2)) (atE l i)
def UpP (n : Nat) (l : List Entry) (j : Nat) : Prop := (∀ i, 0 < i → i < n → i ≠ j → leE (atE l ((i - 1) / 2)) (atE l i)) ∧ (0 < j → ∀ i, 0 < i → i < n → (i - 1) / 2 = j → leE (atE l ((j - 1) / 2)) (atE l i))
theorem qakd : ∀ (f : Nat) (l : List Entry) (j n : Nat), n ≤ l.length → j < n → j < f → UpP n l j → HeapN n (upL f l j) ∧ ∀ k, j < k → atE (upL f l j) k = atE l k
 | f + 1, l, j, n, hn, hj, hf, ⟨h1, h2⟩ => by
  rw [upL]
  by_cases hc : (j - 1) / 2 = j ∨ qafl l j ((j - 1) / 2) = false
  ·rw [if_pos hc]
   refine ⟨fun i hi hin => ?_, fun _ _ => rfl⟩
   by_cases e : i = j
   ·subst e
    rcases hc with hc | hc
    ·omega
    ·exact qa29 (by omega) (by omega) hc
   ·exact h1 i hi hin e
  ·rw [if_neg hc]
   obtain ⟨p, hp⟩ : ∃ p, p = (j - 1) / 2 := ⟨_, rfl⟩
   rw [← hp] at hc ⊢
   have hpj : p < j := by have : p ≠ j := fun e => hc (.inl e); omega
   have hl : leE (atE l j) (atE l p) := qa28 (by cases h : qafl l j p <;> simp_all)
   have hs := qanc (l := l) (i := p) (j := j) (by omega) (by omega)
   have ih := qakd f (qac2 l p j) p n (by rw [qac0]; exact hn) (by omega) (by omega) ⟨fun i hi hin hip => ?_, fun hp0 i hi hin hip => ?_⟩
   ·refine ⟨ih.1, fun k hk => ?_⟩
    rw [ih.2 k (by omega), hs, if_neg (by omega), if_neg (by omega)]
   ·rw [hs, hs]
    by_cases e1 : i = j
    ·subst e1
     rw [← hp, if_neg (by omega), if_pos rfl, if_pos rfl]; exact hl
    ·rw [if_neg e1, if_neg hip]
     by_cases e2 : (i - 1) / 2 = j
     ·rw [if_pos e2, hp]; exact h2 (by omega) i hi hin e2
     ·rw [if_neg e2]
      by_cases e3 : (i - 1) / 2 = p
      ·rw [if_pos e3]
       have := h1 i hi hin e1
       rw [e3] at this
       exact qaew hl this
      ·rw [if_neg e3]; exact h1 i hi hin e1
   ·rw [hs, hs, if_neg (by omega : ¬ (p - 1) / 2 = j), if_neg (by omega : ¬ (p - 1) / 2 = p)]
    have h3 := h1 p hp0 (by omega) (by omega)
    by_cases e1 : i = j
    ·rw [if_pos e1]; exact h3
    ·rw [if_neg e1, if_neg (by omega)]
     have := h1 i hi hin e1
     rw [hip] at this
     exact qaew h3 this
theorem qaki {l : List Entry} {i n : Nat} (hn : n ≤ l.length) (h : 2 * i + 1 < n) : (sonL l i n - 1) / 2 = i ∧ ∀ k, 0 < k → k < n → (k - 1) / 2 = i → leE (atE l (sonL l i n)) (atE l k) := by
 unfold sonL
 by_cases hc : 2 * i + 1 + 1 < n ∧ qafl l (2 * i + 1 + 1) (2 * i + 1) = true
 ·rw [if_pos hc]
  refine ⟨by omega, fun k h1 h2 h3 => ?_⟩
  have : k = 2 * i + 1 ∨ k = 2 * i + 1 + 1 := by omega
  rcases this with rfl | rfl
  ·exact qa28 hc.2
  ·exact qakw _
 ·rw [if_neg hc]
  refine ⟨by omega, fun k h1 h2 h3 => ?_⟩
  have : k = 2 * i + 1 ∨ k = 2 * i + 1 + 1 := by omega
  rcases this with rfl | rfl
  ·exact qakw _
  ·refine qa29 (by omega) (by omega) ?_
   cases h : qafl l (2 * i + 1 + 1) (2 * i + 1)
   ·rfl
   ·exact absurd ⟨h2, h⟩ hc
theorem qagi : ∀ (f : Nat) (l : List Entry) (i n i0 : Nat), n ≤ l.length → n - i < f → i0 ≤ i → (∀ k, 0 < k → k < n → (k - 1) / 2 ≠ i → k ≠ i0 → leE (atE l ((k - 1) / 2)) (atE l k)) → (0 < i → ∀ k, 0 < k → k < n → (k - 1) / 2 = i → leE (atE l ((i - 1) / 2)) (atE l k)) →
  (∀ k, 0 < k → k < n → k ≠ i0 → leE (atE (qadq f l i n).1 ((k - 1) / 2)) (atE (qadq f l i n).1 k)) ∧ (∀ k, k < i ∨ n ≤ k → atE (qadq f l i n).1 k = atE l k) ∧ i ≤ (qadq f l i n).2 ∧
   ((qadq f l i n).2 = i → (qadq f l i n).1 = l) ∧ (i < (qadq f l i n).2 → 2 * i + 1 < n ∧ atE (qadq f l i n).1 i = atE l (sonL l i n))
 | f + 1, l, i, n, i0, hn, hf, h0, hA, hB => by
  rw [qadq]
  by_cases hc : n ≤ 2 * i + 1 ∨ qafl l (sonL l i n) i = false
  ·rw [if_pos hc]
   refine ⟨fun k hk hkn hk0 => ?_, fun k _ => rfl, Nat.le_refl _, fun _ => rfl, fun h => absurd h (Nat.lt_irrefl _)⟩
   by_cases e : (k - 1) / 2 = i
   ·rcases hc with hc | hc
    ·omega
    ·have hin : 2 * i + 1 < n := by omega
     obtain ⟨s1, s2⟩ := qaki hn hin
     obtain ⟨s3, s4⟩ := qaid l i n hin
     show leE (atE l ((k - 1) / 2)) (atE l k)
     rw [e]
     exact qaew (qa29 (i := sonL l i n) (j := i) (by omega) (by omega) hc) (s2 k hk hkn e)
   ·exact hA k hk hkn e hk0
  ·rw [if_neg hc]
   have hin : 2 * i + 1 < n := Nat.lt_of_not_le fun e => hc (.inl e)
   obtain ⟨s1, s2⟩ := qaki hn hin
   obtain ⟨s3, s4⟩ := qaid l i n hin
   have hl : leE (atE l (sonL l i n)) (atE l i) := qa28 (by cases h : qafl l (sonL l i n) i <;> simp_all)
   generalize sonL l i n = s at *
   have hs := qanc (l := l) (i := i) (j := s) (by omega) (by omega)
   have ih := qagi f (qac2 l i s) s n i0 (by rw [qac0]; exact hn) (by omega) (by omega) (fun k hk hkn hp hk0 => ?_) (fun hs0 k hk hkn hp => ?_)
   ·obtain ⟨q1, q2, q3, q4, q5⟩ := ih
    refine ⟨q1, fun k hk => ?_, by omega, fun h => absurd h (by omega), fun _ => ⟨hin, ?_⟩⟩
    ·rw [q2 k (by omega), hs, if_neg (by omega), if_neg (by omega)]
    ·rw [q2 i (.inl s3), hs, if_neg (by omega), if_pos rfl]
   ·rw [hs, hs]
    by_cases e1 : (k - 1) / 2 = i
    ·rw [e1, if_neg (by omega : ¬ i = s), if_pos rfl]
     by_cases e2 : k = s
     ·rw [if_pos e2]; exact hl
     ·rw [if_neg e2, if_neg (by omega)]; exact s2 k hk hkn e1
    ·have ks : k ≠ s := fun e => by subst e; exact e1 s1
     rw [if_neg ks, if_neg hp, if_neg e1]
     by_cases e2 : k = i
     ·subst e2
      rw [if_pos rfl]; exact hB hk s (by omega) s4 s1
     ·rw [if_neg e2]; exact hA k hk hkn e1 hk0
   ·rw [hs, hs, s1, if_neg (by omega : ¬ i = s), if_pos rfl, if_neg (by omega : ¬ k = s), if_neg (by omega : ¬ k = i)]
    have := hA k hk hkn (by omega) (by omega)
    rw [hp] at this; exact this
theorem qa3e {n : Nat} {l : List Entry} (h : HeapN n l) : ∀ k, k < n → leE (atE l 0) (atE l k) := by
 intro k
 induction k using Nat.strongRecOn with
 | _ k ih =>
  intro hk
  rcases Nat.eq_zero_or_pos k with rfl | h0
  ·exact qakw _
  ·exact qaew (ih ((k - 1) / 2) (by omega) (by omega)) (h k h0 hk)
def Heap (l : List Entry) : Prop := HeapN l.length l
theorem qa3d : Heap [] := fun i _ h => by simp at h
theorem qawt {l : List Entry} (h : Heap l) (e : Entry) : Heap (qaqw l e) := by
 have hl : (qaqw l e).length = l.length + 1 := by rw [(qadt l e).length_eq]; simp
 unfold Heap
 rw [hl]
 refine (qakd (l.length + 1) (l ++ [e]) l.length (l.length + 1) (by simp) (by omega) (by omega) ⟨fun i hi hin hne => ?_, fun _ i hi hin hp => ?_⟩).1
 ·have a1 : ∀ k, k < l.length → atE (l ++ [e]) k = atE l k := fun k hk => by unfold atE; rw [List.getElem?_append_left hk]
  rw [a1 _ (by omega), a1 _ (by omega)]
  exact h i hi (by omega)
 ·omega
theorem qahm {l : List Entry} {k : Nat} (h : k < l.length - 1) : atE l.dropLast k = atE l k := by
 unfold atE; rw [List.getElem?_dropLast, if_pos h]
theorem qafg {l : List Entry} (h : HeapN (l.length - 1) l) : Heap l.dropLast := fun i hi hin => by
 rw [List.length_dropLast] at hin
 rw [qahm hin, qahm (by omega)]
 exact h i hi hin
theorem qa2t {l : List Entry} (h : Heap l) (h0 : 0 < l.length) : Heap (popL l).dropLast ∧ atE (popL l) (l.length - 1) = atE l 0 := by
 have hl : (popL l).length = l.length := (qack l).length_eq
 have hs := qanc (l := l) (i := 0) (j := l.length - 1) h0 (by omega)
 obtain ⟨q1, q2, -, -, -⟩ := qagi (l.length - 1 - 0 + 1) (qac2 l 0 (l.length - 1)) 0 (l.length - 1) 0 (by rw [qac0]; omega) (by omega) (Nat.le_refl _) (fun k hk hkn hp _ => by
  rw [hs, hs, if_neg (by omega), if_neg hp, if_neg (by omega), if_neg (by omega)]
  exact h k hk (by omega)) (fun h => absurd h (by omega))
 refine ⟨qafg ?_, ?_⟩
 ·rw [hl]; exact fun i hi hin => q1 i hi hin (by omega)
 ·unfold popL
  rw [q2 _ (.inr (Nat.le_refl _)), hs, if_pos rfl]
theorem qaqr {l : List Entry} (h : Heap l) (i : Nat) (hi : i < l.length) : Heap (remL l i).dropLast ∧ atE (remL l i) (l.length - 1) = atE l i := by
 have hl : (remL l i).length = l.length := (qadl l i).length_eq
 have key : HeapN (l.length - 1) (remL l i) ∧ atE (remL l i) (l.length - 1) = atE l i := by
  unfold remL
  by_cases e : l.length - 1 = i
  ·rw [if_pos e, e]; exact ⟨fun k hk hkn => h k hk (by omega), rfl⟩
  ·rw [if_neg e]
   have hs := qanc (l := l) (i := i) (j := l.length - 1) hi (by omega)
   have hA : ∀ k, 0 < k → k < l.length - 1 → (k - 1) / 2 ≠ i → k ≠ i → leE (atE (qac2 l i (l.length - 1)) ((k - 1) / 2)) (atE (qac2 l i (l.length - 1)) k) := fun k hk hkn hp hki => by
    rw [hs, hs, if_neg (by omega), if_neg hp, if_neg (by omega), if_neg hki]
    exact h k hk (by omega)
   have hB : 0 < i → ∀ k, 0 < k → k < l.length - 1 → (k - 1) / 2 = i → leE (atE (qac2 l i (l.length - 1)) ((i - 1) / 2)) (atE (qac2 l i (l.length - 1)) k) := fun h0 k hk hkn hp => by
    rw [hs, hs, if_neg (by omega), if_neg (by omega), if_neg (by omega), if_neg (by omega)]
    have h3 := h k hk (by omega)
    rw [hp] at h3
    exact qaew (h i h0 hi) h3
   have hsl : (qac2 l i (l.length - 1)).length = l.length := qac0 _ _ _
   obtain ⟨q1, q2, q3, q4, q5⟩ := qagi (l.length - 1 - i + 1) (qac2 l i (l.length - 1)) i (l.length - 1) i (by rw [hsl]; omega) (by omega) (Nat.le_refl _) (fun k hk hkn hp hk0 => hA k hk hkn hp hk0) hB
   have hsn := @qaki (qac2 l i (l.length - 1)) i (l.length - 1) (by rw [hsl]; omega)
   have hsl2 := qaid (qac2 l i (l.length - 1)) i (l.length - 1)
   have hlast : atE (qac2 l i (l.length - 1)) (l.length - 1) = atE l i := by rw [hs, if_pos rfl]
   have hdl : (qadq (l.length - 1 - i + 1) (qac2 l i (l.length - 1)) i (l.length - 1)).1.length = l.length := by rw [(qacr _ _ _ _).length_eq, hsl]
   generalize qac2 l i (l.length - 1) = S at *
   generalize qadq (l.length - 1 - i + 1) S i (l.length - 1) = d at *
   by_cases hm : i < d.2
   ·rw [if_pos hm]
    refine ⟨fun k hk hkn => ?_, by rw [q2 _ (.inr (Nat.le_refl _)), hlast]⟩
    by_cases e1 : k = i
    ·subst e1
     obtain ⟨r1, r2⟩ := q5 hm
     rw [r2, q2 _ (.inl (by omega))]
     exact hB hk _ (by have := hsl2 r1; omega) (hsl2 r1).2 (hsn r1).1
    ·exact q1 k hk hkn e1
   ·rw [if_neg hm]
    have hd := q4 (by omega)
    rw [hd] at q1 hdl ⊢
    obtain ⟨u1, u2⟩ := qakd (i + 1) S i (l.length - 1) (by omega) (by omega) (by omega) ⟨q1, hB⟩
    exact ⟨u1, by rw [u2 _ (by omega), hlast]⟩
 exact ⟨qafg (by rw [hl]; exact key.1), key.2⟩
theorem qa2o {l : List Entry} (h : Heap l) (i : Nat) (e : Entry) (hi : i < l.length) (he : ordE (atE l i) e = 0) : Heap (l.set i e) := by
 have hz := (qacu _ _).1 he
 have q : ∀ k, (atE (l.set i e) k).prio = (atE l k).prio ∧ (atE (l.set i e) k).keys = (atE l k).keys ∧ (atE (l.set i e) k).masks = (atE l k).masks := fun k => by
  by_cases e1 : i = k
  ·subst e1
   have : atE (l.set i e) i = e := by unfold atE; rw [List.getElem?_set, if_pos rfl, if_pos hi]; rfl
   rw [this]; exact ⟨hz.1.symm, hz.2.1.symm, hz.2.2.symm⟩
  ·have : atE (l.set i e) k = atE l k := by unfold atE; rw [List.getElem?_set, if_neg e1]
   rw [this]; exact ⟨rfl, rfl, rfl⟩
 intro k hk hkn
 rw [List.length_set] at hkn
 have := h k hk hkn
 rw [qama] at this ⊢
 obtain ⟨a1, a2, a3⟩ := q k
 obtain ⟨b1, b2, b3⟩ := q ((k - 1) / 2)
 rw [a1, a2, a3, b1, b2, b3]; exact this
def qawj : Nat → List Entry → List Entry
 | 0, _ => []
 | f + 1, l => match (popL l).getLast? with
  | some x => towE x :: qawj f (popL l).dropLast
  | none => []
def qae1 (l : List Entry) : List Entry := qawj l.length l
theorem qakn {l : List Entry} (h0 : 0 < l.length) : (popL l).getLast? = some (atE (popL l) (l.length - 1)) ∧ popL l = (popL l).dropLast ++ [atE (popL l) (l.length - 1)] := by
 have hl : (popL l).length = l.length := (qack l).length_eq
 rcases List.eq_nil_or_concat (popL l) with h | ⟨L, x, h⟩
 ·rw [h] at hl; simp at hl; omega
 ·have hLl : L.length = l.length - 1 := by rw [h] at hl; simp at hl; omega
  have : atE (popL l) (l.length - 1) = x := by unfold atE; rw [h, ← hLl]; simp
  rw [this, h]; simp
theorem qaf5 : ∀ (f : Nat) (l : List Entry), l.length ≤ f → (qawj f l).Perm (l.map towE)
 | 0, l, h => by rw [List.eq_nil_of_length_eq_zero (l := l) (by omega)]; exact .refl _
 | f + 1, l, h => by
  rw [qawj]
  rcases Nat.eq_zero_or_pos l.length with h0 | h0
  ·have : l = [] := List.eq_nil_of_length_eq_zero h0
   subst this
   have hp : popL [] = [] := List.Perm.eq_nil (qack [])
   rw [hp]; exact .refl _
  ·obtain ⟨p1, p2⟩ := qakn h0
   have hl : (popL l).length = l.length := (qack l).length_eq
   rw [p1]
   refine ((qaf5 f _ (by rw [List.length_dropLast]; omega)).cons _).trans ?_
   refine .trans ?_ ((qack l).map towE)
   rw [← List.map_cons]
   refine .map _ ?_
   conv => rhs; rw [p2]
   exact (List.perm_append_singleton _ _).symm
theorem qaf4 : ∀ (f : Nat) (l : List Entry), l.length ≤ f → Heap l → (qawj f l).Pairwise leE
 | 0, l, h, _ => .nil
 | f + 1, l, h, hh => by
  rw [qawj]
  rcases Nat.eq_zero_or_pos l.length with h0 | h0
  ·have : l = [] := List.eq_nil_of_length_eq_zero h0
   subst this
   have hp : popL [] = [] := List.Perm.eq_nil (qack [])
   rw [hp]; exact .nil
  ·obtain ⟨p1, p2⟩ := qakn h0
   obtain ⟨q1, q2⟩ := qa2t hh h0
   have hl : (popL l).length = l.length := (qack l).length_eq
   have hd : (popL l).dropLast.length ≤ f := by rw [List.length_dropLast]; omega
   rw [p1, q2]
   refine .cons (fun y hy => ?_) (qaf4 f _ hd q1)
   have hy2 := (qaf5 f _ hd).mem_iff.1 hy
   obtain ⟨z, hz, rfl⟩ := List.mem_map.1 hy2
   have hz2 : z ∈ l := (qack l).mem_iff.1 ((List.dropLast_sublist _).mem hz)
   obtain ⟨k, hk, rfl⟩ := List.mem_iff_getElem.1 hz2
   have := qa3e hh k hk
   rw [qawd hk] at this
   exact this
theorem qap8 (l : List Entry) : (qae1 l).Perm (l.map towE) := qaf5 _ _ (Nat.le_refl _)
theorem qaf3 {l : List Entry} (h : Heap l) : (qae1 l).Pairwise leE := qaf4 _ _ (Nat.le_refl _) h
end Go.Proofs.Ytefkifebgeagiaa
namespace Go.Proofs.Ytefkifebgeagiaa
set_option linter.all false
open Go.RowKit
attribute [local simp] qaao qaan qaac qaah qaad qaag qaal qaam qaaa qaay SOp.run SX.ev putd puts argS upds SOp.touch SSt.keep SSt.skip gets geth puth delh idOf SV.cells? setL qab0 qab1 sbin eq0 eq1 eqL qabz qabd qabe qaau qaak qaab qaap qaaz qaaf qaai FrzOk qaa4 qaaw qaa2 qaa3 qaaq qaav qabb qaax qaas qaa5 qaar frzS frzH frz frz1 frz0 SlotsM ObjsM ObjM rn ren ren1 ren0 qabj qabs qaby qabi qabc qabu qabx CoL qaa6 qab4 dels adds idsH qabv
attribute [local irreducible] qacz
theorem qakt {k m : Int} {l : List Entry} : Lent (hobj (some (k, m)) l) (.ptr 0 0) (.cp (qa1q k m l)) := by
 refine qakv (t := 70) (cs := hcs (some (k, m)) l.length) rfl ⟨qad1 _, qad1 _, qaku (e := 29) rfl (qafn _ _) (by simp), trivial⟩ ?_
 intro x hx
 simp only [qa1q, List.mem_cons, List.not_mem_nil, or_false] at hx
 rcases hx with rfl | rfl | rfl
 ·exact qae8 _ _
 ·exact qae8 _ _
 ·exact qafp _ _
theorem qap0 (k m : Int) (l : List Entry) (e : Entry) (he : qab7 e) (q : Nat) : SCalls Try.prog 29 [.ptr 0 0, .agg (qaae e)] (hobj (some (k, m)) l) q (.bool (qaed k e)) (hobj (some (k, m)) l) :=
 qac1 (tfits_s k m l e he q) ⟨qakt, qad1 _, trivial⟩ (qai4 _)
theorem tat_o (k m : Int) (l : List Entry) (e : Entry) (hl : l.length ≤ 1000000) (hs : ∀ x ∈ l, qab7 x) (he : qab7 e) (q : Nat) : SCalls Try.prog 30 [.ptr 0 0, .agg (qaae e)] (hobj (some (k, m)) l) q (.int .i64 (tatV l e)) (hobj (some (k, m)) l) :=
 qac1 (tat_s k m l e hl hs he q) ⟨qakt, qad1 _, trivial⟩ (qafy _ _)
theorem qaee {X : Cx} {s : SSt} {c : qac6} {l : List Entry} {t : Nat} {n : Int} (hm : X.m = 1) (hw : Wk X s ⟨[(t, .int .i64 n)], hobj c l, 2⟩) : QFun X [.tmp t] 1 (.int .i64 n) [(0, .abs (qacx c l))] .ret s := by
 have h1 : Wk X s ⟨[(t, .int .i64 n)], [(0, .abs (qacx c l))], 2⟩ := hw.trans (qakc ⟨rfl, rfl, trivial⟩)
 have h2 : Wk X ⟨[(t, .int .i64 n)], [(0, .abs (qacx c l))], 2⟩ ⟨[(t, .int .i64 n)], [(0, .abs (qacx c l))], 1⟩ := qabh [] hm ⟨by simp only [gets, if_true]; exact Co.refl _, trivial⟩ ⟨⟨_, rfl, rfl⟩, trivial⟩ rfl (Nat.le_refl _)
 exact ⟨_, h1.trans h2, by simp [qagq, resL, resV, one_, gets], ⟨rfl, trivial⟩, by simp⟩
def qamk (k : Int) (l : List Entry) (e : Entry) : Int := if qaed k e = false then 6 else if tatV l e < 0 then 9 else 0
def qapv (k : Int) (l : List Entry) (e : Entry) : List Entry := if qaed k e = false then l else if tatV l e < 0 then l else (remL l (tatV l e).toNat).dropLast
theorem qagv (l : List Entry) (e : Entry) (h : ¬ tatV l e < 0) : ∃ i : Nat, tatV l e = i ∧ i < l.length := by
 unfold tatV idxV at h ⊢
 split at h
 ·rename_i i hi
  exact ⟨i, rfl, (List.findIdx?_eq_some_iff_getElem.1 hi).1⟩
 ·omega
theorem tdrop_s (k m : Int) (l : List Entry) (e : Entry) (hl : l.length ≤ 1000000) (hs : ∀ x ∈ l, qab7 x) (he : qab7 e) : SCalls Try.prog 9 [.ptr 0 0, .agg (qaae e)] [(0, .abs (qacx (some (k, m)) l))] 1 (.int .i64 (qamk k l e)) [(0, .abs (qacx (some (k, m)) (qapv k l e)))] := by
 have k1 := fun q => qap0 k m l e he q
 have k2 := fun q => tat_o k m l e hl hs he q
 have hv : qamk k l e = if qaed k e = false then 6 else if tatV l e < 0 then 9 else 0 := rfl
 have hr : qapv k l e = if qaed k e = false then l else if tatV l e < 0 then l else (remL l (tatV l e).toNat).dropLast := rfl
 have k3 : ∀ i : Nat, tatV l e = i → i < l.length → ∀ q, 2 ≤ q → SCalls Try.prog 31 [.ifc 73 (.ptr 0 2), .int .i64 i] (hobj (some (k, m)) l) q (.ifc 29 (.agg (qaae ((remL l i).getLastD e)))) (hobj (some (k, m)) (remL l i).dropLast) := fun i _ hi q hq =>
  hrem_s (some (k, m)) l (remL l i).dropLast i hi ((remL l i).getLastD e) (by
   have hne : remL l i ≠ [] := by
    intro h0
    have := (qadl l i).length_eq
    rw [h0] at this; simp at this; omega
   rcases List.eq_nil_or_concat (remL l i) with h0 | ⟨L', x, h0⟩
   ·exact absurd h0 hne
   ·rw [h0]; simp) hl hs q hq
 have hlt := qagv l e
 generalize qamk k l e = v at hv
 generalize qapv k l e = r at hr
 generalize qaed k e = a at k1 hv hr
 generalize tatV l e = b at k2 hv hr hlt k3
 refine qaa0 (N := 21) Try.func9 rfl rfl (by kernel_rfl) qalc (by simp) (by repeat' (first | exact trivial | refine And.intro ?_ ?_ | rfl | decide | exact PureR.ren _)) (by repeat' (first | exact trivial | refine And.intro ?_ ?_ | rfl | decide | exact PureR.ren _)) ?_
 rintro X hP hN hm
 refine qadr (by omega) (by decide) (qaex _ l) fun hh h => ?_
 subst h
 unfold c_tdrop
 unfold qaae at k1 k2
 unfold qaae
 unfold hobj at k1 k2 k3
 unfold hobj
 cases a
 ·obtain rfl : v = 6 := by rw [hv, if_pos rfl]
  obtain rfl : r = l := by rw [hr, if_pos rfl]
  clear hlt k2 k3 hv hr
  repeat' (first | (with_reducible refine zA ?_) | ((with_reducible refine qaaj ?_); (try rw [hP]); simp -implicitDefEqProofs [*]) | ((with_reducible refine qaa7 ?_); (try simp only [qaau, qaab, qaaf])) | ((with_reducible refine qaat rfl (fun h => ?_) (fun h => ?_)) <;> have h' := h <;> (try simp at h') <;> (try subst h')) | (refine qab9 (k1 _) ⟨rfl, rfl, trivial⟩ ⟨rfl, rfl, trivial⟩ ?_; simp -implicitDefEqProofs [*]) | ((with_reducible refine qabh [] hm ?_ ?_ ?_ ?_) <;> (try simp only [zT, puth, Nat.reduceEqDiff, reduceIte, Nat.reduceAdd])) | (with_reducible first | refine za ?_ ?_ | refine zb ?_ ?_ ?_ ?_ | refine zc ?_ ?_ ?_ ?_) | (with_reducible first | exact qaba | exact qabf) | ((with_reducible first | refine zga ?_ | refine zgb ?_); rfl) | ((with_reducible refine zgc ?_); (first | (with_reducible rfl) | rfl | (simp; done))) | ((with_reducible refine zgd ?_); (first | omega | (simp; done))) | (exact Co.refl _) | (exact CoL.refl _) | ((refine qaee hm ?_; simp only [hobj])) | fail)
 ·by_cases hb : b < 0
  ·obtain rfl : v = 9 := by rw [hv, if_neg (by decide), if_pos hb]
   obtain rfl : r = l := by rw [hr, if_neg (by decide), if_pos hb]
   clear hlt k3 hv hr
   repeat' (first | (with_reducible refine zA ?_) | ((with_reducible refine qaaj ?_); (try rw [hP]); simp -implicitDefEqProofs [*]) | ((with_reducible refine qaa1 ?_); (try simp -implicitDefEqProofs [*])) | ((with_reducible refine qaa7 ?_); (try simp only [qaau, qaab, qaaf])) | ((with_reducible refine qaat rfl (fun h => ?_) (fun h => ?_)) <;> have h' := h <;> (try simp at h') <;> (try subst h')) | ((first | refine qab9 (k1 _) ⟨rfl, rfl, trivial⟩ ⟨rfl, rfl, trivial⟩ ?_ | refine qab9 (k2 _) ⟨rfl, rfl, trivial⟩ ⟨rfl, rfl, trivial⟩ ?_); simp -implicitDefEqProofs [*]) | ((with_reducible refine qabh [] hm ?_ ?_ ?_ ?_) <;> (try simp only [zT, puth, Nat.reduceEqDiff, reduceIte, Nat.reduceAdd])) | (with_reducible first | refine za ?_ ?_ | refine zb ?_ ?_ ?_ ?_ | refine zc ?_ ?_ ?_ ?_) | (with_reducible first | exact qaba | exact qabf) | ((with_reducible first | refine zga ?_ | refine zgb ?_); rfl) | ((with_reducible refine zgc ?_); (first | (with_reducible rfl) | rfl | (simp; done))) | ((with_reducible refine zgd ?_); (first | omega | (simp; done))) | (exact Co.refl _) | (exact CoL.refl _) | ((refine qaee hm ?_; simp only [hobj])) | fail)
  ·obtain ⟨i, rfl, hi⟩ := hlt hb
   have k4 := k3 i rfl hi
   obtain rfl : v = 0 := by rw [hv, if_neg (by decide), if_neg hb]
   rw [if_neg (by decide), if_neg hb, Int.toNat_natCast] at hr
   rw [← hr] at k4
   generalize (remL l i).getLastD e = x at k4
   clear hlt k3 hv hr
   repeat' (first | (with_reducible refine zA ?_) | ((with_reducible refine qaaj ?_); (try rw [hP]); simp -implicitDefEqProofs [*]) | ((with_reducible refine qaa1 ?_); (try simp -implicitDefEqProofs [*])) | ((with_reducible refine qaa7 ?_); (try simp only [qaau, qaab, qaaf])) | ((with_reducible refine qaat rfl (fun h => ?_) (fun h => ?_)) <;> have h' := h <;> (try simp at h') <;> (try subst h')) | ((first | refine qab9 (k1 _) ⟨rfl, rfl, trivial⟩ ⟨rfl, rfl, trivial⟩ ?_ | refine qab9 (k2 _) ⟨rfl, rfl, trivial⟩ ⟨rfl, rfl, trivial⟩ ?_ | refine qado (k4 _ (by simp)) ⟨rfl, rfl, trivial⟩ ⟨rfl, rfl, trivial⟩ [] (by simp) ?_); simp -implicitDefEqProofs [*]) | ((with_reducible refine qabh [] hm ?_ ?_ ?_ ?_) <;> (try simp only [zT, puth, Nat.reduceEqDiff, reduceIte, Nat.reduceAdd])) | (with_reducible first | refine za ?_ ?_ | refine zb ?_ ?_ ?_ ?_ | refine zc ?_ ?_ ?_ ?_) | (with_reducible first | exact qaba | exact qabf) | ((with_reducible first | refine zga ?_ | refine zgb ?_); rfl) | ((with_reducible refine zgc ?_); (first | (with_reducible rfl) | rfl | (simp; done))) | ((with_reducible refine zgd ?_); (first | omega | (simp; done))) | (exact Co.refl _) | (exact CoL.refl _) | ((refine qaee hm ?_; simp only [hobj])) | fail)
def chgR (k : Int) (l : List Entry) (e : Entry) : List Entry := if qaed k e = false then l else if tatV l e < 0 then l else l.set (tatV l e).toNat (towE e)
theorem tchg_s (k m : Int) (l : List Entry) (e : Entry) (hl : l.length ≤ 1000000) (hs : ∀ x ∈ l, qab7 x) (he : qab7 e) : SCalls Try.prog 17 [.ptr 0 0, .agg (qaae e)] [(0, .abs (qacx (some (k, m)) l))] 1 (.int .i64 (qamk k l e)) [(0, .abs (qacx (some (k, m)) (chgR k l e)))] := by
 have k1 := fun q => qap0 k m l e he q
 have k2 := fun q => tat_o k m l e hl hs he q
 have k5 := fun q => qa2j e he q
 have hv : qamk k l e = if qaed k e = false then 6 else if tatV l e < 0 then 9 else 0 := rfl
 have hr : chgR k l e = if qaed k e = false then l else if tatV l e < 0 then l else l.set (tatV l e).toNat (towE e) := rfl
 have hlt := qagv l e
 generalize qamk k l e = v at hv
 generalize chgR k l e = r at hr
 generalize qaed k e = a at k1 hv hr
 generalize tatV l e = b at k2 hv hr hlt
 generalize towE e = te at k5 hr
 refine qaa0 (N := 23) Try.func17 rfl rfl (by kernel_rfl) qanw (by simp) (by repeat' (first | exact trivial | refine And.intro ?_ ?_ | rfl | decide | exact PureR.ren _)) (by repeat' (first | exact trivial | refine And.intro ?_ ?_ | rfl | decide | exact PureR.ren _)) ?_
 rintro X hP hN hm
 refine qadr (by omega) (by decide) (qaex _ l) fun hh h => ?_
 subst h
 unfold c_tchg
 generalize hz : qaae te = z at k5
 unfold qaae at k1 k2 k5
 rw [show qaae e = [nums .u64 e.keys, nums .u64 e.masks, .int .i64 e.len, .int .i64 e.prio, .int .i64 e.act, nums .u64 e.args] from rfl]
 unfold hobj at k1 k2
 unfold hobj
 cases a
 ·obtain rfl : v = 6 := by rw [hv, if_pos rfl]
  obtain rfl : r = l := by rw [hr, if_pos rfl]
  clear hlt k2 hv hr
  repeat' (first | (with_reducible refine zA ?_) | ((with_reducible refine qaaj ?_); (try rw [hP]); simp -implicitDefEqProofs [*]) | ((with_reducible refine qaa7 ?_); (try simp only [qaau, qaab, qaaf])) | ((with_reducible refine qaat rfl (fun h => ?_) (fun h => ?_)) <;> have h' := h <;> (try simp at h') <;> (try subst h')) | (refine qab9 (k1 _) ⟨rfl, rfl, trivial⟩ ⟨rfl, rfl, trivial⟩ ?_; simp -implicitDefEqProofs [*]) | ((with_reducible refine qabh [] hm ?_ ?_ ?_ ?_) <;> (try simp only [zT, puth, Nat.reduceEqDiff, reduceIte, Nat.reduceAdd])) | (with_reducible first | refine za ?_ ?_ | refine zb ?_ ?_ ?_ ?_ | refine zc ?_ ?_ ?_ ?_) | (with_reducible first | exact qaba | exact qabf) | ((with_reducible first | refine zga ?_ | refine zgb ?_); rfl) | ((with_reducible refine zgc ?_); (first | (with_reducible rfl) | rfl | (simp; done))) | ((with_reducible refine zgd ?_); (first | omega | (simp; done))) | (exact Co.refl _) | (exact CoL.refl _) | ((refine qaee hm ?_; simp only [hobj])) | fail)
 ·by_cases hb : b < 0
  ·obtain rfl : v = 9 := by rw [hv, if_neg (by decide), if_pos hb]
   obtain rfl : r = l := by rw [hr, if_neg (by decide), if_pos hb]
   clear hlt hv hr
   repeat' (first | (with_reducible refine zA ?_) | ((with_reducible refine qaaj ?_); (try rw [hP]); simp -implicitDefEqProofs [*]) | ((with_reducible refine qaa1 ?_); (try simp -implicitDefEqProofs [*])) | ((with_reducible refine qaa7 ?_); (try simp only [qaau, qaab, qaaf])) | ((with_reducible refine qaat rfl (fun h => ?_) (fun h => ?_)) <;> have h' := h <;> (try simp at h') <;> (try subst h')) | ((first | refine qab9 (k1 _) ⟨rfl, rfl, trivial⟩ ⟨rfl, rfl, trivial⟩ ?_ | refine qab9 (k2 _) ⟨rfl, rfl, trivial⟩ ⟨rfl, rfl, trivial⟩ ?_); simp -implicitDefEqProofs [*]) | ((with_reducible refine qabh [] hm ?_ ?_ ?_ ?_) <;> (try simp only [zT, puth, Nat.reduceEqDiff, reduceIte, Nat.reduceAdd])) | (with_reducible first | refine za ?_ ?_ | refine zb ?_ ?_ ?_ ?_ | refine zc ?_ ?_ ?_ ?_) | (with_reducible first | exact qaba | exact qabf) | ((with_reducible first | refine zga ?_ | refine zgb ?_); rfl) | ((with_reducible refine zgc ?_); (first | (with_reducible rfl) | rfl | (simp; done))) | ((with_reducible refine zgd ?_); (first | omega | (simp; done))) | (exact Co.refl _) | (exact CoL.refl _) | ((refine qaee hm ?_; simp only [hobj])) | fail)
  ·obtain ⟨i, rfl, hi⟩ := hlt hb
   obtain rfl : v = 0 := by rw [hv, if_neg (by decide), if_neg hb]
   rw [if_neg (by decide), if_neg hb, Int.toNat_natCast] at hr
   have hrl : r.length = l.length := by rw [hr]; simp
   have hrr : r.map qaae = (l.map qaae).set i z := by rw [hr, ← hz]; simp
   have hz6 : z.length = 6 := by rw [← hz]; rfl
   have hzs : ∀ x : Entry, setL (qaae x) 0 z = z := fun x => by rw [← hz]; rfl
   clear hlt hv hr hz
   replace hrl := Lib.hid hrl
   replace hrr := Lib.hid hrr
   repeat' (first | (with_reducible first | refine zA ?_ | refine zK ?_) | ((with_reducible first | refine qaaj ?_ | refine qabl (by rw [hP]; exact qadh) ?_); (try rw [hP]); simp -implicitDefEqProofs [List.getElem?_eq_getElem hi, qaen, qac5, hz6, hzs, *]) | ((with_reducible refine qaa1 ?_); (try simp -implicitDefEqProofs [List.getElem?_eq_getElem hi, qaen, qac5, hz6, hzs, *])) | ((with_reducible refine qaa7 ?_); (try simp only [qaau, qaab, qaaf])) | ((with_reducible refine qaat rfl (fun h => ?_) (fun h => ?_)) <;> have h' := h <;> (try simp at h') <;> (try subst h')) | ((first | refine qab9 (k1 _) ⟨rfl, rfl, trivial⟩ ⟨rfl, rfl, trivial⟩ ?_ | refine qab9 (k2 _) ⟨rfl, rfl, trivial⟩ ⟨rfl, rfl, trivial⟩ ?_ | refine qab2 (k5 _) ?_); simp -implicitDefEqProofs [List.getElem?_eq_getElem hi, qaen, qac5, hz6, hzs, *]) | ((with_reducible refine qabh [] hm ?_ ?_ ?_ ?_) <;> (try simp only [zT, puth, Nat.reduceEqDiff, reduceIte, Nat.reduceAdd])) | (with_reducible first | refine za ?_ ?_ | refine zb ?_ ?_ ?_ ?_ | refine zc ?_ ?_ ?_ ?_) | (with_reducible first | exact qaba | exact qabf) | ((with_reducible first | refine zga ?_ | refine zgb ?_); rfl) | ((with_reducible refine zgd ?_); (first | omega | (simp; done))) | (exact Co.refl _) | ((refine qaee hm ?_; simp only [hobj])) | fail)
   all_goals first | (rw [hrl.out]; exact qada _ _ rfl) | exact hrr.out.symm
end Go.Proofs.Ytefkifebgeagiaa
namespace Go.Proofs.Ytefkifebgeagiaa
set_option linter.all false
open Go.RowKit
attribute [local simp] qaao qaan qaac qaah qaad qaag qaal qaam qaaa qaay SOp.run SX.ev putd puts argS upds SOp.touch SSt.keep SSt.skip gets geth puth delh idOf SV.cells? setL qab0 qab1 sbin eq0 eq1 eqL qabz qabd qabe qaau qaak qaab qaap qaaz qaaf qaai FrzOk qaa4 qaaw qaa2 qaa3 qaaq qaav qabb qaax qaas qaa5 qaar frzS frzH frz frz1 frz0 SlotsM ObjsM ObjM rn ren ren1 ren0 qabj qabs qaby qabi qabc qabu qabx CoL qaa6 qab4 dels adds idsH qabv
theorem fin_ghn {X : Cx} {s : SSt} {c : qac6} {l : List Entry} {t : Nat} (hm : X.m = 0) (hw : Wk X s ⟨[(t, .ptr 0 0)], hobj c l, 2⟩) : QFun X [.tmp t] 0 (.ptr 0 0) [(0, .abs (qacx c l))] .ret s := by
 have h1 : Wk X s ⟨[(t, .ptr 0 0)], [(0, .abs (qacx c l))], 2⟩ := hw.trans (qakc ⟨rfl, rfl, trivial⟩)
 have h2 : Wk X ⟨[(t, .ptr 0 0)], [(0, .abs (qacx c l))], 2⟩ ⟨[(t, .ptr 0 0)], [(0, .abs (qacx c l))], 1⟩ := qabh [] hm ⟨by simp only [gets, if_true]; exact Co.refl _, trivial⟩ ⟨⟨_, rfl, rfl⟩, trivial⟩ rfl (Nat.zero_le _)
 exact ⟨_, h1.trans h2, by simp [qagq, resL, resV, one_, gets], ⟨rfl, trivial⟩, by simp⟩
theorem tnew_s (k m : Int) : SCalls Try.prog 8 [.int .i64 k, .int .i64 m] [] 0 (.ptr 0 0) [(0, .abs (qacx (some (k, m)) []))] := by
 refine qaa0 (N := 9) Try.func8 rfl rfl (by kernel_rfl) qanu (by simp) (by repeat' (first | exact trivial | refine And.intro ?_ ?_ | rfl | decide | exact PureR.ren _)) (by repeat' (first | exact trivial | refine And.intro ?_ ?_ | rfl | decide | exact PureR.ren _)) ?_
 rintro X hP hN hm
 unfold c_tnew
 repeat' (first | (with_reducible refine zA ?_) | ((with_reducible refine qaaj ?_); (try rw [hP]); simp -implicitDefEqProofs [*]) | ((with_reducible refine qaa7 ?_); (try simp only [qaau, qaab, qaaf])) | fail)
 refine qaqv (qalx 4 2 29 6 rfl rfl) ?_
 exact fin_ghn hm (qabh [(0, 4), (1, 6)] hm ⟨Co.refl _, trivial⟩ ⟨⟨_, rfl, rfl, CoL.refl _⟩, ⟨_, rfl, rfl, rfl, CoLL.refl _⟩, trivial⟩ rfl (Nat.zero_le _))
end Go.Proofs.Ytefkifebgeagiaa
namespace Go.Proofs.Ytefkifebgeagiaa
set_option linter.all false
open Go.RowKit
attribute [local simp] qaao qaan qaac qaah qaad qaag qaal qaam qaaa qaay SOp.run SX.ev putd puts argS upds SOp.touch SSt.keep SSt.skip gets geth puth delh idOf SV.cells? setL qab0 qab1 sbin eq0 eq1 eqL qabz qabd qabe qaau qaak qaab qaap qaaz qaaf qaai FrzOk qaa4 qaaw qaa2 qaa3 qaaq qaav qabb qaax qaas qaa5 qaar frzS frzH frz frz1 frz0 SlotsM ObjsM ObjM rn ren ren1 ren0 qabj qabs qaby qabi qabc qabu qabx CoL qaa6 qab4 dels adds idsH qabv
theorem tlen_s (k m : Int) (l : List Entry) (q : Nat) : SCalls Try.prog 21 [.cp (qa1q k m l)] [] q (.int .i64 l.length) [] := by
 refine qabo ?_ (fun _ => rfl) (fun _ => rfl) rfl q
 refine qaa0 (N := 8) Try.func21 rfl rfl (by kernel_rfl) qanv (by simp) (by repeat' (first | exact trivial | refine And.intro ?_ ?_ | rfl | decide | exact PureR.ren _)) (by repeat' (first | exact trivial | refine And.intro ?_ ?_ | rfl | decide | exact PureR.ren _)) ?_
 rintro X hP hN hm
 unfold c_tlen qa1q
 repeat' (first | (with_reducible refine zA ?_) | ((with_reducible refine qaaj ?_); (try rw [hP]); simp -implicitDefEqProofs [*]) | ((with_reducible refine qaa7 ?_); (try simp only [qaau, qaab, qaaf])) | (with_reducible refine zM hm ?_) | fail)
 all_goals simp
theorem tlen_o (k m : Int) (l : List Entry) (q : Nat) : SCalls Try.prog 21 [.ptr 0 0] (hobj (some (k, m)) l) q (.int .i64 l.length) (hobj (some (k, m)) l) :=
 qac1 (tlen_s k m l q) ⟨qakt, trivial⟩ (qafy _ _)
theorem conf_o (g : FuncId) (b : Entry) (l : List Entry) (p : Entry → Bool) (c : qac6) (id : Nat) (h2 : 2 ≤ id) (hl : l.length ≤ 1000000) (hg : AskC g b l p) (q : Nat) : SCalls Try.prog 32 [.own 1 l.length, .fn (.func g) [] [.ptr id 0]] (hobj c l ++ [(id, .cells 29 (qaae b))]) q (.bool (decide (0 ≤ idxV l p))) (hobj c l ++ [(id, .cells 29 (qaae b))]) :=
 qac1 (conf_s g b l p hl hg q) ⟨qaku (e := 29) rfl (qafn _ _) (by simp), qa16 ⟨qakv (t := 29) (cs := qaae b) (by unfold hobj; simp only [List.cons_append, List.nil_append, geth]; rw [if_neg (by omega), if_neg (by omega), if_pos trivial]) (qagd _) (qaqz b), trivial⟩, trivial⟩ (qai4 _)
end Go.Proofs.Ytefkifebgeagiaa
namespace Go.Proofs.Ytefkifebgeagiaa
set_option linter.all false
open Go.RowKit
instance : PureR ([] : List (List SV)) := ⟨fun _ => rfl, fun x hx => (by cases hx), fun x hx => (by cases hx)⟩
theorem qfun_wk {X : Cx} {rs : List ResultVar} {m : Nat} {r : SV} {h2 : Hp} {s s1 : SSt} (hw : Wk X s s1) (h : QFun X rs m r h2 .ret s1) : QFun X rs m r h2 .ret s := by
 obtain ⟨s', h1, h2, h3, h4⟩ := h
 exact ⟨s', hw.trans h1, h2, h3, h4⟩
end Go.Proofs.Ytefkifebgeagiaa
namespace Go.Proofs.Ytefkifebgeagiaa
set_option linter.all false
open Go.RowKit
theorem qae5 {P : Program} {f : FuncId} {args : List SV} {N : Nat} {hh : Hp} {r : SV} (he : Enters P f) (hN : 0 < N) (hren : ∀ σ : Nat → Nat, (∀ i, i < N → σ i = i) → RenH σ hh) (hids : ∀ i ∈ idsH hh, i < N)
  (h : SCalls P f (.ptr 0 0 :: args) hh N r hh) (ha : ∀ σ, args.map (Go.Proofs.Ytefkifebgeagiaa.ren σ) = args) (hr : ∀ σ, Go.Proofs.Ytefkifebgeagiaa.ren σ r = r) (id q : Nat) : SCalls P f (.ptr id 0 :: args) [(id, .abs (qawx N fun h => h = hh))] q r [(id, .abs (qawx N fun h => h = hh))] := by
 refine qaqg he (fun O Fp w b vs hI hO hd hv => ?_) ha id q
 obtain ⟨h1, ρ, fp, c, hR, h0, hn, hobj, hdis, hlt, hF⟩ := hI
 have hR' : h1 = hh := hR
 subst hR'
 have hA : (fun k => O k ∨ Fp k) = fun k => O k ∨ Live h1 fp k := by funext k; rw [hF]
 rw [hA] at hobj hv
 refine (h.2 O ρ fp w (.pointer (some ⟨b, 0, none⟩) :: vs) ⟨hobj, hdis, fun k hk => ⟨hlt k hk, hd k ((hF k).2 hk)⟩, hO⟩ (Reps.cons (.ptr h0) (hv.mono (.refl _ _) (fun _ h _ => h) fun _ _ h => by cases h)) (fun id h3 _ => hn id h3)).mono ?_
 rintro e w' ⟨v, ρ', fp', rfl, q1, q2, q3, q4, q5, q6⟩
 have hfr : ρ' (N + 8) = none := by
  cases e : ρ' (N + 8) with
  | none => rfl
  | some p =>
   rcases q5 (N + 8) (by rw [e]; simp) with h3 | h3
   ·exact absurd (hn _ (by omega)) h3
   ·omega
 let σ : Nat → Nat := fun i => if i < N then i else N + 8
 have hσ : ∀ {i o}, geth h1 i = some o → i < N ∧ σ i = i := fun {i o} ho => by
  have := hids i (qac4 (by rw [ho]; simp))
  exact ⟨this, if_pos this⟩
 refine ⟨v, fun k => Live h1 fp' k, rfl, ⟨h1, fun i => ρ' (σ i), fp', c, rfl, ?_, fun i hi => ?_, fun i o ho => ?_, q1.disj, fun k hk => (q1.lt k hk).1, fun k => Iff.rfl⟩, fun k hk => ?_, q3.mono fun k hk => (hF k).2 hk, ?_⟩
 ·show ρ' (σ 0) = _
  rw [show σ 0 = 0 from if_pos hN]; exact q4 _ _ h0
 ·show ρ' (σ i) = none
  rw [show σ i = N + 8 from if_neg (by omega)]; exact hfr
 ·have h6 := ((hren σ fun i hi => if_pos hi).get i o ho).objM
  have h8 := q1.objs i o ho
  have h9 : ObjRep w' (fun k => O k ∨ Live h1 fp' k) ρ' (σ i) (fp' i) o := by rw [(hσ ho).2]; exact h8
  exact h6.back h9
 ·obtain ⟨i, o, ho, hk2⟩ := hk
  exact (q6 i o ho k hk2).imp (fun h => (hF k).2 h) fun h => h
 ·have h1 : RepV w' (fun k => O k ∨ Live h1 fp' k) ρ' (Go.Proofs.Ytefkifebgeagiaa.ren (fun _ => N + 8) r) v := by rw [hr]; exact q2
  have h2 := qakl h1
  have e : (fun id => ρ' ((fun _ => N + 8) id)) = noPl := by funext id; show ρ' (N + 8) = _; rw [hfr]; rfl
  rw [e] at h2; exact h2
theorem qa2n {X : Cx} {c : SCode} {Q : SExit → SSt → Prop} {s : SSt} (t id : Nat) (h0 : gets s.sl t = .own id 0) (h1 : SWp X c Q ⟨setS s.sl t .nilsl, s.hp, s.nx⟩) (h2 : SWp X c Q ⟨setS s.sl t .mt, s.hp, s.nx⟩) : SWp X c Q s := fun code hc ρ fp a w hs => by
 have key : ∀ x, RepV w (Av X s.hp fp) ρ x (a.tmps.getD t undef) → SimF X ρ fp ⟨setS s.sl t x, s.hp, s.nx⟩ a w := fun x hx => ⟨⟨hs.sim.h, hs.sim.tmps, hs.sim.defers, fun u => by
  show RepV w _ ρ (gets (setS s.sl t x) u) _
  rw [qah0]
  by_cases e : u = t
  ·subst e; rw [if_pos rfl]; exact hx
  ·rw [if_neg e]; exact hs.sim.slots u⟩, hs.fresh, hs.le⟩
 have h3 := hs.sim.slots t
 rw [h0] at h3
 generalize a.tmps.getD t undef = v at h3 key
 cases h3 with
 | own0 _ => exact h1 code hc ρ fp a w (key _ .nilsl)
 | own _ _ hm => exact h2 code hc ρ fp a w (key _ (.mt hm))
theorem qae6 {P : Program} {f : FuncId} {args : List SV} {I1 I2 : AbsI} {r : SV} (h : SCalls P f (.ptr 0 0 :: args) [(0, .abs I1)] 1 r [(0, .abs I2)]) (ha : ∀ σ, args.map (Go.Proofs.Ytefkifebgeagiaa.ren σ) = args) (hr : ∀ σ, Go.Proofs.Ytefkifebgeagiaa.ren σ r = r) (hk : ok2 r = true) (id q : Nat) (hq : id < q) : SCalls P f (.ptr id 0 :: args) [(id, .abs I1)] q r [(id, .abs I2)] := by
 have e0 : sg [id] q 0 = id := rfl
 refine qacj [id] h rfl (by simp) (by simp; omega) ?_ ?_ (by simp [idsH]) (hr _).symm hk ?_ (by simp [idsH]) (by simp [idsH, e0])
 ·rw [List.map_cons, ha]; simp [Go.Proofs.Ytefkifebgeagiaa.ren, ren1, ren0, e0]
 ·exact ⟨⟨.abs I1, by rw [e0]; simp [geth], rfl⟩, trivial⟩
 ·exact ⟨⟨.abs I2, by rw [e0]; simp [geth], rfl⟩, trivial⟩
theorem qaqb {X : Cx} {ops : Array Oper} {Q : SSt → List Tch → Prop} {R : Exit → Act → World → Prop} (hQ : ∀ s tr ρ fp a w, Q s tr → SimF X ρ fp s a w → R .normal a w) : ∀ (n : Nat) (l : List Oper) (bs : List Nat) (sos : List SOper), qaec X.P X.N ops l bs = some sos → ∀ (s : SSt) (tr : List Tch) (ρ : qacc) (fp : Nat → Nat → Prop) (a : Act) (w : World),
  SOps X.P (sos.take n) s tr (fun s1 t1 => ∃ s2, Wk X s1 s2 ∧ SOps X.P (sos.drop n) s2 t1 Q) → SimF X ρ fp s a w → wpList X.P ops R l a w
 | 0, l, bs, sos, hc, s, tr, ρ, fp, a, w, hk, h => by
  obtain ⟨s2, hw, h3⟩ := hk
  obtain ⟨ρ', fp', h'⟩ := hw ρ fp a w h
  exact qa1t hQ l bs sos hc _ _ _ _ _ _ h3 h'
 | n + 1, [], bs, sos, hc, s, tr, ρ, fp, a, w, hk, h => by
  simp only [qaec, Option.some.injEq] at hc
  subst hc
  obtain ⟨s2, hw, h3⟩ := hk
  obtain ⟨ρ', fp', h'⟩ := hw ρ fp a w h
  exact hQ _ _ _ _ _ _ h3 h'
 | n + 1, o :: l, bs, sos, hc, s, tr, ρ, fp, a, w, hk, h => by
  have ih := fun bs sos (hc : qaec X.P X.N ops l bs = some sos) => qaqb hQ n l bs sos hc
  obtain ⟨so, r, rfl, hso, hr⟩ := qad6 hc
  obtain ⟨hdst, hd, hg, _, _⟩ := qadm hso
  obtain ⟨g1, g2⟩ := qakz hg h.sim
  rw [List.take_succ_cons, List.drop_succ_cons] at hk
  refine wpList_step fun K hK => ?_
  have run : (SOp1 X.P so s fun s' x => SOps X.P (r.take n) s' (x :: tr) (fun s1 t1 => ∃ s2, Wk X s1 s2 ∧ SOps X.P (r.drop n) s2 t1 Q)) → o.wp X.P a w K R := fun hk => op1_ok hso hk h fun s' x ρ' fp' a' w' hk' h' => hK _ _ (ih _ _ hr _ _ _ _ _ _ hk' h')
  simp only [SOps] at hk
  cases hgr : so.grd with
  | none =>
   rw [hgr] at hk
   rw [if_pos (g1 hgr)]
   exact run hk
  | some tw =>
   obtain ⟨t, want⟩ := tw
   rw [hgr] at hk
   obtain ⟨g3, g4⟩ := g2 t want hgr
   simp only at hk
   split at hk
   ·rename_i b hb
    rw [g3 b hb]
    by_cases hbw : b = want
    ·rw [if_pos (by simpa using hbw)]
     exact run (hk.1 hbw)
    ·rw [if_neg (by simpa using hbw)]
     exact hK _ _ (ih _ _ hr _ _ _ _ _ _ (hk.2 hbw) (Sim.skip h hdst hd))
   ·rename_i hb
    rw [g4 hb, if_neg (by simp)]
    exact hK _ _ (ih _ _ hr _ _ _ _ _ _ hk (Sim.skip h hdst hd))
   ·cases hk
theorem qahq {X : Cx} {Q : SExit → SSt → Prop} {s : SSt} {ops : List SOper} {live : List Nat} (n : Nat) (h : SOps X.P (ops.take n) s [] fun s1 t1 => ∃ s2, Wk X s1 s2 ∧ SOps X.P (ops.drop n) s2 t1 fun s' _ => Q .normal (s'.keep live)) : SWp X (.reg false ops live) Q s := fun code hc ρ fp a w hs => by
 by_cases hreg : ∃ id o d, code = .region id o d
 ·obtain ⟨id, o, d, rfl⟩ := hreg
  obtain ⟨l, e, h1, _⟩ := qach hc
  simp only [SCode.erase, SCode.reg.injEq, and_true] at e
  obtain ⟨rfl, rfl⟩ := e
  refine wp_region_list ?_
  refine qaqb (Q := fun s' _ => Q .normal (s'.keep live)) ?_ n _ _ _ h1 s [] ρ fp a w h hs
  intro s' tr ρ' fp' a' w' hq h'
  obtain ⟨ρ2, fp2, h2⟩ := qapw live ρ' fp' a' w' h'
  exact ⟨_, ρ2, fp2, hq, h2⟩
 ·cases code <;> (try simp only [comp, SCode.erase, Option.bind_eq_bind, Option.bind_eq_some_iff, Option.some.injEq, reduceCtorEq, and_false, exists_false, exists_const] at hc)
  case region => exact absurd ⟨_, _, _, rfl⟩ hreg
end Go.Proofs.Ytefkifebgeagiaa
namespace Go.Proofs.Ytefkifebgeagiaa
set_option linter.all false
open Go.RowKit
attribute [local simp] qaao qaan qaac qaah qaad qaag qaal qaam qaaa qaay SOp.run SX.ev putd puts argS upds SOp.touch SSt.keep SSt.skip gets geth puth delh idOf SV.cells? setL qab0 qab1 sbin eq0 eq1 eqL qabz qabd qabe qaau qaak qaab qaap qaaz qaaf qaai FrzOk qaa4 qaaw qaa2 qaa3 qaaq qaav qabb qaax qaas qaa5 qaar frzS frzH frz frz1 frz0 SlotsM ObjsM ObjM rn ren ren1 ren0 qabj qabs qaby qabi qabc qabu qabx CoL qaa6 qab4 dels adds idsH qabv
theorem qah4 {X : Cx} {sl : Sl} {hp : Hp} {t nx id e z n e' z' : Nat} {es fs : List (List SV)} [PureR es] [PureR fs] (hm : X.m = 1) (hne : id ≠ 0) (hv : gets sl t = .own id n) (h0 : geth hp 0 = some (.row e' z' fs)) (h1 : geth hp id = some (.row e z es)) : QFun X [.tmp t] 1 (.own 1 n) [(0, .row e' z' fs), (1, .row e z es)] .ret ⟨sl, hp, nx⟩ := by
 have hw : Wk X ⟨sl, hp, nx⟩ ⟨[(t, .own 1 n)], [(0, .row e' z' fs), (1, .row e z es)], 2⟩ := by
  refine qabh [(1, id)] hm ⟨?_, trivial⟩ ⟨⟨_, h0, rfl, rfl, ?_⟩, ⟨_, h1, rfl, rfl, ?_⟩, trivial⟩ ?_ (by simp)
  ·rw [hv]; exact Co.refl _
  ·rw [PureR.ren]; exact CoLL.refl _
  ·rw [PureR.ren]; exact CoLL.refl _
  ·simp [qabv, diag, idsH, hne, Ne.symm hne, List.range_succ]
 exact ⟨_, hw, by simp [qagq, resL, resV, one_, gets], ⟨rfl, rfl, trivial⟩, by simp⟩
theorem clrow_1 (l : List Entry) (hl : l.length ≤ 1000000) : SCalls Try.prog 37 [.own 0 l.length] [(0, .row 29 6 (l.map qaae))] 1 (.own 1 l.length) [(0, .row 29 6 (l.map qaae)), (1, .row 29 6 (l.map qaae))] := by
 rcases l with _ | ⟨x, l⟩
 ·refine qaa0 (N := 8) Try.func37 rfl rfl (by kernel_rfl) qagk (by simp) (by repeat' (first | exact trivial | refine And.intro ?_ ?_ | rfl | decide | exact PureR.ren _)) ⟨by decide, rfl, trivial⟩ ?_
  rintro X hP hN hm
  unfold c_clrow
  refine qa2n 0 0 rfl ?_ ?_
  ·show SWp _ _ _ ⟨[(0, .nilsl)], _, _⟩
   repeat' (first | (with_reducible refine zA ?_) | ((with_reducible refine qaaj ?_); (try rw [hP]); simp -implicitDefEqProofs [*]) | ((with_reducible refine qaa7 ?_); (try simp only [qaau, qaab, qaaf])) | ((with_reducible refine qaat rfl (fun h => ?_) (fun h => ?_)) <;> have h' := h <;> (try simp at h') <;> (try subst h')) | ((refine qfun_wk (qaly 2 29 6 rfl) ?_; simp only [zT, puth, Nat.reduceEqDiff, reduceIte, Nat.reduceAdd]; exact qah4 hm (by decide) rfl rfl rfl)) | fail)
   all_goals trace_state
  ·show SWp _ _ _ ⟨[(0, .mt)], _, _⟩
   repeat' (first | (with_reducible refine zA ?_) | ((with_reducible refine qaaj ?_); (try rw [hP]); simp -implicitDefEqProofs [*]) | ((with_reducible refine qaa1 ?_); (try simp -implicitDefEqProofs [*])) | ((with_reducible refine qaa7 ?_); (try simp only [qaau, qaab, qaaf])) | ((with_reducible refine qaat rfl (fun h => ?_) (fun h => ?_)) <;> have h' := h <;> (try simp at h') <;> (try subst h')) | ((exact qah4 hm (by decide) rfl rfl rfl)) | fail)
   all_goals trace_state
 ·refine qaa0 (N := 8) Try.func37 rfl rfl (by kernel_rfl) qagk (by simp) (by repeat' (first | exact trivial | refine And.intro ?_ ?_ | rfl | decide | exact PureR.ren _)) ⟨by decide, qaca _ _ _, trivial⟩ ?_
  rintro X hP hN hm
  have hb : (x :: l).length ≤ maxLen := by unfold maxLen; omega
  simp only [List.length_cons] at hl hb
  unfold c_clrow
  repeat' (first | (with_reducible refine zA ?_) | ((with_reducible refine qaaj ?_); (try rw [hP]); simp -implicitDefEqProofs [*]) | ((with_reducible refine qaa1 ?_); (try simp -implicitDefEqProofs [*])) | ((with_reducible refine qaa7 ?_); (try simp only [qaau, qaab, qaaf])) | ((with_reducible refine qaat rfl (fun h => ?_) (fun h => ?_)) <;> have h' := h <;> (try simp at h') <;> (try subst h')) | ((with_reducible refine qaeg ?_ ?_); (first | omega | (unfold maxLen; omega)); simp -implicitDefEqProofs [*]) | fail)
  show QFun X [.tmp 2] 1 (.own 1 (l.length + 1)) [(0, .row 29 6 ((x :: l).map qaae)), (1, .row 29 6 ((x :: l).map qaae))] .ret ⟨_, [(0, .row 29 6 ((x :: l).map qaae)), (6, .row 29 6 ((x :: l).map qaae))], _⟩
  exact qah4 hm (by decide) rfl rfl rfl
theorem clrow_o (l : List Entry) (hl : l.length ≤ 1000000) (a q : Nat) (ha : a < q) : SCalls Try.prog 37 [.own a l.length] [(a, .row 29 6 (l.map qaae))] q (.own q l.length) [(a, .row 29 6 (l.map qaae)), (q, .row 29 6 (l.map qaae))] := by
 have e0 : sg [a] q 0 = a := rfl
 have e1 : sg [a] q 1 = q := rfl
 exact qacj [a] (clrow_1 l hl) rfl (by simp) (by simp; omega) (by simp [Go.Proofs.Ytefkifebgeagiaa.ren, ren1, ren0, e0]) ⟨⟨.row 29 6 (l.map qaae), by rw [e0]; simp [geth], rfl, rfl, by rw [qaca]; exact CoLL.refl _⟩, trivial⟩ (by simp [idsH]) (by simp [Go.Proofs.Ytefkifebgeagiaa.ren, ren1, ren0, e1]) rfl ⟨⟨.row 29 6 (l.map qaae), by rw [e0]; simp [geth], rfl, rfl, qagz _ _, (qaca _ _ _).symm⟩, ⟨.row 29 6 (l.map qaae), by rw [e1]; simp [geth], rfl, rfl, qagz _ _, (qaca _ _ _).symm⟩, trivial⟩ (by simp [idsH]) (by simp [idsH, e0, e1])
theorem hpop_r (l L : List Entry) (x : Entry) (h : popL l = L ++ [x]) (hb : l.length ≤ 1000000) (hs : ∀ x ∈ l, qab7 x) (a b q : Nat) (hab : a ≠ b) (ha : a < q) (hbq : b < q) : SCalls Try.prog 38 [.ifc 73 (.ptr a 0)] [(a, .cells 68 [.own b l.length]), (b, .row 29 6 (l.map qaae))] q (.ifc 29 (.agg (qaae x))) [(a, .cells 68 [.own b L.length]), (b, .row 29 6 (L.map qaae))] := by
 have e0 : sg [a, b] q 0 = a := rfl
 have e1 : sg [a, b] q 1 = b := rfl
 have h0 := hpop_s none l L x h hb hs 2 (Nat.le_refl _)
 have g0 : ∀ o p : SObj, geth [(a, o), (b, p)] b = some p := fun o p => by simp [geth, hab]
 exact qacj [a, b] h0 rfl (by simp [hab]) (by simp; omega) (by simp [Go.Proofs.Ytefkifebgeagiaa.ren, ren1, ren0, renA, renB, e0, hoff]) ⟨⟨.cells 68 [.own b l.length], by rw [e0]; simp [geth], rfl, by simp [hcs, Go.Proofs.Ytefkifebgeagiaa.ren, ren1, ren0, e1]⟩, ⟨.row 29 6 (l.map qaae), by rw [e1]; exact g0 _ _, rfl, rfl, by rw [qaca]; exact CoLL.refl _⟩, trivial⟩ (by simp [idsH, hobj]) (by rfl) rfl ⟨⟨.cells 68 [.own b L.length], by rw [e0]; simp [geth], rfl, rfl, by simp [hcs, Go.Proofs.Ytefkifebgeagiaa.ren, ren1, ren0, e1]⟩, ⟨.row 29 6 (L.map qaae), by rw [e1]; exact g0 _ _, rfl, rfl, qagz _ _, (qaca _ _ _).symm⟩, trivial⟩ (by simp [idsH, hobj]) (by simp [idsH, hobj, e0, e1])
theorem fin_ghw {X : Cx} {s : SSt} {c : qac6} {l : List Entry} {t z : Nat} {es : List (List SV)} (hw : Wk X s ⟨[(t, .view z es)], hobj c l, 2⟩) : QFun X [.tmp t] 2 (.view z es) (hobj c l) .ret s :=
 ⟨_, hw, by simp [qagq, resL, resV, one_, gets], ⟨rfl, rfl, trivial⟩, by simp⟩
theorem qa2l (k m : Int) (l : List Entry) (hl : l.length ≤ 1000000) (hs : ∀ x ∈ l, qab7 x) : SCalls Try.prog 11 [.ptr 0 0] (hobj (some (k, m)) l) 2 (.view 6 ((qae1 l).map qaae)) (hobj (some (k, m)) l) := by
 obtain ⟨F, hF⟩ : ∃ F, F = qae1 l := ⟨_, rfl⟩
 rw [← hF]
 replace hF := Lib.hid hF
 replace hs := Lib.hid hs
 have k1 := fun q hq => clrow_o l hl 1 q hq
 refine qaa0 (N := 28) Try.func11 rfl rfl (by kernel_rfl) qany (by simp) (by repeat' (first | exact trivial | refine And.intro ?_ ?_ | rfl | decide | exact PureR.ren _)) (qais (some (k, m)) l) ?_
 rintro X hP hN hm
 unfold c_tall hobj
 repeat' (first | (with_reducible refine zA ?_) | ((with_reducible refine qaaj ?_); (try rw [hP]); simp -implicitDefEqProofs [hcs, *]) | (refine qado (k1 _ (by simp)) ⟨rfl, trivial⟩ ⟨rfl, by simp [geth], trivial⟩ [] (by simp) ?_; simp -implicitDefEqProofs [hcs, *]) | fail)
 refine qaef (qaly 4 29 6 rfl) ?_
 simp only [zT, puth, Nat.reduceEqDiff, reduceIte, Nat.reduceAdd]
 refine qabp (qads (fun s (x : List Entry × List Entry) => ⟨[(3, .ptr 2 0), (4, .own 4 x.2.length)], [(0, .cells (hty (some (k, m))) (hcs (some (k, m)) l.length)), (1, .row 29 6 (l.map qaae)), (2, .cells 68 [.own 3 x.1.length]), (3, .row 29 6 (x.1.map qaae)), (4, .row 29 6 (x.2.map qaae))], 5⟩) (fun x => F = x.2 ++ qawj x.1.length x.1 ∧ (∀ e ∈ x.1, qab7 e) ∧ x.2.length + x.1.length ≤ 1000000) (fun x => x.1.length) (l, []) ?_ ⟨by rw [hF.out]; rfl, hs.out, by simpa using hl⟩ ?_)
 ·refine qabh [(2, 15), (3, 7), (4, 18)] hm ⟨Co.refl _, Co.refl _, trivial⟩ ⟨⟨_, rfl, rfl, qada (some (k, m)) _ rfl⟩, ⟨_, rfl, rfl, rfl, ?_⟩, ⟨_, rfl, rfl, CoL.refl _⟩, ⟨_, rfl, rfl, rfl, ?_⟩, ⟨_, rfl, rfl, rfl, CoLL.refl _⟩, trivial⟩ rfl (by simp)
  ·rw [qaca]; exact CoLL.refl _
  ·rw [qaca]; exact CoLL.refl _
 rintro J hJ ⟨L, out⟩ ⟨h1, h2, h3⟩
 unfold qamq
 simp only [zT, puth, Nat.reduceEqDiff, reduceIte, Nat.reduceAdd] at h1 h2 h3 ⊢
 rcases Nat.eq_zero_or_pos L.length with h0 | h0
 ·have hLn : L = [] := List.eq_nil_of_length_eq_zero h0
  subst hLn
  have hFo : F = out := by rw [h1]; simp [qawj]
  subst hFo
  clear h1 h2 h3 hJ
  repeat' (first | ((with_reducible refine qac8 (c := .seq (.reg false qamp [2]) .ret) ?_)) | (with_reducible refine zA ?_) | ((with_reducible refine qaaj ?_); (try rw [hP]); simp -implicitDefEqProofs [hcs, *]) | ((with_reducible refine qabw ?_); (try simp -implicitDefEqProofs [hcs, *])) | ((with_reducible refine qaat rfl (fun h => ?_) (fun h => ?_)) <;> have h' := h <;> (try simp at h') <;> (try subst h')) | fail)
  constructor
  refine qa1s [4] ?_ ?_
  ·simp only [FrzOk, geth, Nat.reduceEqDiff, reduceIte, qa11, and_true]
  simp -implicitDefEqProofs
  repeat' (first | (with_reducible refine zA ?_) | ((with_reducible refine qaaj ?_); (try rw [hP]); simp -implicitDefEqProofs [*]) | ((with_reducible refine qaa7 ?_); (try simp only [qaau, qaab, qaaf])) | ((with_reducible refine qabh [] hm ?_ ?_ ?_ ?_) <;> (try simp only [zT, puth, Nat.reduceEqDiff, reduceIte, Nat.reduceAdd])) | (with_reducible first | refine za ?_ ?_ | refine zb ?_ ?_ ?_ ?_ | refine zc ?_ ?_ ?_ ?_) | (with_reducible first | exact qaba | exact qabf) | ((with_reducible first | refine zga ?_ | refine zgb ?_); rfl) | ((with_reducible refine zgc ?_); (first | (with_reducible rfl) | rfl | (simp; done))) | ((with_reducible refine zgd ?_); (first | omega | (simp; done))) | (exact Co.refl _) | (exact CoL.refl _) | ((refine fin_ghw ?_; simp only [hobj])) | fail)
  all_goals trace_state
 ·obtain ⟨p1, p2⟩ := qakn h0
  have hdl : (popL L).dropLast.length = L.length - 1 := by rw [List.length_dropLast, (qack L).length_eq]
  have hds : ∀ e ∈ (popL L).dropLast, qab7 e := fun e he => h2 e ((qack L).mem_iff.1 ((List.dropLast_sublist _).mem he))
  have hxm : atE (popL L) (L.length - 1) ∈ popL L := by
   have h9 : atE (popL L) (L.length - 1) ∈ (popL L).dropLast ++ [atE (popL L) (L.length - 1)] := by simp
   rw [← p2] at h9; exact h9
  have hxs : qab7 (atE (popL L) (L.length - 1)) := h2 _ ((qack L).mem_iff.1 hxm)
  have h4 : F = (out ++ [towE (atE (popL L) (L.length - 1))]) ++ qawj (popL L).dropLast.length (popL L).dropLast := by
   rw [h1, hdl, show L.length = L.length - 1 + 1 by omega]
   simp only [qawj, p1]; simp
  have k2 := fun q h1 h3 => hpop_r L _ _ p2 (by omega) h2 2 3 q (by decide) h1 h3
  have k3 := fun q => qa2j _ hxs q
  generalize (popL L).dropLast = L2 at *
  generalize atE (popL L) (L.length - 1) = x at *
  generalize hte : towE x = te at *
  have hro : out.map qaae ++ [qaae te] = (out ++ [te]).map qaae := by simp
  have hlo : (out ++ [te]).length = out.length + 1 := by simp
  generalize out ++ [te] = O2 at *
  have b1 : out.length + 1 ≤ maxLen := by unfold maxLen; omega
  have b2 : (out.length + 1) * 96 ≤ 140737488355328 := by omega
  have hg : ((L.length : Int) > 0) := by omega
  clear p1 p2 h1 h2 hxs hxm hte
  replace h4 := Lib.hid h4
  replace hds := Lib.hid hds
  replace hdl := Lib.hid hdl
  replace hro := Lib.hid hro
  replace hlo := Lib.hid hlo
  replace hs := Lib.hid hs
  repeat' (first | (with_reducible first | refine zA ?_ | refine qaa9 ?_) | ((with_reducible refine qaaj ?_); (try rw [hP]); simp -implicitDefEqProofs [hcs, b1, b2, qaen, qac5, qak7, *]) | ((with_reducible refine qaa1 ?_); (try simp -implicitDefEqProofs [hcs, b1, b2, qaen, qac5, qak7, *])) | ((with_reducible refine qaat rfl (fun h => ?_) (fun h => ?_)) <;> have h' := h <;> (try simp at h') <;> (try subst h')) | ((first | refine qado (k2 _ (by simp) (by simp)) ⟨rfl, rfl, trivial⟩ ⟨rfl, rfl, trivial⟩ [] (by simp) ?_ | refine qab2 (k3 _) ?_); simp -implicitDefEqProofs [hcs, b1, b2, qaen, qac5, qak7, *]) | fail)
  refine qacp hJ (L2, O2) (qabh [(4, 36)] hm ⟨Co.refl _, ?_, trivial⟩ ⟨⟨_, rfl, rfl, qada (some (k, m)) _ rfl⟩, ⟨_, rfl, rfl, rfl, ?_⟩, ⟨_, rfl, rfl, CoL.refl _⟩, ⟨_, rfl, rfl, rfl, ?_⟩, ⟨_, rfl, rfl, rfl, ?_⟩, trivial⟩ rfl (by simp)) ⟨h4.out, hds.out, ?_⟩ ?_
  ·simp only [hlo.out]; exact Co.refl _
  ·rw [qaca]; exact CoLL.refl _
  ·rw [qaca]; exact CoLL.refl _
  ·rw [qaca, hro.out]; exact CoLL.refl _
  ·simp only [hlo.out, hdl.out]; omega
  ·simp only [hdl.out]; omega
end Go.Proofs.Ytefkifebgeagiaa
namespace Go.Proofs.Ytefkifebgeagiaa
set_option linter.all false
open Go.RowKit
attribute [local simp] qaao qaan qaac qaah qaad qaag qaal qaam qaaa qaay SOp.run SX.ev putd puts argS upds SOp.touch SSt.keep SSt.skip gets geth puth delh idOf SV.cells? setL qab0 qab1 sbin eq0 eq1 eqL qabz qabd qabe qaau qaak qaab qaap qaaz qaaf qaai FrzOk qaa4 qaaw qaa2 qaa3 qaaq qaav qabb qaax qaas qaa5 qaar frzS frzH frz frz1 frz0 SlotsM ObjsM ObjM rn ren ren1 ren0 qabj qabs qaby qabi qabc qabu qabx CoL qaa6 qab4 dels adds idsH qabv
attribute [local irreducible] qacz
def qai5 (l : List Entry) (e : Entry) : Int := idxV l fun x => x.prio == e.prio && qaib x e
def addV (k m : Int) (l : List Entry) (e : Entry) : Int := if qaed k e = false then 6 else if 0 ≤ tatV l e then 7 else if 0 ≤ qai5 l e then 8 else if m ≤ l.length then 10 else 0
def addR (k m : Int) (l : List Entry) (e : Entry) : List Entry := if addV k m l e = 0 then qaqw l (towE e) else l
theorem qaez {k : Int} {e : Entry} (h : qaed k e = true) : (e.keys.length : Int) = k ∧ (e.masks.length : Int) = k := by
 unfold qaed at h
 split at h
 ·cases h
 ·omega
theorem qawl {X : Cx} {s : SSt} {c : qac6} {l : List Entry} {o : SObj} (hs : SubH s.hp (hobj c l)) (h2 : geth s.hp 2 = some o) : Wk X s ⟨s.sl, [(0, .abs (qacx c l)), (2, o)], s.nx⟩ :=
 qa1p (hh := hobj c l) (R := fun h => h = hobj c l) rfl (by decide) rfl (fun σ h => qad4 c l (h 1 (by decide))) (by simp [idsH, hobj]) hs rfl (fun id o' h ho => by
  simp only [geth, if_neg (Ne.symm h)] at ho
  split at ho
  ·rename_i e; subst e; cases ho; exact ⟨h2, rfl⟩
  ·cases ho)
theorem fin_ai {X : Cx} {t nx : Nat} {n : Int} {sl : Sl} {hp : Hp} {I : AbsI} (hm : X.m = 1) (hb : gets sl t = .int .i64 n) (h : geth hp 0 = some (.abs I)) : QFun X [.tmp t] 1 (.int .i64 n) [(0, .abs I)] .ret ⟨sl, hp, nx⟩ :=
 ⟨⟨[(t, .int .i64 n)], [(0, .abs I)], 1⟩, qabh [] hm ⟨by rw [hb]; exact Co.refl _, trivial⟩ ⟨⟨_, h, rfl⟩, trivial⟩ rfl (Nat.le_refl _), by simp [qagq, resL, resV, one_, gets], ⟨rfl, trivial⟩, by simp⟩
set_option maxRecDepth 4000 in
theorem tadd_s (k m : Int) (l : List Entry) (e : Entry) (hl : l.length < 1000000) (hs : ∀ x ∈ l, qab7 x) (hk : ∀ x ∈ l, qaed k x = true) (he : qab7 e) : SCalls Try.prog 10 [.ptr 0 0, .agg (qaae e)] [(0, .abs (qacx (some (k, m)) l))] 1 (.int .i64 (addV k m l e)) [(0, .abs (qacx (some (k, m)) (addR k m l e)))] := by
 have k1 := fun q => qap0 k m l e he q
 have k2 := fun q => tat_o k m l e (by omega) hs he q
 have k5 := fun q => qa2j e he q
 have k3 : qaed k e = true → ∀ id q, 2 ≤ id → _ := fun hf id q h2 => conf_o 33 e l (fun x => x.prio == e.prio && qaib x e) (some (k, m)) id h2 (by omega) (fun x hx q => by
  have h1 := qaez (hk x hx)
  have h3 := qaez hf
  exact ad1_s x e (hs x hx) he (by omega) (by omega) (by omega) q) q
 have k6 : ∀ q, 0 < q → SCalls Try.prog 35 [.ifc 73 (.ptr 0 2), .ifc 29 (.agg (qaae (towE e)))] [(0, .abs (qacx (some (k, m)) l))] q (.tup []) [(0, .abs (qacx (some (k, m)) (qaqw l (towE e))))] := fun q hq => qagx (hpush_s (some (k, m)) l (towE e) hl hs ⟨he.1, he.2.1, he.2.2⟩) (fun σ h => by simp [Go.Proofs.Ytefkifebgeagiaa.ren, ren1, ren0, h, renA, renB, qaae, nums]) (fun σ h => rfl) rfl q hq
 have hv : addV k m l e = if qaed k e = false then 6 else if 0 ≤ tatV l e then 7 else if 0 ≤ qai5 l e then 8 else if m ≤ l.length then 10 else 0 := rfl
 have hr : addR k m l e = if addV k m l e = 0 then qaqw l (towE e) else l := rfl
 change qaed k e = true → ∀ id q, 2 ≤ id → SCalls _ _ _ _ q (.bool (decide (0 ≤ qai5 l e))) _ at k3
 generalize addV k m l e = v at hv hr
 generalize addR k m l e = r at hr
 generalize qaed k e = a at k1 hv k3
 generalize tatV l e = b at k2 hv
 generalize qai5 l e = d at k3 hv
 refine qaa0 (N := 41) Try.func10 rfl rfl (by kernel_rfl) qanz (by simp) (by repeat' (first | exact trivial | refine And.intro ?_ ?_ | rfl | decide | exact PureR.ren _)) (by repeat' (first | exact trivial | refine And.intro ?_ ?_ | rfl | decide | exact PureR.ren _)) ?_
 rintro X hP hN hm
 refine qadr (by omega) (by decide) (qaex _ l) fun hh h => ?_
 subst h
 unfold c_tadd
 unfold hobj at k1 k2 k3
 generalize qaae (towE e) = z at k5 k6
 unfold qaae at k1 k2 k3 k5
 rw [show qaae e = [nums .u64 e.keys, nums .u64 e.masks, .int .i64 e.len, .int .i64 e.prio, .int .i64 e.act, nums .u64 e.args] from rfl]
 unfold hobj
 cases a
 ·obtain rfl : v = 6 := by rw [hv, if_pos rfl]
  obtain rfl : r = l := by rw [hr, if_neg (by decide)]
  clear k2 k3 hv hr k6
  repeat' (first | (with_reducible first | refine zA ?_ | refine qaa9 ?_) | ((with_reducible refine qaaj ?_); (try rw [hP]); simp -implicitDefEqProofs [*]) | ((with_reducible refine qaa7 ?_); (try simp only [qaau, qaab, qaaf])) | ((with_reducible refine qaat rfl (fun h => ?_) (fun h => ?_)) <;> have h' := h <;> (try simp at h') <;> (try subst h')) | (refine qab9 (k1 _) ⟨rfl, rfl, trivial⟩ ⟨rfl, rfl, trivial⟩ ?_; simp -implicitDefEqProofs [*]) | ((with_reducible refine qabh [] hm ?_ ?_ ?_ ?_) <;> (try simp only [zT, puth, Nat.reduceEqDiff, reduceIte, Nat.reduceAdd])) | (with_reducible first | refine za ?_ ?_ | refine zb ?_ ?_ ?_ ?_ | refine zc ?_ ?_ ?_ ?_) | (with_reducible first | exact qaba | exact qabf) | ((with_reducible first | refine zga ?_ | refine zgb ?_); rfl) | ((with_reducible refine zgc ?_); (first | (with_reducible rfl) | rfl | (simp; done))) | ((with_reducible refine zgd ?_); (first | omega | (simp; done))) | (exact Co.refl _) | (exact CoL.refl _) | ((refine qaee hm ?_; simp only [hobj])) | fail)
 ·replace k3 := k3 rfl
  rw [if_neg (by decide)] at hv
  by_cases hb : 0 ≤ b
  ·obtain rfl : v = 7 := by rw [hv, if_pos hb]
   obtain rfl : r = l := by rw [hr, if_neg (by decide)]
   clear k3 hv hr k6
   repeat' (first | (with_reducible first | refine zA ?_ | refine qaa9 ?_) | ((with_reducible refine qaaj ?_); (try rw [hP]); simp -implicitDefEqProofs [*]) | ((with_reducible refine qaa7 ?_); (try simp only [qaau, qaab, qaaf])) | ((with_reducible refine qaat rfl (fun h => ?_) (fun h => ?_)) <;> have h' := h <;> (try simp at h') <;> (try subst h')) | ((first | refine qab9 (k1 _) ⟨rfl, rfl, trivial⟩ ⟨rfl, rfl, trivial⟩ ?_ | refine qab9 (k2 _) ⟨rfl, rfl, trivial⟩ ⟨rfl, rfl, trivial⟩ ?_); simp -implicitDefEqProofs [*]) | ((with_reducible refine qabh [] hm ?_ ?_ ?_ ?_) <;> (try simp only [zT, puth, Nat.reduceEqDiff, reduceIte, Nat.reduceAdd])) | (with_reducible first | refine za ?_ ?_ | refine zb ?_ ?_ ?_ ?_ | refine zc ?_ ?_ ?_ ?_) | (with_reducible first | exact qaba | exact qabf) | ((with_reducible first | refine zga ?_ | refine zgb ?_); rfl) | ((with_reducible refine zgc ?_); (first | (with_reducible rfl) | rfl | (simp; done))) | ((with_reducible refine zgd ?_); (first | omega | (simp; done))) | (exact Co.refl _) | (exact CoL.refl _) | ((refine qaee hm ?_; simp only [hobj])) | fail)
  ·rw [if_neg hb] at hv
   by_cases hd : 0 ≤ d
   ·obtain rfl : v = 8 := by rw [hv, if_pos hd]
    obtain rfl : r = l := by rw [hr, if_neg (by decide)]
    clear hv hr k6
    rw [decide_eq_true hd] at k3
    repeat' (first | (with_reducible first | refine zA ?_ | refine qaa9 ?_) | ((with_reducible refine qaaj ?_); (try rw [hP]); simp -implicitDefEqProofs [hb, *]) | ((with_reducible refine qaa7 ?_); (try simp only [qaau, qaab, qaaf])) | ((with_reducible refine qaat rfl (fun h => ?_) (fun h => ?_)) <;> have h' := h <;> (try simp at h') <;> (try subst h')) | ((first | refine qab9 (k1 _) ⟨rfl, rfl, trivial⟩ ⟨rfl, rfl, trivial⟩ ?_ | refine qab9 (k2 _) ⟨rfl, rfl, trivial⟩ ⟨rfl, rfl, trivial⟩ ?_ | refine qab9 (k3 _ _ (by simp)) ⟨rfl, rfl, rfl, trivial⟩ ⟨rfl, rfl, rfl, trivial⟩ ?_); simp -implicitDefEqProofs [hb, *]) | ((with_reducible refine qabh [] hm ?_ ?_ ?_ ?_) <;> (try simp only [zT, puth, Nat.reduceEqDiff, reduceIte, Nat.reduceAdd])) | (with_reducible first | refine za ?_ ?_ | refine zb ?_ ?_ ?_ ?_ | refine zc ?_ ?_ ?_ ?_) | (with_reducible first | exact qaba | exact qabf) | ((with_reducible first | refine zga ?_ | refine zgb ?_); rfl) | ((with_reducible refine zgc ?_); (first | (with_reducible rfl) | rfl | (simp; done))) | ((with_reducible refine zgd ?_); (first | omega | (simp; done))) | (exact Co.refl _) | (exact CoL.refl _) | ((refine qaee hm ?_; simp only [hobj])) | fail)
    all_goals trace_state
   ·rw [if_neg hd] at hv
    rw [decide_eq_false hd] at k3
    by_cases hml : m ≤ l.length
    ·obtain rfl : v = 10 := by rw [hv, if_pos hml]
     obtain rfl : r = l := by rw [hr, if_neg (by decide)]
     clear hv hr k6
     have c0 : hcs (some (k, m)) r.length = [.int .i64 k, .int .i64 m, .own 1 r.length] := rfl
     repeat' (first | (with_reducible first | refine zA ?_ | refine qaa9 ?_ | refine zK ?_) | ((with_reducible first | refine qaaj ?_ | refine qabl (by rw [hP]; exact qadh) ?_); (try rw [hP]); simp -implicitDefEqProofs [hb, hml, hcs, *]) | ((with_reducible refine qaa7 ?_); (try simp only [qaau, qaab, qaaf])) | ((with_reducible refine qaat rfl (fun h => ?_) (fun h => ?_)) <;> have h' := h <;> (try simp at h') <;> (try subst h')) | ((first | refine qab9 (k1 _) ⟨rfl, rfl, trivial⟩ ⟨rfl, rfl, trivial⟩ ?_ | refine qab9 (k2 _) ⟨rfl, rfl, trivial⟩ ⟨rfl, rfl, trivial⟩ ?_ | refine qab9 (k3 _ _ (by simp)) ⟨rfl, rfl, rfl, trivial⟩ ⟨rfl, rfl, rfl, trivial⟩ ?_); simp -implicitDefEqProofs [hb, hml, hcs, *]) | ((with_reducible refine qabh [] hm ?_ ?_ ?_ ?_) <;> (try simp only [zT, puth, Nat.reduceEqDiff, reduceIte, Nat.reduceAdd])) | (with_reducible first | refine za ?_ ?_ | refine zb ?_ ?_ ?_ ?_ | refine zc ?_ ?_ ?_ ?_) | (with_reducible first | exact qaba | exact qabf) | ((with_reducible first | refine zga ?_ | refine zgb ?_); rfl) | ((with_reducible refine zgc ?_); (first | (with_reducible rfl) | rfl | (simp; done))) | ((with_reducible refine zgd ?_); (first | omega | (simp; done))) | (exact Co.refl _) | (exact CoL.refl _) | ((refine qaee hm ?_; simp only [hobj])) | fail)
     all_goals trace_state
    ·obtain rfl : v = 0 := by rw [hv, if_neg hml]
     rw [if_pos rfl] at hr
     rw [← hr] at k6
     clear hv hr
     replace k6 := Lib.hid k6
     repeat' (first | ((with_reducible refine qac8 (c := .seq (.reg true qaja []) _) ?_)) | (with_reducible first | refine zA ?_ | refine qaa9 ?_ | refine zK ?_) | ((with_reducible first | refine qaaj ?_ | refine qabl (by rw [hP]; exact qadh) ?_); (try rw [hP]); simp -implicitDefEqProofs [hb, hml, hcs, *]) | ((with_reducible refine qaa1 ?_); (try simp -implicitDefEqProofs [hb, hml, hcs, *])) | ((with_reducible refine qaat rfl (fun h => ?_) (fun h => ?_)) <;> have h' := h <;> (try simp at h') <;> (try subst h')) | ((first | refine qab9 (k1 _) ⟨rfl, rfl, trivial⟩ ⟨rfl, rfl, trivial⟩ ?_ | refine qab9 (k2 _) ⟨rfl, rfl, trivial⟩ ⟨rfl, rfl, trivial⟩ ?_ | refine qab9 (k3 _ _ (by simp)) ⟨rfl, rfl, rfl, trivial⟩ ⟨rfl, rfl, rfl, trivial⟩ ?_); simp -implicitDefEqProofs [hb, hml, hcs, *]) | fail)
     constructor
     refine qaef (qawl (c := some (k, m)) (l := l) ⟨rfl, rfl, trivial⟩ rfl) ?_
     repeat' (first | (with_reducible first | refine zA ?_ | refine zK ?_) | ((with_reducible first | refine qaaj ?_ | refine qabl (by rw [hP]; exact qadh) ?_); (try rw [hP]); simp -implicitDefEqProofs [*]) | ((with_reducible refine qaa7 ?_); (try simp only [qaau, qaab, qaaf])) | ((first | refine qab2 (k5 _) ?_ | refine qado (k6.out _ (by simp)) ⟨rfl, trivial⟩ ⟨rfl, trivial⟩ [] (by simp) ?_); simp -implicitDefEqProofs [*]) | (exact fin_ai hm rfl rfl) | fail)
     all_goals trace_state
end Go.Proofs.Ytefkifebgeagiaa
namespace Go.Proofs.Ytefkifebgeagiaa
set_option linter.all false
open Go.RowKit
theorem u64_bv {x : Int} (h : 0 ≤ x ∧ x ≤ 18446744073709551615) : ∃ v : BitVec 64, x = (v.toNat : Int) := ⟨BitVec.ofNat 64 x.toNat, by rw [BitVec.toNat_ofNat, Nat.mod_eq_of_lt (by omega)]; omega⟩
theorem qahk (v : BitVec 64) : BitVec.ofInt 64 (v.toNat : Int) = v := by
 rw [BitVec.ofInt_natCast]; simp
theorem qawb (v : BitVec 64) : IntKind.u64.wrap (v.toNat : Int) = v.toNat := qapz (by omega) (by have := v.isLt; omega)
theorem qawc {v w : BitVec 64} : (v.toNat : Int) = w.toNat ↔ v = w := ⟨fun h => BitVec.eq_of_toNat_eq (by omega), fun h => by rw [h]⟩
end Go.Proofs.Ytefkifebgeagiaa
namespace Go.Proofs.Ytefkifebgeagiaa
set_option linter.all false
open Go.RowKit
theorem qac7 (x y : Int) : bits .and .u64 x y = ((BitVec.ofInt 64 x &&& BitVec.ofInt 64 y).toNat : Int) := qawb _
theorem qa1g (x y : Int) : bits .xor .u64 x y = ((BitVec.ofInt 64 x ^^^ BitVec.ofInt 64 y).toNat : Int) := qawb _
theorem qalu (x y : Int) : bits .andNot .u64 x y = ((BitVec.ofInt 64 x &&& ~~~BitVec.ofInt 64 y).toNat : Int) := qawb _
def qal8 (a b m n : Int) : Int := bits .and .u64 (bits .and .u64 (bits .xor .u64 a b) m) n
theorem qagb (a b m n : Int) : qal8 a b m n = (((BitVec.ofInt 64 a ^^^ BitVec.ofInt 64 b) &&& BitVec.ofInt 64 m &&& BitVec.ofInt 64 n).toNat : Int) := by
 unfold qal8
 rw [qa1g, qac7, qac7, qahk, qahk]
theorem qarc (a b m n : Int) : qal8 a b m n = qal8 b a n m := by
 rw [qagb, qagb, BitVec.xor_comm, BitVec.and_assoc, BitVec.and_comm (BitVec.ofInt 64 m), ← BitVec.and_assoc]
theorem qaga (a m n : Int) : qal8 a a m n = 0 := by
 rw [qagb, BitVec.xor_self, BitVec.zero_and, BitVec.zero_and]; rfl
theorem qaw4 {x a b m n : Int} (h1 : bits .and .u64 x m = a) (h2 : bits .and .u64 x n = b) : qal8 a b m n = 0 := by
 subst h1 h2
 rw [qagb, qac7, qac7, qahk, qahk, show (0 : Int) = ((0#64).toNat : Int) by rfl, qawc]
 ext i hi
 simp
 cases (BitVec.ofInt 64 x)[i] <;> cases (BitVec.ofInt 64 m)[i] <;> cases (BitVec.ofInt 64 n)[i] <;> decide
theorem qaim : ∀ xa xb xm xn : List Int, qal7 xa xb xm xn = qal7 xb xa xn xm
 | [], xb, xm, xn => by cases xb <;> cases xm <;> cases xn <;> rfl
 | _ :: _, [], xm, xn => by cases xm <;> cases xn <;> rfl
 | _ :: _, _ :: _, [], xn => by cases xn <;> rfl
 | _ :: _, _ :: _, _ :: _, [] => rfl
 | a :: xa, b :: xb, m :: xm, n :: xn => by
  have h := qarc a b m n
  unfold qal8 at h
  rw [qal7, qal7, h, qaim xa xb xm xn]
theorem qaev : ∀ xa xb xm xn : List Int, (∀ i, i < xa.length → qal8 (el xa i) (el xb i) (el xm i) (el xn i) = 0) → qal7 xa xb xm xn = true
 | [], xb, xm, xn, _ => by cases xb <;> cases xm <;> cases xn <;> rfl
 | _ :: _, [], xm, xn, _ => by cases xm <;> cases xn <;> rfl
 | _ :: _, _ :: _, [], xn, _ => by cases xn <;> rfl
 | _ :: _, _ :: _, _ :: _, [], _ => rfl
 | a :: xa, b :: xb, m :: xm, n :: xn, h => by
  have h0 := h 0 (by simp)
  simp only [qak5] at h0
  unfold qal8 at h0
  rw [qal7, if_neg (by rw [h0]; simp)]
  exact qaev xa xb xm xn fun i hi => by
   have := h (i + 1) (by simp; omega)
   simpa only [qak6] using this
theorem qarb (a b : Entry) : qaib a b = qaib b a := qaim _ _ _ _
def qa4p (l : List Entry) : Prop := l.Pairwise fun a b => ¬ (a.prio = b.prio ∧ qaib a b = true)
structure TInv (k : Int) (l : List Entry) : Prop where
 heap : Heap l
 small : ∀ x ∈ l, qab7 x
 fit : ∀ x ∈ l, qaed k x = true
 len0 : ∀ x ∈ l, x.len = 0
 no : qa4p l
theorem qadz {l l' : List Entry} (h : l.Perm l') (hl : qa4p l) : qa4p l' :=
 (h.pairwise_iff fun {a b} hab hba => hab ⟨hba.1.symm, by rw [qarb]; exact hba.2⟩).1 hl
theorem qake (k : Int) : TInv k [] := ⟨qa3d, fun x hx => (by cases hx), fun x hx => (by cases hx), fun x hx => (by cases hx), List.Pairwise.nil⟩
theorem qa2k (e : Entry) (h : e.len = 0) : towE e = e := by
 cases e; simp only at h; subst h; rfl
theorem qa3c {l : List Entry} {p : Entry → Bool} (h : ¬ 0 ≤ idxV l p) : ∀ x ∈ l, p x = false := by
 unfold idxV at h
 split at h
 ·omega
 ·rename_i h1; exact fun x hx => by have := List.findIdx?_eq_none_iff.1 h1 x hx; simpa using this
theorem qap7 {l : List Entry} {e : Entry} {i : Nat} (h : tatV l e = i) : ∃ hi : i < l.length, ordE l[i] e = 0 := by
 unfold tatV idxV at h
 split at h
 ·rename_i j hj
  obtain ⟨h1, h2, _⟩ := List.findIdx?_eq_some_iff_getElem.1 hj
  obtain rfl : j = i := by omega
  exact ⟨h1, by simpa using h2⟩
 ·omega
theorem qa1m {k m : Int} {l : List Entry} {e : Entry} (h : addV k m l e = 0) : qaed k e = true ∧ ¬ 0 ≤ tatV l e ∧ ¬ 0 ≤ qai5 l e ∧ ¬ m ≤ l.length := by
 unfold addV at h
 split at h
 ·cases h
 ·split at h
  ·cases h
  ·split at h
   ·cases h
   ·split at h
    ·cases h
    ·exact ⟨by simp_all, by assumption, by assumption, by assumption⟩
theorem qalw {k m : Int} {l : List Entry} {e : Entry} (h : TInv k l) (he : qab7 e) : TInv k (addR k m l e) := by
 unfold addR
 by_cases h0 : addV k m l e = 0
 ·rw [if_pos h0]
  obtain ⟨q1, -, q3, -⟩ := qa1m h0
  have hm : ∀ x, x ∈ qaqw l (towE e) → x ∈ l ∨ x = towE e := fun x hx => by
   have := (qadt l (towE e)).mem_iff.1 hx
   simpa using this
  refine ⟨qawt h.heap _, fun x hx => ?_, fun x hx => ?_, fun x hx => ?_, qadz (qadt l (towE e)).symm ?_⟩
  ·rcases hm x hx with h1 | rfl
   ·exact h.small x h1
   ·exact ⟨he.1, he.2.1, he.2.2⟩
  ·rcases hm x hx with h1 | rfl
   ·exact h.fit x h1
   ·exact q1
  ·rcases hm x hx with h1 | rfl
   ·exact h.len0 x h1
   ·rfl
  ·refine List.pairwise_append.2 ⟨h.no, List.pairwise_singleton _ _, fun a ha b hb => ?_⟩
   rw [List.mem_singleton.1 hb]
   rintro ⟨h1, h2⟩
   have := qa3c q3 a ha
   have h1' : a.prio = e.prio := h1
   have e1 : (a.prio == e.prio) = true := by simpa using h1'
   rw [e1, Bool.true_and] at this
   rw [show qaib a e = true from h2] at this; cases this
 ·rw [if_neg h0]; exact h
theorem sub_inv {k : Int} {l L : List Entry} (h : TInv k l) (hh : Heap L.dropLast) (hp : L.Perm l) : TInv k L.dropLast := by
 have hm : ∀ x, x ∈ L.dropLast → x ∈ l := fun x hx => hp.mem_iff.1 ((List.dropLast_sublist _).mem hx)
 exact ⟨hh, fun x hx => h.small x (hm x hx), fun x hx => h.fit x (hm x hx), fun x hx => h.len0 x (hm x hx), (qadz hp.symm h.no).sublist (List.dropLast_sublist _)⟩
theorem qaxg {k : Int} {l : List Entry} {e : Entry} (h : TInv k l) : TInv k (qapv k l e) := by
 unfold qapv
 split
 ·exact h
 ·split
  ·exact h
  ·rename_i h1
   obtain ⟨i, h2, h3⟩ := qagv l e h1
   rw [h2, Int.toNat_natCast]
   exact sub_inv h (qaqr h.heap i h3).1 (qadl l i)
theorem qa3p {k : Int} {l : List Entry} {e : Entry} (h : TInv k l) (he : qab7 e) : TInv k (chgR k l e) := by
 unfold chgR
 split
 ·exact h
 ·rename_i hf
  split
  ·exact h
  ·rename_i h1
   obtain ⟨i, h2, h3⟩ := qagv l e h1
   rw [h2, Int.toNat_natCast]
   obtain ⟨hi, ho⟩ := qap7 h2
   have hm : ∀ x, x ∈ l.set i (towE e) → x ∈ l ∨ x = towE e := fun x hx => List.mem_or_eq_of_mem_set hx
   obtain ⟨z1, z2, z3⟩ := (qacu _ _).1 ho
   refine ⟨qa2o h.heap i _ hi (by rw [qawd hi]; exact ho), fun x hx => ?_, fun x hx => ?_, fun x hx => ?_, ?_⟩
   ·rcases hm x hx with h1 | rfl
    ·exact h.small x h1
    ·exact ⟨he.1, he.2.1, he.2.2⟩
   ·rcases hm x hx with h1 | rfl
    ·exact h.fit x h1
    ·have hff : qaed k e = true := by simpa using hf
     exact hff
   ·rcases hm x hx with h1 | rfl
    ·exact h.len0 x h1
    ·rfl
   ·have q : ∀ j (hj : j < (l.set i (towE e)).length) (hj' : j < l.length), (l.set i (towE e))[j].prio = l[j].prio ∧ (l.set i (towE e))[j].keys = l[j].keys ∧ (l.set i (towE e))[j].masks = l[j].masks := fun j hj hj' => by
     rw [List.getElem_set]
     split
     ·rename_i e1; subst e1; exact ⟨z1.symm, z2.symm, z3.symm⟩
     ·exact ⟨rfl, rfl, rfl⟩
    refine List.pairwise_iff_getElem.2 fun a b ha hb hab => ?_
    have ha' : a < l.length := by simpa using ha
    have hb' : b < l.length := by simpa using hb
    obtain ⟨a1, a2, a3⟩ := q a ha ha'
    obtain ⟨b1, b2, b3⟩ := q b hb hb'
    have := List.pairwise_iff_getElem.1 h.no a b ha' hb' hab
    unfold qaib at this ⊢
    rw [a1, a2, a3, b1, b2, b3]; exact this
theorem qaxf {k : Int} {l : List Entry} {e : Entry} : (qapv k l e).length ≤ l.length := by
 unfold qapv; split
 ·omega
 ·split
  ·omega
  ·rw [List.length_dropLast, (qadl _ _).length_eq]; omega
def fitK (xs : List Int) (e : Entry) : Bool := (List.range xs.length).all fun i => bits .and .u64 (el xs i) (el e.masks i) == el e.keys i
theorem qaxa {xs : List Int} {a b : Entry} (ha : fitK xs a = true) (hb : fitK xs b = true) (hl : a.keys.length ≤ xs.length) : qaib a b = true :=
 qaev _ _ _ _ fun i hi => qaw4 (by have := List.all_eq_true.1 ha i (List.mem_range.2 (by omega)); simpa using this) (by have := List.all_eq_true.1 hb i (List.mem_range.2 (by omega)); simpa using this)
theorem qa3a {a b : Entry} (h : leE a b) : a.prio ≤ b.prio := by
 rw [qama] at h
 rcases h with h | h <;> omega
theorem qaff {k : Int} {l : List Entry} (h : TInv k l) : (qae1 l).Perm l := by
 have h1 := qap8 l
 have h2 : l.map towE = l := by
  have : l.map towE = l.map id := List.map_congr_left fun x hx => qa2k x (h.len0 x hx)
  rw [this, List.map_id]
 rw [h2] at h1; exact h1
theorem all_lt {k : Int} {l : List Entry} (h : TInv k l) {xs : List Int} (hx : (xs.length : Int) = k) {f i : Nat} (hfi : f < i) (hi : i < (qae1 l).length) (ha : fitK xs ((qae1 l)[f]'(by omega)) = true) (hb : fitK xs (qae1 l)[i] = true) : ((qae1 l)[f]'(by omega)).prio < (qae1 l)[i].prio := by
 have hp := qaff h
 have h1 := qa3a (List.pairwise_iff_getElem.1 (qaf3 h.heap) f i (by omega) hi hfi)
 have h2 := List.pairwise_iff_getElem.1 (qadz hp.symm h.no) f i (by omega) hi hfi
 have h3 := (qaez (h.fit _ (hp.mem_iff.1 (List.getElem_mem (show f < (qae1 l).length by omega))))).1
 have h4 := qaxa ha hb (by omega)
 have : ((qae1 l)[f]'(by omega)).prio ≠ (qae1 l)[i].prio := fun e => h2 ⟨e, h4⟩
 omega
end Go.Proofs.Ytefkifebgeagiaa
namespace Go.Proofs.Ytefkifebgeagiaa
set_option linter.all false
open Go.RowKit
abbrev qaz4 : List SOper := [⟨(some 4), .mv (.c (.int .i64 0)), none, none, 0⟩]
abbrev qaz3 : List SOper := [⟨(some 5), .mv (.c (.int .i64 0)), none, none, 0⟩]
abbrev qaz2 : List SOper := [⟨(some 6), .mv (.t 5), none, none, 0⟩,
 ⟨(some 7), .mv (.t 0), none, none, 0⟩,
 ⟨(some 8), .len false (.t 7), none, none, 0⟩,
 ⟨(some 9), .bin .lss (.t 6) (.t 8), none, none, 0⟩,
 ⟨(some 10), .mv (.t 9), none, none, 0⟩,
 ⟨(some 11), .mv (.t 5), none, (some (10, true)), 0⟩,
 ⟨(some 12), .mv (.t 1), none, (some (10, true)), 0⟩,
 ⟨(some 13), .len false (.t 12), none, (some (10, true)), 0⟩,
 ⟨(some 14), .bin .lss (.t 11) (.t 13), none, (some (10, true)), 0⟩,
 ⟨(some 15), .pick (.t 10) (.t 14) (.c (.bool false)), none, none, 0⟩]
abbrev qaz1 : List SOper := [⟨(some 18), .mv (.t 0), none, none, 0⟩,
 ⟨(some 19), .mv (.t 5), none, none, 0⟩,
 ⟨(some 20), .iaddr 1 (.t 18) (.t 19), none, none, 3⟩,
 ⟨(some 21), .load (.t 20), none, none, 7⟩,
 ⟨(some 22), .mv (.t 1), none, none, 0⟩,
 ⟨(some 23), .mv (.t 5), none, none, 0⟩,
 ⟨(some 24), .iaddr 1 (.t 22) (.t 23), none, none, 48⟩,
 ⟨(some 25), .load (.t 24), none, none, 112⟩,
 ⟨(some 26), .bin .lss (.t 21) (.t 25), none, none, 255⟩]
abbrev qaz0 : List SOper := [⟨(some 4), .mv (.c (.int .i64 (-1))), none, none, 0⟩]
abbrev qazz : List SOper := [⟨(some 27), .mv (.t 0), none, none, 0⟩,
 ⟨(some 28), .mv (.t 5), none, none, 0⟩,
 ⟨(some 29), .iaddr 1 (.t 27) (.t 28), none, none, 3⟩,
 ⟨(some 30), .load (.t 29), none, none, 7⟩,
 ⟨(some 31), .mv (.t 1), none, none, 0⟩,
 ⟨(some 32), .mv (.t 5), none, none, 0⟩,
 ⟨(some 33), .iaddr 1 (.t 31) (.t 32), none, none, 48⟩,
 ⟨(some 34), .load (.t 33), none, none, 112⟩,
 ⟨(some 35), .bin .gtr (.t 30) (.t 34), none, none, 255⟩]
abbrev qazy : List SOper := [⟨(some 4), .mv (.c (.int .i64 1)), none, none, 0⟩]
abbrev qazx : List SOper := [⟨(some 16), .mv (.t 5), none, none, 0⟩,
 ⟨(some 17), .bin .add (.t 16) (.c (.int .i64 1)), none, none, 0⟩,
 ⟨(some 5), .mv (.t 17), none, none, 0⟩]
def qam8 : SCode := (.seq (.seq (.reg false qaz2 [0, 1, 5, 15]) (.cond (.t 15) .skip (.exit 0))) (.seq (.block 1 (.seq (.seq (.reg true qaz1 [0, 1, 5, 26]) (.cond (.t 26) (.seq (.reg false qaz0 [4]) .ret) .skip)) (.seq (.reg true qazz [0, 1, 5, 35]) (.cond (.t 35) (.seq (.reg false qazy [4]) .ret) .skip)))) (.reg false qazx [0, 1, 5])))
abbrev qazw : List SOper := [⟨(some 36), .mv (.t 0), none, none, 0⟩,
 ⟨(some 37), .len false (.t 36), none, none, 0⟩,
 ⟨(some 38), .mv (.t 1), none, none, 0⟩,
 ⟨(some 39), .len false (.t 38), none, none, 0⟩,
 ⟨(some 40), .bin .lss (.t 37) (.t 39), none, none, 0⟩]
abbrev qau4 : List SOper := [⟨(some 4), .mv (.c (.int .i64 (-1))), none, none, 0⟩]
abbrev qau3 : List SOper := [⟨(some 41), .mv (.t 0), none, none, 0⟩,
 ⟨(some 42), .len false (.t 41), none, none, 0⟩,
 ⟨(some 43), .mv (.t 1), none, none, 0⟩,
 ⟨(some 44), .len false (.t 43), none, none, 0⟩,
 ⟨(some 45), .bin .gtr (.t 42) (.t 44), none, none, 0⟩]
abbrev qau2 : List SOper := [⟨(some 4), .mv (.c (.int .i64 1)), none, none, 0⟩]
abbrev qau1 : List SOper := [⟨(some 4), .mv (.c (.int .i64 0)), none, none, 0⟩]
def c_less : SCode := (.seq (.reg false qaz4 [0, 1]) (.seq (.seq (.reg false qaz3 [0, 1, 5]) (.block 0 (.loop qam8))) (.seq (.seq (.reg false qazw [0, 1, 40]) (.cond (.t 40) (.seq (.reg false qau4 [4]) .ret) .skip)) (.seq (.seq (.reg false qau3 [45]) (.cond (.t 45) (.seq (.reg false qau2 [4]) .ret) .skip)) (.seq (.reg false qau1 [4]) .ret)))))
theorem qaoa : comp Try.prog 46 ((Try.f59.body).getD .skip) = some c_less.erase := by kernel_rfl
abbrev qa37 : List SOper := [⟨(some 3), .box 29 (.t 1), none, none, 0⟩,
 ⟨(some 4), .mv (.c (.int .i64 0)), none, none, 0⟩]
abbrev qa36 : List SOper := [⟨(some 7), .mv (.t 0), none, none, 0⟩,
 ⟨(some 8), .nilc (.t 7), none, none, 0⟩,
 ⟨(some 9), .faddr 0 (.t 8), none, none, 0⟩,
 ⟨(some 10), .load (.t 9), none, none, 0⟩]
abbrev qa35 : List SOper := [⟨(some 12), .bin .eql (.t 10) (.c (.int .i64 1)), none, none, 0⟩,
 ⟨(some 11), .mv (.t 12), none, none, 0⟩]
abbrev qa34 : List SOper := [⟨(some 13), .faddr 0 (.t 3), none, none, 0⟩,
 ⟨(some 14), .load (.t 13), none, none, 1⟩,
 ⟨(some 15), .len false (.t 14), none, none, 3⟩,
 ⟨(some 16), .mv (.t 0), none, none, 0⟩,
 ⟨(some 17), .nilc (.t 16), none, none, 8⟩,
 ⟨(some 18), .faddr 1 (.t 17), none, none, 24⟩,
 ⟨(some 19), .load (.t 18), none, none, 56⟩,
 ⟨(some 20), .bin .neq (.t 15) (.t 19), none, none, 127⟩]
abbrev qa33 : List SOper := [⟨(some 4), .mv (.c (.int .i64 2)), none, none, 0⟩]
abbrev qa32 : List SOper := [⟨(some 22), .bin .eql (.t 10) (.c (.int .i64 2)), none, none, 0⟩,
 ⟨(some 21), .mv (.t 22), none, none, 0⟩]
abbrev qa31 : List SOper := [⟨(some 23), .faddr 0 (.t 3), none, none, 0⟩,
 ⟨(some 24), .load (.t 23), none, none, 1⟩,
 ⟨(some 25), .len false (.t 24), none, none, 3⟩,
 ⟨(some 26), .bin .neq (.t 25) (.c (.int .i64 1)), none, none, 7⟩,
 ⟨(some 27), .mv (.t 26), none, none, 15⟩,
 ⟨(some 28), .mv (.t 0), none, (some (27, false)), 31⟩,
 ⟨(some 29), .nilc (.t 28), none, (some (27, false)), 63⟩,
 ⟨(some 30), .faddr 2 (.t 29), none, (some (27, false)), 127⟩,
 ⟨(some 31), .load (.t 30), none, (some (27, false)), 255⟩,
 ⟨(some 32), .bin .lss (.t 31) (.c (.int .i64 1)), none, (some (27, false)), 511⟩,
 ⟨(some 33), .pick (.t 27) (.c (.bool true)) (.t 32), none, none, 1023⟩,
 ⟨(some 34), .mv (.t 33), none, none, 2047⟩,
 ⟨(some 35), .mv (.t 0), none, (some (34, false)), 4095⟩,
 ⟨(some 36), .nilc (.t 35), none, (some (34, false)), 8191⟩,
 ⟨(some 37), .faddr 2 (.t 36), none, (some (34, false)), 16383⟩,
 ⟨(some 38), .load (.t 37), none, (some (34, false)), 32767⟩,
 ⟨(some 39), .bin .gtr (.t 38) (.c (.int .i64 64)), none, (some (34, false)), 65535⟩,
 ⟨(some 40), .pick (.t 34) (.c (.bool true)) (.t 39), none, none, 131071⟩,
 ⟨(some 41), .mv (.t 40), none, none, 262143⟩,
 ⟨(some 42), .faddr 2 (.t 3), none, (some (41, false)), 524287⟩,
 ⟨(some 43), .load (.t 42), none, (some (41, false)), 1048575⟩,
 ⟨(some 44), .bin .lss (.t 43) (.c (.int .i64 0)), none, (some (41, false)), 2097151⟩,
 ⟨(some 45), .pick (.t 41) (.c (.bool true)) (.t 44), none, none, 4194303⟩,
 ⟨(some 46), .mv (.t 45), none, none, 8388607⟩,
 ⟨(some 47), .faddr 2 (.t 3), none, (some (46, false)), 16777215⟩,
 ⟨(some 48), .load (.t 47), none, (some (46, false)), 33554431⟩,
 ⟨(some 49), .mv (.t 0), none, (some (46, false)), 16777215⟩,
 ⟨(some 50), .nilc (.t 49), none, (some (46, false)), 83886079⟩,
 ⟨(some 51), .faddr 2 (.t 50), none, (some (46, false)), 218103807⟩,
 ⟨(some 52), .load (.t 51), none, (some (46, false)), 486539263⟩,
 ⟨(some 53), .bin .gtr (.t 48) (.t 52), none, (some (46, false)), 1073741823⟩,
 ⟨(some 54), .pick (.t 46) (.c (.bool true)) (.t 53), none, none, 2147483647⟩,
 ⟨(some 55), .mv (.t 54), none, none, 4294967295⟩,
 ⟨(some 56), .faddr 0 (.t 3), none, (some (55, false)), 8589934591⟩,
 ⟨(some 57), .load (.t 56), none, (some (55, false)), 17179869183⟩,
 ⟨(some 58), .iaddr 1 (.t 57) (.c (.int .i64 0)), none, (some (55, false)), 34359738367⟩,
 ⟨(some 59), .load (.t 58), none, (some (55, false)), 68719476735⟩,
 ⟨(some 60), .mv (.t 0), none, (some (55, false)), 8589934591⟩,
 ⟨(some 61), .nilc (.t 60), none, (some (55, false)), 146028888063⟩,
 ⟨(some 62), .faddr 2 (.t 61), none, (some (55, false)), 420906795007⟩,
 ⟨(some 63), .load (.t 62), none, (some (55, false)), 970662608895⟩,
 ⟨(some 64), .mv (.c .any), some ((.c (.fn (.func 44) [] [])), [(.t 59), (.t 63)]), (some (55, false)), 2199023255551⟩,
 ⟨(some 65), .pick (.t 55) (.c (.bool true)) (.t 64), none, none, 4398046511103⟩]
abbrev qa30 : List SOper := [⟨(some 4), .mv (.c (.int .i64 6)), none, none, 0⟩]
abbrev qa3z : List SOper := [⟨(some 66), .mv (.t 0), none, none, 0⟩,
 ⟨(some 67), .nilc (.t 66), none, none, 1⟩,
 ⟨(some 68), .faddr 2 (.t 67), none, none, 3⟩,
 ⟨(some 69), .load (.t 68), none, none, 7⟩,
 ⟨(some 70), .faddr 2 (.t 3), none, none, 0⟩,
 ⟨(some 71), .load (.t 70), none, none, 16⟩,
 ⟨(some 72), .bin .sub (.t 69) (.t 71), none, none, 63⟩,
 ⟨(some 73), .mv (.c .any), some ((.c (.fn (.func 57) [] [])), [(.t 72)]), none, 127⟩,
 ⟨(some 5), .mv (.t 73), none, none, 255⟩]
abbrev qazv : List SOper := [⟨(some 74), .faddr 0 (.t 3), none, none, 0⟩,
 ⟨(some 75), .load (.t 74), none, none, 0⟩,
 ⟨(some 76), .iaddr 1 (.t 75) (.c (.int .i64 0)), none, none, 0⟩,
 ⟨(some 77), .load (.t 76), none, none, 0⟩,
 ⟨(some 78), .mv (.t 5), none, none, 0⟩,
 ⟨(some 79), .bin .and (.t 77) (.t 78), none, none, 0⟩,
 ⟨(some 80), .bin .neq (.t 79) (.c (.int .u64 0)), none, none, 0⟩]
abbrev qazu : List SOper := [⟨(some 4), .mv (.c (.int .i64 6)), none, none, 0⟩]
abbrev qazt : List SOper := [⟨(some 82), .bin .eql (.t 10) (.c (.int .i64 3)), none, none, 0⟩,
 ⟨(some 81), .mv (.t 82), none, none, 0⟩]
abbrev qazs : List SOper := [⟨(some 83), .faddr 0 (.t 3), none, none, 0⟩,
 ⟨(some 84), .load (.t 83), none, none, 1⟩,
 ⟨(some 85), .len false (.t 84), none, none, 3⟩,
 ⟨(some 86), .mv (.t 0), none, none, 0⟩,
 ⟨(some 87), .nilc (.t 86), none, none, 8⟩,
 ⟨(some 88), .faddr 1 (.t 87), none, none, 24⟩,
 ⟨(some 89), .load (.t 88), none, none, 56⟩,
 ⟨(some 90), .bin .neq (.t 85) (.t 89), none, none, 127⟩,
 ⟨(some 91), .mv (.t 90), none, none, 255⟩,
 ⟨(some 92), .faddr 1 (.t 3), none, (some (91, false)), 511⟩,
 ⟨(some 93), .load (.t 92), none, (some (91, false)), 1023⟩,
 ⟨(some 94), .len false (.t 93), none, (some (91, false)), 2047⟩,
 ⟨(some 95), .mv (.t 0), none, (some (91, false)), 511⟩,
 ⟨(some 96), .nilc (.t 95), none, (some (91, false)), 4607⟩,
 ⟨(some 97), .faddr 1 (.t 96), none, (some (91, false)), 12799⟩,
 ⟨(some 98), .load (.t 97), none, (some (91, false)), 29183⟩,
 ⟨(some 99), .bin .neq (.t 94) (.t 98), none, (some (91, false)), 65535⟩,
 ⟨(some 100), .pick (.t 91) (.c (.bool true)) (.t 99), none, none, 131071⟩,
 ⟨(some 101), .mv (.t 100), none, none, 262143⟩,
 ⟨(some 102), .faddr 3 (.t 3), none, (some (101, false)), 524287⟩,
 ⟨(some 103), .load (.t 102), none, (some (101, false)), 1048575⟩,
 ⟨(some 104), .bin .lss (.t 103) (.c (.int .i64 0)), none, (some (101, false)), 2097151⟩,
 ⟨(some 105), .pick (.t 101) (.c (.bool true)) (.t 104), none, none, 4194303⟩,
 ⟨(some 106), .mv (.t 105), none, none, 8388607⟩,
 ⟨(some 107), .faddr 3 (.t 3), none, (some (106, false)), 16777215⟩,
 ⟨(some 108), .load (.t 107), none, (some (106, false)), 33554431⟩,
 ⟨(some 109), .bin .gtr (.t 108) (.c (.int .i64 1000)), none, (some (106, false)), 67108863⟩,
 ⟨(some 110), .pick (.t 106) (.c (.bool true)) (.t 109), none, none, 134217727⟩]
abbrev qazr : List SOper := [⟨(some 4), .mv (.c (.int .i64 6)), none, none, 0⟩]
abbrev qazq : List SOper := [⟨(some 6), .mv (.c (.int .i64 0)), none, none, 0⟩]
abbrev qazp : List SOper := [⟨(some 111), .mv (.t 6), none, none, 0⟩,
 ⟨(some 112), .mv (.t 0), none, none, 0⟩,
 ⟨(some 113), .nilc (.t 112), none, none, 0⟩,
 ⟨(some 114), .faddr 1 (.t 113), none, none, 0⟩,
 ⟨(some 115), .load (.t 114), none, none, 0⟩,
 ⟨(some 116), .bin .lss (.t 111) (.t 115), none, none, 0⟩]
abbrev qazo : List SOper := [⟨(some 119), .faddr 0 (.t 3), none, none, 0⟩,
 ⟨(some 120), .load (.t 119), none, none, 1⟩,
 ⟨(some 121), .mv (.t 6), none, none, 0⟩,
 ⟨(some 122), .iaddr 1 (.t 120) (.t 121), none, none, 7⟩,
 ⟨(some 123), .load (.t 122), none, none, 15⟩,
 ⟨(some 124), .faddr 1 (.t 3), none, none, 0⟩,
 ⟨(some 125), .load (.t 124), none, none, 32⟩,
 ⟨(some 126), .mv (.t 6), none, none, 0⟩,
 ⟨(some 127), .iaddr 1 (.t 125) (.t 126), none, none, 224⟩,
 ⟨(some 128), .load (.t 127), none, none, 480⟩,
 ⟨(some 129), .bin .and (.t 123) (.t 128), none, none, 1023⟩,
 ⟨(some 130), .faddr 0 (.t 3), none, none, 0⟩,
 ⟨(some 131), .load (.t 130), none, none, 2048⟩,
 ⟨(some 132), .mv (.t 6), none, none, 0⟩,
 ⟨(some 133), .iaddr 1 (.t 131) (.t 132), none, none, 14336⟩,
 ⟨(some 134), .load (.t 133), none, none, 30720⟩,
 ⟨(some 135), .bin .neq (.t 129) (.t 134), none, none, 65535⟩]
abbrev qazn : List SOper := [⟨(some 4), .mv (.c (.int .i64 6)), none, none, 0⟩]
abbrev qazm : List SOper := [⟨(some 117), .mv (.t 6), none, none, 0⟩,
 ⟨(some 118), .bin .add (.t 117) (.c (.int .i64 1)), none, none, 0⟩,
 ⟨(some 6), .mv (.t 118), none, none, 0⟩]
def qau0 : SCode := (.seq (.seq (.reg false qazp [0, 3, 6, 116]) (.cond (.t 116) .skip (.exit 1))) (.seq (.block 2 (.seq (.reg true qazo [0, 3, 6, 135]) (.cond (.t 135) (.seq (.reg false qazn [4]) .ret) .skip))) (.reg false qazm [0, 3, 6])))
abbrev qazl : List SOper := [⟨(some 4), .mv (.c (.int .i64 0)), none, none, 0⟩]
def c_may : SCode := (.seq (.reg false qa37 [0, 3]) (.seq (.seq (.reg false qa36 [0, 3, 10]) (.block 0 (.seq (.reg false qa35 [0, 3, 10, 11]) (.cond (.t 11) (.seq (.reg true qa34 [20]) (.cond (.t 20) (.seq (.reg false qa33 [4]) .ret) .skip)) (.seq (.reg false qa32 [0, 3, 10, 21]) (.cond (.t 21) (.seq (.seq (.reg true qa31 [0, 3, 65]) (.cond (.t 65) (.seq (.reg false qa30 [4]) .ret) .skip)) (.seq (.reg true qa3z [3, 5]) (.seq (.reg false qazv [80]) (.cond (.t 80) (.seq (.reg false qazu [4]) .ret) .skip)))) (.seq (.reg false qazt [0, 3, 81]) (.cond (.t 81) (.seq (.seq (.reg true qazs [0, 3, 110]) (.cond (.t 110) (.seq (.reg false qazr [4]) .ret) .skip)) (.seq (.reg false qazq [0, 3, 6]) (.block 1 (.loop qau0)))) .skip)))))))) (.seq (.reg false qazl [4]) .ret)))
theorem qar4 : comp Try.prog 136 ((Try.f41.body).getD .skip) = some c_may.erase := by kernel_rfl
abbrev qayp : List SOper := [⟨(some 4), .box 29 (.t 1), none, none, 0⟩,
 ⟨(some 5), .box 29 (.t 2), none, none, 0⟩,
 ⟨(some 6), .mv (.c (.bool false)), none, none, 0⟩]
abbrev qayo : List SOper := [⟨(some 7), .mv (.t 0), none, none, 0⟩,
 ⟨(some 8), .nilc (.t 7), none, none, 0⟩,
 ⟨(some 9), .faddr 0 (.t 8), none, none, 0⟩,
 ⟨(some 10), .load (.t 9), none, none, 0⟩,
 ⟨(some 11), .bin .eql (.t 10) (.c (.int .i64 3)), none, none, 0⟩,
 ⟨(some 12), .mv (.t 11), none, none, 0⟩,
 ⟨(some 13), .faddr 3 (.t 4), none, (some (12, true)), 0⟩,
 ⟨(some 14), .load (.t 13), none, (some (12, true)), 0⟩,
 ⟨(some 15), .faddr 3 (.t 5), none, (some (12, true)), 0⟩,
 ⟨(some 16), .load (.t 15), none, (some (12, true)), 0⟩,
 ⟨(some 17), .bin .neq (.t 14) (.t 16), none, (some (12, true)), 0⟩,
 ⟨(some 18), .mv (.t 17), none, (some (12, true)), 0⟩,
 ⟨(some 19), .faddr 1 (.t 4), none, (some (18, false)), 0⟩,
 ⟨(some 20), .load (.t 19), none, (some (18, false)), 0⟩,
 ⟨(some 21), .faddr 1 (.t 5), none, (some (18, false)), 0⟩,
 ⟨(some 22), .load (.t 21), none, (some (18, false)), 0⟩,
 ⟨(some 23), .mv (.c .any), some ((.c (.fn (.func 39) [] [])), [(.t 20), (.t 22)]), (some (18, false)), 0⟩,
 ⟨(some 24), .un .not (.t 23), none, (some (18, false)), 0⟩,
 ⟨(some 25), .pick (.t 18) (.c (.bool true)) (.t 24), none, (some (12, true)), 0⟩,
 ⟨(some 26), .pick (.t 12) (.t 25) (.c (.bool false)), none, none, 0⟩,
 ⟨(some 27), .mv (.t 26), none, none, 0⟩,
 ⟨(some 28), .mv (.t 0), none, (some (27, false)), 0⟩,
 ⟨(some 29), .nilc (.t 28), none, (some (27, false)), 0⟩,
 ⟨(some 30), .faddr 0 (.t 29), none, (some (27, false)), 0⟩,
 ⟨(some 31), .load (.t 30), none, (some (27, false)), 0⟩,
 ⟨(some 32), .bin .eql (.t 31) (.c (.int .i64 2)), none, (some (27, false)), 0⟩,
 ⟨(some 33), .mv (.t 32), none, (some (27, false)), 0⟩,
 ⟨(some 34), .faddr 2 (.t 4), none, (some (33, true)), 0⟩,
 ⟨(some 35), .load (.t 34), none, (some (33, true)), 0⟩,
 ⟨(some 36), .faddr 2 (.t 5), none, (some (33, true)), 0⟩,
 ⟨(some 37), .load (.t 36), none, (some (33, true)), 0⟩,
 ⟨(some 38), .bin .neq (.t 35) (.t 37), none, (some (33, true)), 0⟩,
 ⟨(some 39), .pick (.t 33) (.t 38) (.c (.bool false)), none, (some (27, false)), 0⟩,
 ⟨(some 40), .pick (.t 27) (.c (.bool true)) (.t 39), none, none, 0⟩]
abbrev qayn : List SOper := [⟨(some 6), .mv (.c (.bool false)), none, none, 0⟩]
abbrev qaym : List SOper := [⟨(some 41), .faddr 0 (.t 4), none, none, 0⟩,
 ⟨(some 42), .load (.t 41), none, none, 0⟩,
 ⟨(some 43), .faddr 0 (.t 5), none, none, 0⟩,
 ⟨(some 44), .load (.t 43), none, none, 0⟩,
 ⟨(some 45), .mv (.c .any), some ((.c (.fn (.func 39) [] [])), [(.t 42), (.t 44)]), none, 0⟩,
 ⟨(some 6), .mv (.t 45), none, none, 0⟩]
def c_rone : SCode := (.seq (.reg false qayp [0, 4, 5]) (.seq (.seq (.reg false qayo [4, 5, 40]) (.cond (.t 40) (.seq (.reg false qayn [6]) .ret) .skip)) (.seq (.reg false qaym [6]) .ret)))
theorem qan2 : comp Try.prog 46 ((Try.f58.body).getD .skip) = some c_rone.erase := by kernel_rfl
abbrev qa3y : List SOper := [⟨(some 3), .box 29 (.t 1), none, none, 0⟩,
 ⟨(some 4), .mv (.c (.int .i64 0)), none, none, 0⟩]
abbrev qa3x : List SOper := [⟨(some 5), .mv (.c (.int .i64 0)), none, none, 0⟩]
abbrev qa3w : List SOper := [⟨(some 6), .mv (.t 5), none, none, 0⟩,
 ⟨(some 7), .mv (.t 0), none, none, 0⟩,
 ⟨(some 8), .nilc (.t 7), none, none, 0⟩,
 ⟨(some 9), .faddr 4 (.t 8), none, none, 0⟩,
 ⟨(some 10), .load (.t 9), none, none, 0⟩,
 ⟨(some 11), .len false (.t 10), none, none, 0⟩,
 ⟨(some 12), .bin .lss (.t 6) (.t 11), none, none, 0⟩]
abbrev qa3v : List SOper := [⟨(some 15), .mv (.t 0), none, none, 0⟩,
 ⟨(some 16), .mv (.t 0), none, none, 0⟩,
 ⟨(some 17), .nilc (.t 16), none, none, 2⟩,
 ⟨(some 18), .faddr 4 (.t 17), none, none, 6⟩,
 ⟨(some 19), .load (.t 18), none, none, 14⟩,
 ⟨(some 20), .mv (.t 5), none, none, 0⟩,
 ⟨(some 21), .iaddr 6 (.t 19) (.t 20), none, none, 62⟩,
 ⟨(some 22), .loads 6 (.t 21), none, none, 126⟩,
 ⟨(some 23), .loads 6 (.t 3), none, none, 0⟩,
 ⟨(some 24), .mv (.c .any), some ((.c (.fn (.func 58) [] [])), [(.t 15), (.t 22), (.t 23)]), none, 511⟩]
abbrev qa3u : List SOper := [⟨(some 25), .mv (.t 5), none, none, 0⟩,
 ⟨(some 4), .mv (.t 25), none, none, 0⟩]
abbrev qa3t : List SOper := [⟨(some 13), .mv (.t 5), none, none, 0⟩,
 ⟨(some 14), .bin .add (.t 13) (.c (.int .i64 1)), none, none, 0⟩,
 ⟨(some 5), .mv (.t 14), none, none, 0⟩]
def qaug : SCode := (.seq (.seq (.reg false qa3w [0, 3, 5, 12]) (.cond (.t 12) .skip (.exit 0))) (.seq (.block 1 (.seq (.reg true qa3v [0, 3, 5, 24]) (.cond (.t 24) (.seq (.reg false qa3u [4]) .ret) .skip))) (.reg false qa3t [0, 3, 5])))
abbrev qa3s : List SOper := [⟨(some 4), .mv (.c (.int .i64 (-1))), none, none, 0⟩]
def c_rat : SCode := (.seq (.reg false qa3y [0, 3]) (.seq (.seq (.reg false qa3x [0, 3, 5]) (.block 0 (.loop qaug))) (.seq (.reg false qa3s [4]) .ret)))
theorem qar2 : comp Try.prog 26 ((Try.f42.body).getD .skip) = some c_rat.erase := by kernel_rfl
abbrev qa0b : List SOper := [⟨(some 3), .box 29 (.t 1), none, none, 0⟩,
 ⟨(some 4), .alloc 29 [.nilsl, .nilsl, (.int .i64 0), (.int .i64 0), (.int .i64 0), .nilsl], none, none, 0⟩]
abbrev qa0a : List SOper := [⟨(some 5), .loads 6 (.t 3), none, none, 0⟩,
 ⟨(some 6), .mv (.c .any), some ((.c (.fn (.func 40) [] [])), [(.t 5)]), none, 0⟩,
 ⟨none, .store 6 (.t 3) (.t 6), none, none, 0⟩]
abbrev qaz9 : List SOper := [⟨(some 7), .mv (.t 0), none, none, 0⟩,
 ⟨(some 8), .nilc (.t 7), none, none, 0⟩,
 ⟨(some 9), .faddr 0 (.t 8), none, none, 0⟩,
 ⟨(some 10), .load (.t 9), none, none, 0⟩,
 ⟨(some 11), .bin .neq (.t 10) (.c (.int .i64 3)), none, none, 0⟩]
abbrev qaz8 : List SOper := [⟨(some 12), .faddr 1 (.t 3), none, none, 0⟩,
 ⟨none, .store 1 (.t 12) (.c .nilsl), none, none, 0⟩,
 ⟨(some 13), .faddr 3 (.t 3), none, none, 0⟩,
 ⟨none, .store 1 (.t 13) (.c (.int .i64 0)), none, none, 0⟩]
abbrev qaz7 : List SOper := [⟨(some 14), .mv (.t 0), none, none, 0⟩,
 ⟨(some 15), .nilc (.t 14), none, none, 0⟩,
 ⟨(some 16), .faddr 0 (.t 15), none, none, 0⟩,
 ⟨(some 17), .load (.t 16), none, none, 0⟩,
 ⟨(some 18), .bin .neq (.t 17) (.c (.int .i64 2)), none, none, 0⟩]
abbrev qaz6 : List SOper := [⟨(some 19), .faddr 2 (.t 3), none, none, 0⟩,
 ⟨none, .store 1 (.t 19) (.c (.int .i64 0)), none, none, 0⟩]
abbrev qaz5 : List SOper := [⟨(some 20), .loads 6 (.t 3), none, none, 0⟩,
 ⟨none, .store 6 (.t 4) (.t 20), none, none, 0⟩]
def c_kept : SCode := (.seq (.reg false qa0b [0, 3, 4]) (.seq (.reg false qa0a [0, 3, 4]) (.seq (.seq (.reg false qaz9 [0, 3, 4, 11]) (.cond (.t 11) (.reg false qaz8 [0, 3, 4]) .skip)) (.seq (.seq (.reg false qaz7 [3, 4, 18]) (.cond (.t 18) (.reg false qaz6 [3, 4]) .skip)) (.seq (.reg false qaz5 [4]) .ret)))))
theorem qaob : comp Try.prog 21 ((Try.f43.body).getD .skip) = some c_kept.erase := by kernel_rfl
abbrev qazg : List SOper := [⟨(some 3), .box 29 (.t 1), none, none, 0⟩,
 ⟨(some 4), .mv (.c (.int .i64 0)), none, none, 0⟩]
abbrev qazf : List SOper := [⟨(some 10), .mv (.t 0), none, none, 0⟩,
 ⟨(some 11), .loads 6 (.t 3), none, none, 0⟩,
 ⟨(some 12), .mv (.c .any), some ((.c (.fn (.func 41) [] [])), [(.t 10), (.t 11)]), none, 0⟩,
 ⟨(some 5), .mv (.t 12), none, none, 0⟩]
abbrev qaze : List SOper := [⟨(some 13), .mv (.t 5), none, none, 0⟩,
 ⟨(some 14), .bin .neq (.t 13) (.c (.int .i64 0)), none, none, 0⟩]
abbrev qazd : List SOper := [⟨(some 15), .mv (.t 5), none, none, 0⟩,
 ⟨(some 4), .mv (.t 15), none, none, 0⟩]
abbrev qazc : List SOper := [⟨(some 16), .mv (.t 0), none, none, 0⟩,
 ⟨(some 17), .loads 6 (.t 3), none, none, 0⟩,
 ⟨(some 18), .mv (.c .any), some ((.c (.fn (.func 42) [] [])), [(.t 16), (.t 17)]), none, 0⟩,
 ⟨(some 19), .bin .geq (.t 18) (.c (.int .i64 0)), none, none, 0⟩]
abbrev qazb : List SOper := [⟨(some 4), .mv (.c (.int .i64 7)), none, none, 0⟩]
abbrev qaza : List SOper := [⟨(some 6), .mv (.c (.int .i64 0)), none, none, 0⟩]
abbrev qay9 : List SOper := [⟨(some 20), .mv (.t 6), none, none, 0⟩,
 ⟨(some 21), .mv (.t 0), none, none, 0⟩,
 ⟨(some 22), .nilc (.t 21), none, none, 0⟩,
 ⟨(some 23), .faddr 4 (.t 22), none, none, 0⟩,
 ⟨(some 24), .load (.t 23), none, none, 0⟩,
 ⟨(some 25), .len false (.t 24), none, none, 0⟩,
 ⟨(some 26), .bin .lss (.t 20) (.t 25), none, none, 0⟩,
 ⟨(some 27), .mv (.t 26), none, none, 0⟩,
 ⟨(some 28), .mv (.t 0), none, (some (27, true)), 0⟩,
 ⟨(some 29), .nilc (.t 28), none, (some (27, true)), 0⟩,
 ⟨(some 30), .faddr 0 (.t 29), none, (some (27, true)), 0⟩,
 ⟨(some 31), .load (.t 30), none, (some (27, true)), 0⟩,
 ⟨(some 32), .bin .eql (.t 31) (.c (.int .i64 3)), none, (some (27, true)), 0⟩,
 ⟨(some 33), .pick (.t 27) (.t 32) (.c (.bool false)), none, none, 0⟩]
abbrev qay8 : List SOper := [⟨(some 36), .mv (.t 0), none, none, 0⟩,
 ⟨(some 37), .nilc (.t 36), none, none, 1⟩,
 ⟨(some 38), .faddr 4 (.t 37), none, none, 3⟩,
 ⟨(some 39), .load (.t 38), none, none, 7⟩,
 ⟨(some 40), .mv (.t 6), none, none, 0⟩,
 ⟨(some 41), .iaddr 6 (.t 39) (.t 40), none, none, 31⟩,
 ⟨(some 42), .faddr 3 (.t 41), none, none, 63⟩,
 ⟨(some 43), .load (.t 42), none, none, 127⟩,
 ⟨(some 44), .faddr 3 (.t 3), none, none, 0⟩,
 ⟨(some 45), .load (.t 44), none, none, 256⟩,
 ⟨(some 46), .bin .eql (.t 43) (.t 45), none, none, 1023⟩,
 ⟨(some 7), .mv (.t 46), none, none, 2047⟩]
abbrev qauw : List SOper := [⟨(some 8), .mv (.c (.int .i64 0)), none, none, 0⟩]
abbrev qauv : List SOper := [⟨(some 47), .mv (.t 8), none, none, 0⟩,
 ⟨(some 48), .mv (.t 0), none, none, 0⟩,
 ⟨(some 49), .nilc (.t 48), none, none, 0⟩,
 ⟨(some 50), .faddr 1 (.t 49), none, none, 0⟩,
 ⟨(some 51), .load (.t 50), none, none, 0⟩,
 ⟨(some 52), .bin .lss (.t 47) (.t 51), none, none, 0⟩]
abbrev qauu : List SOper := [⟨(some 55), .faddr 1 (.t 3), none, none, 0⟩,
 ⟨(some 56), .load (.t 55), none, none, 1⟩,
 ⟨(some 57), .mv (.t 8), none, none, 0⟩,
 ⟨(some 58), .iaddr 1 (.t 56) (.t 57), none, none, 7⟩,
 ⟨(some 59), .load (.t 58), none, none, 15⟩,
 ⟨(some 60), .mv (.t 0), none, none, 0⟩,
 ⟨(some 61), .nilc (.t 60), none, none, 32⟩,
 ⟨(some 62), .faddr 4 (.t 61), none, none, 96⟩,
 ⟨(some 63), .load (.t 62), none, none, 224⟩,
 ⟨(some 64), .mv (.t 6), none, none, 0⟩,
 ⟨(some 65), .iaddr 6 (.t 63) (.t 64), none, none, 992⟩,
 ⟨(some 66), .faddr 1 (.t 65), none, none, 2016⟩,
 ⟨(some 67), .load (.t 66), none, none, 4064⟩,
 ⟨(some 68), .mv (.t 8), none, none, 0⟩,
 ⟨(some 69), .iaddr 1 (.t 67) (.t 68), none, none, 16352⟩,
 ⟨(some 70), .load (.t 69), none, none, 32736⟩,
 ⟨(some 71), .bin .and (.t 59) (.t 70), none, none, 65535⟩,
 ⟨(some 9), .mv (.t 71), none, none, 131071⟩]
abbrev qaut : List SOper := [⟨(some 72), .faddr 0 (.t 3), none, none, 0⟩,
 ⟨(some 73), .load (.t 72), none, none, 1⟩,
 ⟨(some 74), .mv (.t 8), none, none, 0⟩,
 ⟨(some 75), .iaddr 1 (.t 73) (.t 74), none, none, 7⟩,
 ⟨(some 76), .load (.t 75), none, none, 15⟩,
 ⟨(some 77), .mv (.t 9), none, none, 0⟩,
 ⟨(some 78), .bin .and (.t 76) (.t 77), none, none, 63⟩,
 ⟨(some 79), .mv (.t 0), none, none, 0⟩,
 ⟨(some 80), .nilc (.t 79), none, none, 128⟩,
 ⟨(some 81), .faddr 4 (.t 80), none, none, 384⟩,
 ⟨(some 82), .load (.t 81), none, none, 896⟩,
 ⟨(some 83), .mv (.t 6), none, none, 0⟩,
 ⟨(some 84), .iaddr 6 (.t 82) (.t 83), none, none, 3968⟩,
 ⟨(some 85), .faddr 0 (.t 84), none, none, 8064⟩,
 ⟨(some 86), .load (.t 85), none, none, 16256⟩,
 ⟨(some 87), .mv (.t 8), none, none, 0⟩,
 ⟨(some 88), .iaddr 1 (.t 86) (.t 87), none, none, 65408⟩,
 ⟨(some 89), .load (.t 88), none, none, 130944⟩,
 ⟨(some 90), .mv (.t 9), none, none, 0⟩,
 ⟨(some 91), .bin .and (.t 89) (.t 90), none, none, 524160⟩,
 ⟨(some 92), .bin .neq (.t 78) (.t 91), none, none, 1048575⟩]
abbrev qaus : List SOper := [⟨(some 7), .mv (.c (.bool false)), none, none, 0⟩]
abbrev qaur : List SOper := [⟨(some 53), .mv (.t 8), none, none, 0⟩,
 ⟨(some 54), .bin .add (.t 53) (.c (.int .i64 1)), none, none, 0⟩,
 ⟨(some 8), .mv (.t 54), none, none, 0⟩]
def qamy : SCode := (.seq (.seq (.reg false qauv [0, 3, 6, 7, 8, 52]) (.cond (.t 52) .skip (.exit 2))) (.seq (.block 3 (.seq (.reg true qauu [0, 3, 6, 7, 8, 9]) (.seq (.reg true qaut [0, 3, 6, 7, 8, 92]) (.cond (.t 92) (.reg false qaus [0, 3, 6, 7, 8]) .skip)))) (.reg false qaur [0, 3, 6, 7, 8])))
abbrev qauq : List SOper := [⟨(some 93), .mv (.t 7), none, none, 0⟩]
abbrev qaup : List SOper := [⟨(some 4), .mv (.c (.int .i64 8)), none, none, 0⟩]
abbrev qauo : List SOper := [⟨(some 34), .mv (.t 6), none, none, 0⟩,
 ⟨(some 35), .bin .add (.t 34) (.c (.int .i64 1)), none, none, 0⟩,
 ⟨(some 6), .mv (.t 35), none, none, 0⟩]
def qamx : SCode := (.seq (.seq (.reg false qay9 [0, 3, 6, 33]) (.cond (.t 33) .skip (.exit 0))) (.seq (.block 1 (.seq (.reg true qay8 [0, 3, 6, 7]) (.seq (.seq (.reg false qauw [0, 3, 6, 7, 8]) (.block 2 (.loop qamy))) (.seq (.reg false qauq [0, 3, 6, 93]) (.cond (.t 93) (.seq (.reg false qaup [4]) .ret) .skip))))) (.reg false qauo [0, 3, 6])))
abbrev qaun : List SOper := [⟨(some 94), .mv (.t 0), none, none, 0⟩,
 ⟨(some 95), .nilc (.t 94), none, none, 1⟩,
 ⟨(some 96), .faddr 4 (.t 95), none, none, 3⟩,
 ⟨(some 97), .load (.t 96), none, none, 7⟩,
 ⟨(some 98), .len false (.t 97), none, none, 15⟩,
 ⟨(some 99), .mv (.t 0), none, none, 0⟩,
 ⟨(some 100), .nilc (.t 99), none, none, 32⟩,
 ⟨(some 101), .faddr 3 (.t 100), none, none, 96⟩,
 ⟨(some 102), .load (.t 101), none, none, 224⟩,
 ⟨(some 103), .bin .geq (.t 98) (.t 102), none, none, 511⟩]
abbrev qaum : List SOper := [⟨(some 4), .mv (.c (.int .i64 10)), none, none, 0⟩]
abbrev qaul : List SOper := [⟨(some 104), .mv (.t 0), none, none, 0⟩,
 ⟨(some 105), .mv (.t 0), none, none, 0⟩,
 ⟨(some 106), .nilc (.t 105), none, none, 2⟩,
 ⟨(some 107), .faddr 4 (.t 106), none, none, 6⟩,
 ⟨(some 108), .load (.t 107), none, none, 14⟩,
 ⟨(some 109), .mv (.t 0), none, none, 0⟩,
 ⟨(some 110), .loads 6 (.t 3), none, none, 0⟩,
 ⟨(some 111), .mv (.c .any), some ((.c (.fn (.func 43) [] [])), [(.t 109), (.t 110)]), none, 96⟩,
 ⟨(some 112), .mkrow 29 6 1 [.nilsl, .nilsl, (.int .i64 0), (.int .i64 0), (.int .i64 0), .nilsl] [(0, (.t 111))], none, none, 224⟩,
 ⟨(some 113), .app 29 6 96 (.t 108) (.t 112), none, none, 510⟩,
 ⟨(some 114), .nilc (.t 104), none, none, 1023⟩,
 ⟨(some 115), .faddr 4 (.t 114), none, none, 2047⟩,
 ⟨none, .store 1 (.t 115) (.t 113), none, none, 4095⟩]
abbrev qauk : List SOper := [⟨(some 4), .mv (.c (.int .i64 0)), none, none, 0⟩]
def c_radd : SCode := (.seq (.reg false qazg [0, 3]) (.seq (.seq (.reg false qazf [0, 3, 5]) (.seq (.reg false qaze [0, 3, 5, 14]) (.cond (.t 14) (.seq (.reg false qazd [4]) .ret) .skip))) (.seq (.seq (.reg false qazc [0, 3, 19]) (.cond (.t 19) (.seq (.reg false qazb [4]) .ret) .skip)) (.seq (.seq (.reg false qaza [0, 3, 6]) (.block 0 (.loop qamx))) (.seq (.seq (.reg true qaun [0, 3, 103]) (.cond (.t 103) (.seq (.reg false qaum [4]) .ret) .skip)) (.seq (.reg true qaul []) (.seq (.reg false qauk [4]) .ret)))))))
theorem qan5 : comp Try.prog 116 ((Try.f16.body).getD .skip) = some c_radd.erase := by kernel_rfl
abbrev qayy : List SOper := [⟨(some 3), .box 29 (.t 1), none, none, 0⟩,
 ⟨(some 4), .mv (.c (.int .i64 0)), none, none, 0⟩]
abbrev qayx : List SOper := [⟨(some 7), .mv (.t 0), none, none, 0⟩,
 ⟨(some 8), .loads 6 (.t 3), none, none, 0⟩,
 ⟨(some 9), .mv (.c .any), some ((.c (.fn (.func 41) [] [])), [(.t 7), (.t 8)]), none, 0⟩,
 ⟨(some 5), .mv (.t 9), none, none, 0⟩]
abbrev qayw : List SOper := [⟨(some 10), .mv (.t 5), none, none, 0⟩,
 ⟨(some 11), .bin .neq (.t 10) (.c (.int .i64 0)), none, none, 0⟩]
abbrev qayv : List SOper := [⟨(some 12), .mv (.t 5), none, none, 0⟩,
 ⟨(some 4), .mv (.t 12), none, none, 0⟩]
abbrev qayu : List SOper := [⟨(some 13), .mv (.t 0), none, none, 0⟩,
 ⟨(some 14), .loads 6 (.t 3), none, none, 0⟩,
 ⟨(some 15), .mv (.c .any), some ((.c (.fn (.func 42) [] [])), [(.t 13), (.t 14)]), none, 0⟩,
 ⟨(some 6), .mv (.t 15), none, none, 0⟩]
abbrev qayt : List SOper := [⟨(some 16), .mv (.t 6), none, none, 0⟩,
 ⟨(some 17), .bin .lss (.t 16) (.c (.int .i64 0)), none, none, 0⟩]
abbrev qays : List SOper := [⟨(some 4), .mv (.c (.int .i64 9)), none, none, 0⟩]
abbrev qayr : List SOper := [⟨(some 18), .mv (.t 0), none, none, 0⟩,
 ⟨(some 19), .nilc (.t 18), none, none, 1⟩,
 ⟨(some 20), .faddr 4 (.t 19), none, none, 3⟩,
 ⟨(some 21), .load (.t 20), none, none, 7⟩,
 ⟨(some 22), .mv (.t 6), none, none, 0⟩,
 ⟨(some 23), .mv (.t 0), none, none, 0⟩,
 ⟨(some 24), .loads 6 (.t 3), none, none, 0⟩,
 ⟨(some 25), .mv (.c .any), some ((.c (.fn (.func 43) [] [])), [(.t 23), (.t 24)]), none, 96⟩,
 ⟨(some 26), .iaddr 6 (.t 21) (.t 22), none, none, 255⟩,
 ⟨none, .store 6 (.t 26) (.t 25), none, none, 511⟩]
abbrev qayq : List SOper := [⟨(some 4), .mv (.c (.int .i64 0)), none, none, 0⟩]
def c_rchg : SCode := (.seq (.reg false qayy [0, 3]) (.seq (.seq (.reg false qayx [0, 3, 5]) (.seq (.reg false qayw [0, 3, 5, 11]) (.cond (.t 11) (.seq (.reg false qayv [4]) .ret) .skip))) (.seq (.reg false qayu [0, 3, 6]) (.seq (.seq (.reg false qayt [0, 3, 6, 17]) (.cond (.t 17) (.seq (.reg false qays [4]) .ret) .skip)) (.seq (.reg true qayr []) (.seq (.reg false qayq [4]) .ret))))))
theorem qan3 : comp Try.prog 27 ((Try.f18.body).getD .skip) = some c_rchg.erase := by kernel_rfl
abbrev qauf : List SOper := [⟨(some 3), .box 29 (.t 1), none, none, 0⟩,
 ⟨(some 4), .mv (.c (.int .i64 0)), none, none, 0⟩]
abbrev qaue : List SOper := [⟨(some 8), .mv (.t 0), none, none, 0⟩,
 ⟨(some 9), .loads 6 (.t 3), none, none, 0⟩,
 ⟨(some 10), .mv (.c .any), some ((.c (.fn (.func 41) [] [])), [(.t 8), (.t 9)]), none, 0⟩,
 ⟨(some 5), .mv (.t 10), none, none, 0⟩]
abbrev qaud : List SOper := [⟨(some 11), .mv (.t 5), none, none, 0⟩,
 ⟨(some 12), .bin .neq (.t 11) (.c (.int .i64 0)), none, none, 0⟩]
abbrev qauc : List SOper := [⟨(some 13), .mv (.t 5), none, none, 0⟩,
 ⟨(some 4), .mv (.t 13), none, none, 0⟩]
abbrev qaub : List SOper := [⟨(some 14), .mv (.t 0), none, none, 0⟩,
 ⟨(some 15), .loads 6 (.t 3), none, none, 0⟩,
 ⟨(some 16), .mv (.c .any), some ((.c (.fn (.func 42) [] [])), [(.t 14), (.t 15)]), none, 0⟩,
 ⟨(some 6), .mv (.t 16), none, none, 0⟩]
abbrev qaua : List SOper := [⟨(some 17), .mv (.t 6), none, none, 0⟩,
 ⟨(some 18), .bin .lss (.t 17) (.c (.int .i64 0)), none, none, 0⟩]
abbrev qat9 : List SOper := [⟨(some 4), .mv (.c (.int .i64 9)), none, none, 0⟩]
abbrev qat8 : List SOper := [⟨(some 7), .mv (.c .nilsl), none, none, 0⟩]
abbrev qajz : List SOper := [⟨(some 19), .mv (.t 0), none, none, 0⟩,
 ⟨(some 20), .mv (.t 7), none, none, 0⟩,
 ⟨(some 21), .mv (.t 0), none, none, 0⟩,
 ⟨(some 22), .nilc (.t 21), none, none, 4⟩,
 ⟨(some 23), .faddr 4 (.t 22), none, none, 12⟩,
 ⟨(some 24), .load (.t 23), none, none, 28⟩,
 ⟨(some 25), .mv (.t 6), none, none, 0⟩,
 ⟨(some 26), .slice 6 (.t 24) none (some (.t 25)), none, none, 124⟩,
 ⟨(some 27), .app 29 6 96 (.t 20) (.t 26), none, none, 254⟩,
 ⟨(some 28), .mv (.t 0), none, none, 0⟩,
 ⟨(some 29), .nilc (.t 28), none, none, 512⟩,
 ⟨(some 30), .faddr 4 (.t 29), none, none, 1536⟩,
 ⟨(some 31), .load (.t 30), none, none, 3584⟩,
 ⟨(some 32), .mv (.t 6), none, none, 0⟩,
 ⟨(some 33), .bin .add (.t 32) (.c (.int .i64 1)), none, none, 8192⟩,
 ⟨(some 34), .slice 6 (.t 31) (some (.t 33)) none, none, none, 32256⟩,
 ⟨(some 35), .app 29 6 96 (.t 27) (.t 34), none, none, 65534⟩,
 ⟨(some 36), .nilc (.t 19), none, none, 131071⟩,
 ⟨(some 37), .faddr 4 (.t 36), none, none, 262143⟩,
 ⟨none, .store 1 (.t 37) (.t 35), none, none, 524287⟩]
abbrev qapn : List SOper := [⟨(some 4), .mv (.c (.int .i64 0)), none, none, 0⟩]
def c_rdrop : SCode := (.seq (.reg false qauf [0, 3]) (.seq (.seq (.reg false qaue [0, 3, 5]) (.seq (.reg false qaud [0, 3, 5, 12]) (.cond (.t 12) (.seq (.reg false qauc [4]) .ret) .skip))) (.seq (.reg false qaub [0, 6]) (.seq (.seq (.reg false qaua [0, 6, 18]) (.cond (.t 18) (.seq (.reg false qat9 [4]) .ret) .skip)) (.seq (.reg false qat8 [0, 6, 7]) (.seq (.reg true qajz []) (.seq (.reg false qapn [4]) .ret)))))))
theorem qall : comp Try.prog 38 ((Try.f19.body).getD .skip) = some c_rdrop.erase := by kernel_rfl
abbrev qat0 : List SOper := [⟨(some 4), .box 29 (.t 1), none, none, 0⟩,
 ⟨(some 6), .mv (.c (.bool false)), none, none, 0⟩]
abbrev qatz : List SOper := [⟨(some 9), .mv (.t 0), none, none, 0⟩,
 ⟨(some 10), .nilc (.t 9), none, none, 0⟩,
 ⟨(some 11), .faddr 0 (.t 10), none, none, 0⟩,
 ⟨(some 12), .load (.t 11), none, none, 0⟩]
abbrev qaty : List SOper := [⟨(some 14), .bin .eql (.t 12) (.c (.int .i64 1)), none, none, 0⟩,
 ⟨(some 13), .mv (.t 14), none, none, 0⟩]
abbrev qatx : List SOper := [⟨(some 15), .faddr 0 (.t 4), none, none, 0⟩,
 ⟨(some 16), .load (.t 15), none, none, 0⟩,
 ⟨(some 17), .mv (.t 2), none, none, 0⟩,
 ⟨(some 18), .mv (.c .any), some ((.c (.fn (.func 39) [] [])), [(.t 16), (.t 17)]), none, 0⟩,
 ⟨(some 6), .mv (.t 18), none, none, 0⟩]
abbrev qatw : List SOper := [⟨(some 20), .bin .eql (.t 12) (.c (.int .i64 2)), none, none, 0⟩,
 ⟨(some 19), .mv (.t 20), none, none, 0⟩]
abbrev qatv : List SOper := [⟨(some 21), .mv (.t 0), none, none, 0⟩,
 ⟨(some 22), .nilc (.t 21), none, none, 1⟩,
 ⟨(some 23), .faddr 2 (.t 22), none, none, 3⟩,
 ⟨(some 24), .load (.t 23), none, none, 7⟩,
 ⟨(some 25), .mv (.c .any), some ((.c (.fn (.func 57) [] [])), [(.t 24)]), none, 15⟩,
 ⟨(some 26), .mv (.t 0), none, none, 0⟩,
 ⟨(some 27), .nilc (.t 26), none, none, 32⟩,
 ⟨(some 28), .faddr 2 (.t 27), none, none, 96⟩,
 ⟨(some 29), .load (.t 28), none, none, 224⟩,
 ⟨(some 30), .faddr 2 (.t 4), none, none, 0⟩,
 ⟨(some 31), .load (.t 30), none, none, 512⟩,
 ⟨(some 32), .bin .sub (.t 29) (.t 31), none, none, 2016⟩,
 ⟨(some 33), .mv (.c .any), some ((.c (.fn (.func 57) [] [])), [(.t 32)]), none, 4095⟩,
 ⟨(some 34), .bin .sub (.t 25) (.t 33), none, none, 8191⟩,
 ⟨(some 7), .mv (.t 34), none, none, 16383⟩]
abbrev qatu : List SOper := [⟨(some 35), .mv (.t 2), none, none, 0⟩,
 ⟨(some 36), .iaddr 1 (.t 35) (.c (.int .i64 0)), none, none, 1⟩,
 ⟨(some 37), .load (.t 36), none, none, 3⟩,
 ⟨(some 38), .mv (.t 7), none, none, 0⟩,
 ⟨(some 39), .bin .and (.t 37) (.t 38), none, none, 15⟩,
 ⟨(some 40), .faddr 0 (.t 4), none, none, 0⟩,
 ⟨(some 41), .load (.t 40), none, none, 32⟩,
 ⟨(some 42), .iaddr 1 (.t 41) (.c (.int .i64 0)), none, none, 96⟩,
 ⟨(some 43), .load (.t 42), none, none, 224⟩,
 ⟨(some 44), .bin .eql (.t 39) (.t 43), none, none, 511⟩,
 ⟨(some 6), .mv (.t 44), none, none, 1023⟩]
abbrev qatt : List SOper := [⟨(some 8), .mv (.c (.int .i64 0)), none, none, 0⟩]
abbrev qats : List SOper := [⟨(some 45), .mv (.t 8), none, none, 0⟩,
 ⟨(some 46), .mv (.t 2), none, none, 0⟩,
 ⟨(some 47), .len false (.t 46), none, none, 0⟩,
 ⟨(some 48), .bin .lss (.t 45) (.t 47), none, none, 0⟩]
abbrev qapm : List SOper := [⟨(some 51), .mv (.t 2), none, none, 0⟩,
 ⟨(some 52), .mv (.t 8), none, none, 0⟩,
 ⟨(some 53), .iaddr 1 (.t 51) (.t 52), none, none, 3⟩,
 ⟨(some 54), .load (.t 53), none, none, 7⟩,
 ⟨(some 55), .faddr 1 (.t 4), none, none, 0⟩,
 ⟨(some 56), .load (.t 55), none, none, 16⟩,
 ⟨(some 57), .mv (.t 8), none, none, 0⟩,
 ⟨(some 58), .iaddr 1 (.t 56) (.t 57), none, none, 112⟩,
 ⟨(some 59), .load (.t 58), none, none, 240⟩,
 ⟨(some 60), .bin .and (.t 54) (.t 59), none, none, 511⟩,
 ⟨(some 61), .faddr 0 (.t 4), none, none, 0⟩,
 ⟨(some 62), .load (.t 61), none, none, 1024⟩,
 ⟨(some 63), .mv (.t 8), none, none, 0⟩,
 ⟨(some 64), .iaddr 1 (.t 62) (.t 63), none, none, 7168⟩,
 ⟨(some 65), .load (.t 64), none, none, 15360⟩,
 ⟨(some 66), .bin .neq (.t 60) (.t 65), none, none, 32767⟩]
abbrev qapl : List SOper := [⟨(some 6), .mv (.c (.bool false)), none, none, 0⟩]
abbrev qapk : List SOper := [⟨(some 49), .mv (.t 8), none, none, 0⟩,
 ⟨(some 50), .bin .add (.t 49) (.c (.int .i64 1)), none, none, 0⟩,
 ⟨(some 8), .mv (.t 50), none, none, 0⟩]
def qajw : SCode := (.seq (.seq (.reg false qats [2, 4, 8, 48]) (.cond (.t 48) .skip (.exit 1))) (.seq (.block 2 (.seq (.reg true qapm [2, 4, 8, 66]) (.cond (.t 66) (.seq (.reg false qapl [6]) .ret) .skip))) (.reg false qapk [2, 4, 8])))
abbrev qapj : List SOper := [⟨(some 6), .mv (.c (.bool true)), none, none, 0⟩]
def c_rfits : SCode := (.seq (.reg false qat0 [0, 2, 4]) (.seq (.seq (.reg false qatz [0, 2, 4, 12]) (.block 0 (.seq (.reg false qaty [0, 2, 4, 12, 13]) (.cond (.t 13) (.seq (.reg false qatx [6]) .ret) (.seq (.reg false qatw [0, 2, 4, 19]) (.cond (.t 19) (.seq (.reg true qatv [2, 4, 7]) (.seq (.reg true qatu [6]) .ret)) .skip)))))) (.seq (.seq (.reg false qatt [2, 4, 8]) (.block 1 (.loop qajw))) (.seq (.reg false qapj [6]) .ret))))
theorem qalj : comp Try.prog 67 ((Try.f45.body).getD .skip) = some c_rfits.erase := by kernel_rfl
abbrev qat7 : List SOper := [⟨(some 4), .alloc 36 [(.int .i64 0), .nilsl], none, none, 0⟩,
 ⟨(some 5), .mv (.c (.int .i64 0)), none, none, 0⟩,
 ⟨(some 6), .mv (.c (.bool false)), none, none, 0⟩]
abbrev qat6 : List SOper := [⟨(some 10), .mv (.t 1), none, none, 0⟩,
 ⟨(some 11), .len false (.t 10), none, none, 1⟩,
 ⟨(some 12), .mv (.t 0), none, none, 0⟩,
 ⟨(some 13), .nilc (.t 12), none, none, 4⟩,
 ⟨(some 14), .faddr 1 (.t 13), none, none, 12⟩,
 ⟨(some 15), .load (.t 14), none, none, 28⟩,
 ⟨(some 16), .bin .neq (.t 11) (.t 15), none, none, 63⟩,
 ⟨(some 17), .mv (.t 16), none, none, 127⟩,
 ⟨(some 18), .mv (.t 0), none, (some (17, false)), 255⟩,
 ⟨(some 19), .nilc (.t 18), none, (some (17, false)), 511⟩,
 ⟨(some 20), .faddr 0 (.t 19), none, (some (17, false)), 1023⟩,
 ⟨(some 21), .load (.t 20), none, (some (17, false)), 2047⟩,
 ⟨(some 22), .bin .eql (.t 21) (.c (.int .i64 2)), none, (some (17, false)), 4095⟩,
 ⟨(some 23), .mv (.t 22), none, (some (17, false)), 8191⟩,
 ⟨(some 24), .mv (.t 0), none, (some (23, true)), 16383⟩,
 ⟨(some 25), .nilc (.t 24), none, (some (23, true)), 32767⟩,
 ⟨(some 26), .faddr 2 (.t 25), none, (some (23, true)), 65535⟩,
 ⟨(some 27), .load (.t 26), none, (some (23, true)), 131071⟩,
 ⟨(some 28), .bin .lss (.t 27) (.c (.int .i64 1)), none, (some (23, true)), 262143⟩,
 ⟨(some 29), .mv (.t 28), none, (some (23, true)), 524287⟩,
 ⟨(some 30), .mv (.t 0), none, (some (29, false)), 1048575⟩,
 ⟨(some 31), .nilc (.t 30), none, (some (29, false)), 2097151⟩,
 ⟨(some 32), .faddr 2 (.t 31), none, (some (29, false)), 4194303⟩,
 ⟨(some 33), .load (.t 32), none, (some (29, false)), 8388607⟩,
 ⟨(some 34), .bin .gtr (.t 33) (.c (.int .i64 64)), none, (some (29, false)), 16777215⟩,
 ⟨(some 35), .pick (.t 29) (.c (.bool true)) (.t 34), none, (some (23, true)), 33554431⟩,
 ⟨(some 36), .mv (.t 35), none, (some (23, true)), 67108863⟩,
 ⟨(some 37), .mv (.t 1), none, (some (36, false)), 134217727⟩,
 ⟨(some 38), .iaddr 1 (.t 37) (.c (.int .i64 0)), none, (some (36, false)), 268435455⟩,
 ⟨(some 39), .load (.t 38), none, (some (36, false)), 536870911⟩,
 ⟨(some 40), .mv (.t 0), none, (some (36, false)), 134217727⟩,
 ⟨(some 41), .nilc (.t 40), none, (some (36, false)), 1207959551⟩,
 ⟨(some 42), .faddr 2 (.t 41), none, (some (36, false)), 3355443199⟩,
 ⟨(some 43), .load (.t 42), none, (some (36, false)), 7650410495⟩,
 ⟨(some 44), .mv (.c .any), some ((.c (.fn (.func 44) [] [])), [(.t 39), (.t 43)]), (some (36, false)), 17179869183⟩,
 ⟨(some 45), .pick (.t 36) (.c (.bool true)) (.t 44), none, (some (23, true)), 34359738367⟩,
 ⟨(some 46), .pick (.t 23) (.t 45) (.c (.bool false)), none, (some (17, false)), 68719476735⟩,
 ⟨(some 47), .pick (.t 17) (.c (.bool true)) (.t 46), none, none, 137438953471⟩]
abbrev qat5 : List SOper := [⟨(some 48), .build [(.int .i64 0), .nilsl] [], none, none, 0⟩,
 ⟨none, .store 2 (.t 4) (.t 48), none, none, 0⟩,
 ⟨(some 5), .mv (.c (.int .i64 0)), none, none, 0⟩,
 ⟨(some 6), .mv (.c (.bool false)), none, none, 0⟩]
abbrev qajy : List SOper := [⟨(some 7), .mv (.c (.int .i64 (-1))), none, none, 0⟩]
abbrev qajx : List SOper := [⟨(some 8), .mv (.c (.int .i64 0)), none, none, 0⟩]
abbrev qat4 : List SOper := [⟨(some 49), .mv (.t 8), none, none, 0⟩,
 ⟨(some 50), .mv (.t 0), none, none, 0⟩,
 ⟨(some 51), .nilc (.t 50), none, none, 0⟩,
 ⟨(some 52), .faddr 4 (.t 51), none, none, 0⟩,
 ⟨(some 53), .load (.t 52), none, none, 0⟩,
 ⟨(some 54), .len false (.t 53), none, none, 0⟩,
 ⟨(some 55), .bin .lss (.t 49) (.t 54), none, none, 0⟩]
abbrev qat3 : List SOper := [⟨(some 58), .mv (.t 0), none, none, 0⟩,
 ⟨(some 59), .mv (.t 0), none, none, 0⟩,
 ⟨(some 60), .nilc (.t 59), none, none, 2⟩,
 ⟨(some 61), .faddr 4 (.t 60), none, none, 6⟩,
 ⟨(some 62), .load (.t 61), none, none, 14⟩,
 ⟨(some 63), .mv (.t 8), none, none, 0⟩,
 ⟨(some 64), .iaddr 6 (.t 62) (.t 63), none, none, 62⟩,
 ⟨(some 65), .loads 6 (.t 64), none, none, 126⟩,
 ⟨(some 66), .mv (.t 1), none, none, 0⟩,
 ⟨(some 67), .mv (.c .any), some ((.c (.fn (.func 45) [] [])), [(.t 58), (.t 65), (.t 66)]), none, 511⟩,
 ⟨(some 68), .mv (.t 67), none, none, 1023⟩,
 ⟨(some 69), .mv (.t 7), none, (some (68, true)), 2047⟩,
 ⟨(some 70), .bin .lss (.t 69) (.c (.int .i64 0)), none, (some (68, true)), 4095⟩,
 ⟨(some 71), .mv (.t 70), none, (some (68, true)), 8191⟩,
 ⟨(some 72), .mv (.t 0), none, (some (71, false)), 16383⟩,
 ⟨(some 73), .nilc (.t 72), none, (some (71, false)), 32767⟩,
 ⟨(some 74), .faddr 4 (.t 73), none, (some (71, false)), 65535⟩,
 ⟨(some 75), .load (.t 74), none, (some (71, false)), 131071⟩,
 ⟨(some 76), .mv (.t 8), none, (some (71, false)), 16383⟩,
 ⟨(some 77), .iaddr 6 (.t 75) (.t 76), none, (some (71, false)), 524287⟩,
 ⟨(some 78), .faddr 2 (.t 77), none, (some (71, false)), 1048575⟩,
 ⟨(some 79), .load (.t 78), none, (some (71, false)), 2097151⟩,
 ⟨(some 80), .mv (.t 0), none, (some (71, false)), 16383⟩,
 ⟨(some 81), .nilc (.t 80), none, (some (71, false)), 4210687⟩,
 ⟨(some 82), .faddr 4 (.t 81), none, (some (71, false)), 12599295⟩,
 ⟨(some 83), .load (.t 82), none, (some (71, false)), 29376511⟩,
 ⟨(some 84), .mv (.t 7), none, (some (71, false)), 16383⟩,
 ⟨(some 85), .iaddr 6 (.t 83) (.t 84), none, (some (71, false)), 130039807⟩,
 ⟨(some 86), .faddr 2 (.t 85), none, (some (71, false)), 264257535⟩,
 ⟨(some 87), .load (.t 86), none, (some (71, false)), 532692991⟩,
 ⟨(some 88), .bin .gtr (.t 79) (.t 87), none, (some (71, false)), 1073741823⟩,
 ⟨(some 89), .pick (.t 71) (.c (.bool true)) (.t 88), none, (some (68, true)), 2147483647⟩,
 ⟨(some 90), .mv (.t 89), none, (some (68, true)), 4294967295⟩,
 ⟨(some 91), .mv (.t 0), none, (some (90, false)), 8589934591⟩,
 ⟨(some 92), .nilc (.t 91), none, (some (90, false)), 17179869183⟩,
 ⟨(some 93), .faddr 4 (.t 92), none, (some (90, false)), 34359738367⟩,
 ⟨(some 94), .load (.t 93), none, (some (90, false)), 68719476735⟩,
 ⟨(some 95), .mv (.t 8), none, (some (90, false)), 8589934591⟩,
 ⟨(some 96), .iaddr 6 (.t 94) (.t 95), none, (some (90, false)), 274877906943⟩,
 ⟨(some 97), .faddr 3 (.t 96), none, (some (90, false)), 549755813887⟩,
 ⟨(some 98), .load (.t 97), none, (some (90, false)), 1099511627775⟩,
 ⟨(some 99), .mv (.t 0), none, (some (90, false)), 8589934591⟩,
 ⟨(some 100), .nilc (.t 99), none, (some (90, false)), 2207613190143⟩,
 ⟨(some 101), .faddr 4 (.t 100), none, (some (90, false)), 6605659701247⟩,
 ⟨(some 102), .load (.t 101), none, (some (90, false)), 15401752723455⟩,
 ⟨(some 103), .mv (.t 7), none, (some (90, false)), 8589934591⟩,
 ⟨(some 104), .iaddr 6 (.t 102) (.t 103), none, (some (90, false)), 68178310856703⟩,
 ⟨(some 105), .faddr 3 (.t 104), none, (some (90, false)), 138547055034367⟩,
 ⟨(some 106), .load (.t 105), none, (some (90, false)), 279284543389695⟩,
 ⟨(some 107), .bin .lss (.t 98) (.t 106), none, (some (90, false)), 562949953421311⟩,
 ⟨(some 108), .pick (.t 90) (.c (.bool true)) (.t 107), none, (some (68, true)), 1125899906842623⟩,
 ⟨(some 109), .pick (.t 68) (.t 108) (.c (.bool false)), none, none, 2251799813685247⟩]
abbrev qat2 : List SOper := [⟨(some 110), .mv (.t 8), none, none, 0⟩,
 ⟨(some 7), .mv (.t 110), none, none, 0⟩]
abbrev qat1 : List SOper := [⟨(some 56), .mv (.t 8), none, none, 0⟩,
 ⟨(some 57), .bin .add (.t 56) (.c (.int .i64 1)), none, none, 0⟩,
 ⟨(some 8), .mv (.t 57), none, none, 0⟩]
def qagm : SCode := (.seq (.seq (.reg false qat4 [0, 1, 4, 7, 8, 55]) (.cond (.t 55) .skip (.exit 0))) (.seq (.block 1 (.seq (.reg true qat3 [0, 1, 4, 7, 8, 109]) (.cond (.t 109) (.reg false qat2 [0, 1, 4, 7, 8]) .skip))) (.reg false qat1 [0, 1, 4, 7, 8])))
abbrev qahj : List SOper := [⟨(some 111), .mv (.t 7), none, none, 0⟩,
 ⟨(some 112), .bin .lss (.t 111) (.c (.int .i64 0)), none, none, 0⟩]
abbrev qahi : List SOper := [⟨(some 113), .build [(.int .i64 0), .nilsl] [], none, none, 0⟩,
 ⟨none, .store 2 (.t 4) (.t 113), none, none, 0⟩,
 ⟨(some 5), .mv (.c (.int .i64 0)), none, none, 0⟩,
 ⟨(some 6), .mv (.c (.bool false)), none, none, 0⟩]
abbrev qahh : List SOper := [⟨(some 114), .mv (.t 0), none, none, 0⟩,
 ⟨(some 115), .nilc (.t 114), none, none, 0⟩,
 ⟨(some 116), .faddr 4 (.t 115), none, none, 0⟩,
 ⟨(some 117), .load (.t 116), none, none, 0⟩,
 ⟨(some 118), .mv (.t 7), none, none, 0⟩,
 ⟨(some 119), .iaddr 6 (.t 117) (.t 118), none, none, 0⟩,
 ⟨(some 120), .loads 6 (.t 119), none, none, 0⟩,
 ⟨(some 121), .mv (.c .any), some ((.c (.fn (.func 40) [] [])), [(.t 120)]), none, 0⟩,
 ⟨(some 9), .alloc 29 [.nilsl, .nilsl, (.int .i64 0), (.int .i64 0), (.int .i64 0), .nilsl], none, none, 0⟩,
 ⟨none, .store 6 (.t 9) (.t 121), none, none, 0⟩]
abbrev qahg : List SOper := [⟨(some 122), .faddr 4 (.t 9), none, none, 0⟩,
 ⟨(some 123), .load (.t 122), none, none, 1⟩,
 ⟨(some 124), .faddr 5 (.t 9), none, none, 0⟩,
 ⟨(some 125), .load (.t 124), none, none, 4⟩,
 ⟨(some 126), .build [(.int .i64 0), .nilsl] [(0, 1, (.t 123)), (1, 1, (.t 125))], none, none, 15⟩,
 ⟨(some 127), .faddr 2 (.t 9), none, none, 0⟩,
 ⟨(some 128), .load (.t 127), none, none, 32⟩,
 ⟨none, .store 2 (.t 4) (.t 126), none, none, 31⟩,
 ⟨(some 5), .mv (.t 128), none, none, 255⟩,
 ⟨(some 6), .mv (.c (.bool true)), none, none, 511⟩]
def c_rfind : SCode := (.seq (.reg false qat7 [0, 1, 4]) (.seq (.seq (.reg true qat6 [0, 1, 4, 47]) (.cond (.t 47) (.seq (.reg false qat5 [4, 5, 6]) .ret) .skip)) (.seq (.reg false qajy [0, 1, 4, 7]) (.seq (.seq (.reg false qajx [0, 1, 4, 7, 8]) (.block 0 (.loop qagm))) (.seq (.seq (.reg false qahj [0, 4, 7, 112]) (.cond (.t 112) (.seq (.reg false qahi [4, 5, 6]) .ret) .skip)) (.seq (.reg false qahh [4, 9]) (.seq (.reg true qahg [4, 5, 6]) .ret)))))))
theorem qalk : comp Try.prog 129 ((Try.f20.body).getD .skip) = some c_rfind.erase := by kernel_rfl
abbrev qawa : List SOper := [⟨(some 2), .box 29 (.t 0), none, none, 0⟩,
 ⟨(some 3), .box 29 (.t 1), none, none, 0⟩,
 ⟨(some 4), .mv (.c (.bool false)), none, none, 0⟩]
abbrev qav9 : List SOper := [⟨(some 6), .faddr 3 (.t 2), none, none, 0⟩,
 ⟨(some 7), .load (.t 6), none, none, 0⟩,
 ⟨(some 8), .faddr 3 (.t 3), none, none, 0⟩,
 ⟨(some 9), .load (.t 8), none, none, 0⟩,
 ⟨(some 10), .bin .neq (.t 7) (.t 9), none, none, 0⟩]
abbrev qav8 : List SOper := [⟨(some 11), .faddr 3 (.t 2), none, none, 0⟩,
 ⟨(some 12), .load (.t 11), none, none, 0⟩,
 ⟨(some 13), .faddr 3 (.t 3), none, none, 0⟩,
 ⟨(some 14), .load (.t 13), none, none, 0⟩,
 ⟨(some 15), .bin .lss (.t 12) (.t 14), none, none, 0⟩,
 ⟨(some 4), .mv (.t 15), none, none, 0⟩]
abbrev qav7 : List SOper := [⟨(some 16), .faddr 0 (.t 2), none, none, 0⟩,
 ⟨(some 17), .load (.t 16), none, none, 0⟩,
 ⟨(some 18), .faddr 0 (.t 3), none, none, 0⟩,
 ⟨(some 19), .load (.t 18), none, none, 0⟩,
 ⟨(some 20), .mv (.c .any), some ((.c (.fn (.func 59) [] [])), [(.t 17), (.t 19)]), none, 0⟩,
 ⟨(some 5), .mv (.t 20), none, none, 0⟩]
abbrev qav6 : List SOper := [⟨(some 21), .mv (.t 5), none, none, 0⟩,
 ⟨(some 22), .bin .neq (.t 21) (.c (.int .i64 0)), none, none, 0⟩]
abbrev qav5 : List SOper := [⟨(some 23), .mv (.t 5), none, none, 0⟩,
 ⟨(some 24), .bin .lss (.t 23) (.c (.int .i64 0)), none, none, 0⟩,
 ⟨(some 4), .mv (.t 24), none, none, 0⟩]
abbrev qav4 : List SOper := [⟨(some 25), .faddr 2 (.t 2), none, none, 0⟩,
 ⟨(some 26), .load (.t 25), none, none, 0⟩,
 ⟨(some 27), .faddr 2 (.t 3), none, none, 0⟩,
 ⟨(some 28), .load (.t 27), none, none, 0⟩,
 ⟨(some 29), .bin .neq (.t 26) (.t 28), none, none, 0⟩]
abbrev qav3 : List SOper := [⟨(some 30), .faddr 2 (.t 2), none, none, 0⟩,
 ⟨(some 31), .load (.t 30), none, none, 0⟩,
 ⟨(some 32), .faddr 2 (.t 3), none, none, 0⟩,
 ⟨(some 33), .load (.t 32), none, none, 0⟩,
 ⟨(some 34), .bin .lss (.t 31) (.t 33), none, none, 0⟩,
 ⟨(some 4), .mv (.t 34), none, none, 0⟩]
abbrev qav2 : List SOper := [⟨(some 35), .faddr 1 (.t 2), none, none, 0⟩,
 ⟨(some 36), .load (.t 35), none, none, 0⟩,
 ⟨(some 37), .faddr 1 (.t 3), none, none, 0⟩,
 ⟨(some 38), .load (.t 37), none, none, 0⟩,
 ⟨(some 39), .mv (.c .any), some ((.c (.fn (.func 59) [] [])), [(.t 36), (.t 38)]), none, 0⟩,
 ⟨(some 40), .bin .lss (.t 39) (.c (.int .i64 0)), none, none, 0⟩,
 ⟨(some 4), .mv (.t 40), none, none, 0⟩]
def c_ahead : SCode := (.seq (.reg false qawa [2, 3]) (.seq (.seq (.reg false qav9 [2, 3, 10]) (.cond (.t 10) (.seq (.reg false qav8 [4]) .ret) .skip)) (.seq (.reg false qav7 [2, 3, 5]) (.seq (.seq (.reg false qav6 [2, 3, 5, 22]) (.cond (.t 22) (.seq (.reg false qav5 [4]) .ret) .skip)) (.seq (.seq (.reg false qav4 [2, 3, 29]) (.cond (.t 29) (.seq (.reg false qav3 [4]) .ret) .skip)) (.seq (.reg false qav2 [4]) .ret))))))
theorem qalq : comp Try.prog 41 ((Try.f46.body).getD .skip) = some c_ahead.erase := by kernel_rfl
abbrev qay7 : List SOper := [⟨(some 2), .mv (.c .nilsl), none, none, 0⟩]
abbrev qay6 : List SOper := [⟨(some 3), .mv (.c .nilsl), none, none, 0⟩]
abbrev qay5 : List SOper := [⟨(some 6), .mv (.t 3), none, none, 0⟩,
 ⟨(some 7), .len false (.t 6), none, none, 0⟩,
 ⟨(some 8), .mv (.t 0), none, none, 0⟩,
 ⟨(some 9), .nilc (.t 8), none, none, 0⟩,
 ⟨(some 10), .faddr 4 (.t 9), none, none, 0⟩,
 ⟨(some 11), .load (.t 10), none, none, 0⟩,
 ⟨(some 12), .len false (.t 11), none, none, 0⟩,
 ⟨(some 13), .bin .lss (.t 7) (.t 12), none, none, 0⟩]
abbrev qay4 : List SOper := [⟨(some 4), .mv (.c (.int .i64 (-1))), none, none, 0⟩]
abbrev qay3 : List SOper := [⟨(some 5), .mv (.c (.int .i64 0)), none, none, 0⟩]
abbrev qay2 : List SOper := [⟨(some 14), .mv (.t 5), none, none, 0⟩,
 ⟨(some 15), .mv (.t 0), none, none, 0⟩,
 ⟨(some 16), .nilc (.t 15), none, none, 0⟩,
 ⟨(some 17), .faddr 4 (.t 16), none, none, 0⟩,
 ⟨(some 18), .load (.t 17), none, none, 0⟩,
 ⟨(some 19), .len false (.t 18), none, none, 0⟩,
 ⟨(some 20), .bin .lss (.t 14) (.t 19), none, none, 0⟩]
abbrev qay1 : List SOper := [⟨(some 23), .mv (.t 3), none, none, 0⟩,
 ⟨(some 24), .len false (.t 23), none, none, 1⟩,
 ⟨(some 25), .bin .gtr (.t 24) (.c (.int .i64 0)), none, none, 3⟩,
 ⟨(some 26), .mv (.t 25), none, none, 7⟩,
 ⟨(some 27), .mv (.t 3), none, (some (26, true)), 15⟩,
 ⟨(some 28), .mv (.t 3), none, (some (26, true)), 15⟩,
 ⟨(some 29), .len false (.t 28), none, (some (26, true)), 47⟩,
 ⟨(some 30), .bin .sub (.t 29) (.c (.int .i64 1)), none, (some (26, true)), 111⟩,
 ⟨(some 31), .iaddr 6 (.t 27) (.t 30), none, (some (26, true)), 255⟩,
 ⟨(some 32), .loads 6 (.t 31), none, (some (26, true)), 511⟩,
 ⟨(some 33), .mv (.t 0), none, (some (26, true)), 15⟩,
 ⟨(some 34), .nilc (.t 33), none, (some (26, true)), 1039⟩,
 ⟨(some 35), .faddr 4 (.t 34), none, (some (26, true)), 3087⟩,
 ⟨(some 36), .load (.t 35), none, (some (26, true)), 7183⟩,
 ⟨(some 37), .mv (.t 5), none, (some (26, true)), 15⟩,
 ⟨(some 38), .iaddr 6 (.t 36) (.t 37), none, (some (26, true)), 31759⟩,
 ⟨(some 39), .loads 6 (.t 38), none, (some (26, true)), 64527⟩,
 ⟨(some 40), .mv (.c .any), some ((.c (.fn (.func 46) [] [])), [(.t 32), (.t 39)]), (some (26, true)), 131071⟩,
 ⟨(some 41), .un .not (.t 40), none, (some (26, true)), 262143⟩,
 ⟨(some 42), .pick (.t 26) (.t 41) (.c (.bool false)), none, none, 524287⟩]
abbrev qay0 : List SOper := [⟨(some 43), .mv (.t 4), none, none, 0⟩,
 ⟨(some 44), .bin .lss (.t 43) (.c (.int .i64 0)), none, none, 1⟩,
 ⟨(some 45), .mv (.t 44), none, none, 3⟩,
 ⟨(some 46), .mv (.t 0), none, (some (45, false)), 7⟩,
 ⟨(some 47), .nilc (.t 46), none, (some (45, false)), 15⟩,
 ⟨(some 48), .faddr 4 (.t 47), none, (some (45, false)), 31⟩,
 ⟨(some 49), .load (.t 48), none, (some (45, false)), 63⟩,
 ⟨(some 50), .mv (.t 5), none, (some (45, false)), 7⟩,
 ⟨(some 51), .iaddr 6 (.t 49) (.t 50), none, (some (45, false)), 255⟩,
 ⟨(some 52), .loads 6 (.t 51), none, (some (45, false)), 511⟩,
 ⟨(some 53), .mv (.t 0), none, (some (45, false)), 7⟩,
 ⟨(some 54), .nilc (.t 53), none, (some (45, false)), 1031⟩,
 ⟨(some 55), .faddr 4 (.t 54), none, (some (45, false)), 3079⟩,
 ⟨(some 56), .load (.t 55), none, (some (45, false)), 7175⟩,
 ⟨(some 57), .mv (.t 4), none, (some (45, false)), 7⟩,
 ⟨(some 58), .iaddr 6 (.t 56) (.t 57), none, (some (45, false)), 31751⟩,
 ⟨(some 59), .loads 6 (.t 58), none, (some (45, false)), 64519⟩,
 ⟨(some 60), .mv (.c .any), some ((.c (.fn (.func 46) [] [])), [(.t 52), (.t 59)]), (some (45, false)), 131071⟩,
 ⟨(some 61), .pick (.t 45) (.c (.bool true)) (.t 60), none, none, 262143⟩]
abbrev qayz : List SOper := [⟨(some 62), .mv (.t 5), none, none, 0⟩,
 ⟨(some 4), .mv (.t 62), none, none, 0⟩]
abbrev qauj : List SOper := [⟨(some 21), .mv (.t 5), none, none, 0⟩,
 ⟨(some 22), .bin .add (.t 21) (.c (.int .i64 1)), none, none, 0⟩,
 ⟨(some 5), .mv (.t 22), none, none, 0⟩]
def qamw : SCode := (.seq (.seq (.reg false qay2 [0, 3, 4, 5, 20]) (.cond (.t 20) .skip (.exit 2))) (.seq (.block 3 (.seq (.seq (.reg true qay1 [0, 3, 4, 5, 42]) (.cond (.t 42) (.exit 3) .skip)) (.seq (.reg true qay0 [0, 3, 4, 5, 61]) (.cond (.t 61) (.reg false qayz [0, 3, 4, 5]) .skip)))) (.reg false qauj [0, 3, 4, 5])))
abbrev qaui : List SOper := [⟨(some 63), .mv (.t 3), none, none, 0⟩,
 ⟨(some 64), .mv (.t 0), none, none, 0⟩,
 ⟨(some 65), .nilc (.t 64), none, none, 0⟩,
 ⟨(some 66), .faddr 4 (.t 65), none, none, 0⟩,
 ⟨(some 67), .load (.t 66), none, none, 0⟩,
 ⟨(some 68), .mv (.t 4), none, none, 0⟩,
 ⟨(some 69), .iaddr 6 (.t 67) (.t 68), none, none, 0⟩,
 ⟨(some 70), .loads 6 (.t 69), none, none, 0⟩,
 ⟨(some 71), .mv (.c .any), some ((.c (.fn (.func 40) [] [])), [(.t 70)]), none, 0⟩,
 ⟨(some 72), .mkrow 29 6 1 [.nilsl, .nilsl, (.int .i64 0), (.int .i64 0), (.int .i64 0), .nilsl] [(0, (.t 71))], none, none, 0⟩,
 ⟨(some 73), .app 29 6 96 (.t 63) (.t 72), none, none, 0⟩,
 ⟨(some 3), .mv (.t 73), none, none, 0⟩]
def qamv : SCode := (.seq (.seq (.reg false qay5 [0, 3, 13]) (.cond (.t 13) .skip (.exit 0))) (.block 1 (.seq (.reg false qay4 [0, 3, 4]) (.seq (.seq (.reg false qay3 [0, 3, 4, 5]) (.block 2 (.loop qamw))) (.reg false qaui [0, 3])))))
abbrev qauh : List SOper := [⟨(some 74), .mv (.t 3), none, none, 0⟩,
 ⟨(some 2), .mv (.t 74), none, none, 0⟩]
def c_rall : SCode := (.seq (.reg false qay7 [0]) (.seq (.reg false qay6 [0, 3]) (.seq (.block 0 (.loop qamv)) (.seq (.reg false qauh [2]) .ret))))
theorem qan4 : comp Try.prog 75 ((Try.f24.body).getD .skip) = some c_rall.erase := by kernel_rfl
end Go.Proofs.Ytefkifebgeagiaa
namespace Go.Proofs.Ytefkifebgeagiaa
set_option linter.all false
open Go.RowKit
def qacs (s : TStep) : List SV := .int .i64 s.d :: qaae s.e
def qadp (l : List TStep) : SV := .view 7 (l.map qacs)
def bigE (e : Entry) : Bool := decide (e.keys.length > 20) || (decide (e.masks.length > 20) || decide (e.args.length > 20))
def bigS (l : List TStep) : Bool := decide (l.length > 200) || l.any fun s => bigE s.e
theorem great_s (l : List TStep) : SCalls Try.prog 7 [qadp l] [] 0 (.bool (bigS l)) [] := by
 refine qaa0 (N := 41) Try.func7 rfl rfl (by kernel_rfl) qalo (by simp) ⟨rfl, trivial⟩ trivial ?_
 rintro X hP hN hm
 generalize hr : bigS l = r
 have fin : ∀ (r' : Bool) hp nx, r' = r → QFun X (Try.f7).results.toList 0 (.bool r) [] .ret ⟨[(2, .bool r')], hp, nx⟩ := fun r' hp nx hr => by
  rw [hr]
  exact (qabr (s' := ⟨[(2, .bool r)], [], 0⟩) (qabg [] hm rfl (Nat.le_refl _) (by simp -implicitDefEqProofs [qaai, FrzOk, qaa4, qaaw, qaa2, qaa3, qaaq, qaav, qabb, qaax, qaas, qaa5, qaar, frzS, frzH, frz, frz1, frz0, SlotsM, ObjsM, ObjM, rn, ren, ren1, ren0, gets, geth, qabj, qabs, qaby, qabi, qabc, qabu, qabx, CoL, qaa6]) trivial) rfl trivial (by simp))
 unfold c_great qadp
 refine qaa8 (qaaj ?_)
 simp -implicitDefEqProofs [qaj6, qaao, qaan, qaac, qaah, qaad, qaag, qaal, qaam, qaaa, qaay, SOp.run, SX.ev, putd, puts, argS, upds, SOp.touch, SSt.keep, SSt.skip, gets, geth, puth, delh, idOf, SV.cells?, setL, qab0, qab1, sbin, eq0, eq1, eqL, qabz, qabd, qabe, qaau, qaak, qaab, qaap, qaaz, qaaf]
 refine qaa8 (qaa8 (qaaj ?_))
 simp -implicitDefEqProofs [qaj5, qaao, qaan, qaac, qaah, qaad, qaag, qaal, qaam, qaaa, qaay, SOp.run, SX.ev, putd, puts, argS, upds, SOp.touch, SSt.keep, SSt.skip, gets, geth, puth, delh, idOf, SV.cells?, setL, qab0, qab1, sbin, eq0, eq1, eqL, qabz, qabd, qabe, qaau, qaak, qaab, qaap, qaaz, qaaf]
 refine qaat rfl (fun h => ?_) (fun h => ?_)
 ·refine qaa8 (qaaj ?_)
  simp -implicitDefEqProofs [qaj4, qaao, qaan, qaac, qaah, qaad, qaag, qaal, qaam, qaaa, qaay, SOp.run, SX.ev, putd, puts, argS, upds, SOp.touch, SSt.keep, SSt.skip, gets, geth, puth, delh, idOf, SV.cells?, setL, qab0, qab1, sbin, eq0, eq1, eqL, qabz, qabd, qabe, qaau, qaak, qaab, qaap, qaaz, qaaf]
  refine qaa7 (fin _ _ _ ?_)
  have : l.length > 200 := by simp at h; omega
  rw [← hr]; simp [bigS, this]
 ·have h200 : l.length ≤ 200 := by simp at h; omega
  refine qaa1 ?_
  simp -implicitDefEqProofs [qaao, qaan, qaac, qaah, qaad, qaag, qaal, qaam, qaaa, qaay, SOp.run, SX.ev, putd, puts, argS, upds, SOp.touch, SSt.keep, SSt.skip, gets, geth, puth, delh, idOf, SV.cells?, setL, qab0, qab1, sbin, eq0, eq1, eqL, qabz, qabd, qabe, qaau, qaak, qaab, qaap, qaaz, qaaf]
  refine qaa8 (qaa8 (qaaj ?_))
  simp -implicitDefEqProofs [qaj3, qaao, qaan, qaac, qaah, qaad, qaag, qaal, qaam, qaaa, qaay, SOp.run, SX.ev, putd, puts, argS, upds, SOp.touch, SSt.keep, SSt.skip, gets, geth, puth, delh, idOf, SV.cells?, setL, qab0, qab1, sbin, eq0, eq1, eqL, qabz, qabd, qabe, qaau, qaak, qaab, qaap, qaaz, qaaf]
  refine qabp (qacm (fun s n => ∃ i : Nat, s = ⟨[(0, qadp l), (3, .int .i64 i)], [], 0⟩ ∧ i ≤ l.length ∧ (∀ j s, j < i → l[j]? = some s → bigE s.e = false) ∧ n = l.length - i) (qabg [] hm rfl (Nat.le_refl _) (by simp -implicitDefEqProofs [qaai, FrzOk, qaa4, qaaw, qaa2, qaa3, qaaq, qaav, qabb, qaax, qaas, qaa5, qaar, frzS, frzH, frz, frz1, frz0, SlotsM, ObjsM, ObjM, rn, ren, ren1, ren0, gets, geth, qabj, qabs, qaby, qabi, qabc, qabu, qabx, CoL, qaa6, qadp]) (by trivial)) ⟨0, rfl, by omega, by intro j s hj; omega, rfl⟩ ?_)
  rintro s n ⟨i, rfl, h1, h2, rfl⟩
  unfold qaj7
  refine qaa8 (qaa8 (qaaj ?_))
  simp -implicitDefEqProofs [qaj2, qaao, qaan, qaac, qaah, qaad, qaag, qaal, qaam, qaaa, qaay, SOp.run, SX.ev, putd, puts, argS, upds, SOp.touch, SSt.keep, SSt.skip, gets, geth, puth, delh, idOf, SV.cells?, setL, qab0, qab1, sbin, eq0, eq1, eqL, qabz, qabd, qabe, qaau, qaak, qaab, qaap, qaaz, qaaf, qadp]
  refine qaat rfl (fun h3 => qaa1 ?_) (fun h3 => qabw ?_)
  ·have hi : i < l.length := by simpa using h3
   simp -implicitDefEqProofs [qaao, qaan, qaac, qaah, qaad, qaag, qaal, qaam, qaaa, qaay, SOp.run, SX.ev, putd, puts, argS, upds, SOp.touch, SSt.keep, SSt.skip, gets, geth, puth, delh, idOf, SV.cells?, setL, qab0, qab1, sbin, eq0, eq1, eqL, qabz, qabd, qabe, qaau, qaak, qaab, qaap, qaaz, qaaf]
   refine qaa8 (qabp (qaa8 (qaaj ?_)))
   have yes : bigE l[i].e = true → bigS l = true := fun hb => by
    simp only [bigS, Bool.or_eq_true]
    exact .inr (List.any_eq_true.2 ⟨l[i], List.getElem_mem hi, hb⟩)
   have step : ∀ b hp nx, bigE l[i].e = b → SWp X ((SCode.cond (.t 40) (SCode.seq (.reg false qagp [2]) .ret) .skip)) (qagu 1 (QSeq X (.reg false qago [0, 3]) (qa2e X (fun s n => ∃ i : Nat, s = ⟨[(0, qadp l), (3, .int .i64 i)], [], 0⟩ ∧ i ≤ l.length ∧ (∀ j s, j < i → l[j]? = some s → bigE s.e = false) ∧ n = l.length - i) (l.length - i) (qagu 0 (QSeq X (SCode.seq (.reg false qagn [2]) .ret) (QFun X [ResultVar.tmp 2] 0 (.bool r) []))))))
     ⟨[(0, .view 7 (l.map qacs)), (3, .int .i64 i), (40, .bool b)], hp, nx⟩ := by
    intro b hp nx hb
    cases b with
    | true =>
     refine qaat rfl (fun _ => ?_) (by simp)
     refine qaa8 (qaaj ?_)
     simp -implicitDefEqProofs [qagp, qaao, qaan, qaac, qaah, qaad, qaag, qaal, qaam, qaaa, qaay, SOp.run, SX.ev, putd, puts, argS, upds, SOp.touch, SSt.keep, SSt.skip, gets, geth, puth, delh, idOf, SV.cells?, setL, qab0, qab1, sbin, eq0, eq1, eqL, qabz, qabd, qabe, qaau, qaak, qaab, qaap, qaaz, qaaf]
     refine qaa7 (fin _ _ _ ?_)
     rw [← hr, yes hb]
    | false =>
     refine qaat rfl (by simp) (fun _ => qaa1 ?_)
     simp -implicitDefEqProofs [qaao, qaan, qaac, qaah, qaad, qaag, qaal, qaam, qaaa, qaay, SOp.run, SX.ev, putd, puts, argS, upds, SOp.touch, SSt.keep, SSt.skip, gets, geth, puth, delh, idOf, SV.cells?, setL, qab0, qab1, sbin, eq0, eq1, eqL, qabz, qabd, qabe, qaau, qaak, qaab, qaap, qaaz, qaaf]
     refine qaaj ?_
     simp -implicitDefEqProofs [qago, qaao, qaan, qaac, qaah, qaad, qaag, qaal, qaam, qaaa, qaay, SOp.run, SX.ev, putd, puts, argS, upds, SOp.touch, SSt.keep, SSt.skip, gets, geth, puth, delh, idOf, SV.cells?, setL, qab0, qab1, sbin, eq0, eq1, eqL, qabz, qabd, qabe, qaau, qaak, qaab, qaap, qaaz, qaaf]
     rw [qabt (by omega) (by omega)]
     refine qabq (qabg [] hm rfl (Nat.zero_le _) (by simp -implicitDefEqProofs [qaai, FrzOk, qaa4, qaaw, qaa2, qaa3, qaaq, qaav, qabb, qaax, qaas, qaa5, qaar, frzS, frzH, frz, frz1, frz0, SlotsM, ObjsM, ObjM, rn, ren, ren1, ren0, gets, geth, qabj, qabs, qaby, qabi, qabc, qabu, qabx, CoL, qaa6, qadp]) (by trivial)) ⟨i + 1, rfl, by omega, ?_, rfl⟩ (by omega)
     intro j s hj hs
     rcases Nat.lt_or_ge j i with e | e
     ·exact h2 j s e hs
     ·obtain rfl : j = i := by omega
      rw [List.getElem?_eq_getElem hi] at hs; cases hs; exact hb
   cases k1 : decide ((20 : Int) < (l[i].e.keys.length : Int))
   ·cases k2 : decide ((20 : Int) < (l[i].e.masks.length : Int))
    ·simp -implicitDefEqProofs [qae0, qaao, qaan, qaac, qaah, qaad, qaag, qaal, qaam, qaaa, qaay, SOp.run, SX.ev, putd, puts, argS, upds, SOp.touch, SSt.keep, SSt.skip, gets, geth, puth, delh, idOf, SV.cells?, setL, qab0, qab1, sbin, eq0, eq1, eqL, qabz, qabd, qabe, qaau, qaak, qaab, qaap, qaaz, qaaf, hi, qacs, qaae, nums, k1, k2]
     refine step _ _ _ ?_
     have e1 : ¬ (l[i].e.keys.length > 20) := by simp at k1; omega
     have e2 : ¬ (l[i].e.masks.length > 20) := by simp at k2; omega
     simp only [bigE, decide_eq_false e1, decide_eq_false e2, Bool.false_or]
     apply Bool.eq_iff_iff.2; simp; omega
    ·simp -implicitDefEqProofs [qae0, qaao, qaan, qaac, qaah, qaad, qaag, qaal, qaam, qaaa, qaay, SOp.run, SX.ev, putd, puts, argS, upds, SOp.touch, SSt.keep, SSt.skip, gets, geth, puth, delh, idOf, SV.cells?, setL, qab0, qab1, sbin, eq0, eq1, eqL, qabz, qabd, qabe, qaau, qaak, qaab, qaap, qaaz, qaaf, hi, qacs, qaae, nums, k1, k2]
     refine step _ _ _ ?_
     have e2 : l[i].e.masks.length > 20 := by simp at k2; omega
     simp [bigE, e2]
   ·simp -implicitDefEqProofs [qae0, qaao, qaan, qaac, qaah, qaad, qaag, qaal, qaam, qaaa, qaay, SOp.run, SX.ev, putd, puts, argS, upds, SOp.touch, SSt.keep, SSt.skip, gets, geth, puth, delh, idOf, SV.cells?, setL, qab0, qab1, sbin, eq0, eq1, eqL, qabz, qabd, qabe, qaau, qaak, qaab, qaap, qaaz, qaaf, hi, qacs, qaae, nums, k1]
    refine step _ _ _ ?_
    have e1 : l[i].e.keys.length > 20 := by simp at k1; omega
    simp [bigE, e1]
  ·have hi : i = l.length := by have : ¬ i < l.length := by simpa using h3
                                omega
   subst hi
   simp -implicitDefEqProofs [qaao, qaan, qaac, qaah, qaad, qaag, qaal, qaam, qaaa, qaay, SOp.run, SX.ev, putd, puts, argS, upds, SOp.touch, SSt.keep, SSt.skip, gets, geth, puth, delh, idOf, SV.cells?, setL, qab0, qab1, sbin, eq0, eq1, eqL, qabz, qabd, qabe, qaau, qaak, qaab, qaap, qaaz, qaaf]
   refine qaa8 (qaaj ?_)
   simp -implicitDefEqProofs [qagn, qaao, qaan, qaac, qaah, qaad, qaag, qaal, qaam, qaaa, qaay, SOp.run, SX.ev, putd, puts, argS, upds, SOp.touch, SSt.keep, SSt.skip, gets, geth, puth, delh, idOf, SV.cells?, setL, qab0, qab1, sbin, eq0, eq1, eqL, qabz, qabd, qabe, qaau, qaak, qaab, qaap, qaaz, qaaf]
   refine qaa7 (fin _ _ _ ?_)
   rw [← hr]
   simp only [bigS, Bool.false_eq, Bool.or_eq_false_iff]
   refine ⟨by simp; omega, List.any_eq_false.2 fun s hs => ?_⟩
   obtain ⟨j, hj⟩ := List.getElem?_of_mem hs
   rw [h2 j s (List.getElem?_eq_some_iff.1 hj).1 hj]; simp
end Go.Proofs.Ytefkifebgeagiaa
namespace Go.Proofs.Ytefkifebgeagiaa
set_option linter.all false
open Go.RowKit
attribute [local simp] qaao qaan qaac qaah qaad qaag qaal qaam qaaa qaay SOp.run SX.ev putd puts argS upds SOp.touch SSt.keep SSt.skip gets geth puth delh idOf SV.cells? setL qab0 qab1 sbin eq0 eq1 eqL qabz qabd qabe qaau qaak qaab qaap qaaz qaaf qaai FrzOk qaa4 qaaw qaa2 qaa3 qaaq qaav qabb qaax qaas qaa5 qaar frzS frzH frz frz1 frz0 SlotsM ObjsM ObjM rn ren ren1 ren0 qabj qabs qaby qabi qabc qabu qabx CoL qaa6 qab4 dels adds idsH qabv
def qagt : List Int → List Int → Int
 | [], [] => 0
 | [], _ :: _ => -1
 | _ :: _, [] => 1
 | x :: xs, y :: ys => if x < y then -1 else if x > y then 1 else qagt xs ys
theorem qaip {xs ys : List Int} {i : Nat} (hx : i < xs.length) (hy : i < ys.length) : qagt (xs.drop i) (ys.drop i) = if xs[i] < ys[i] then -1 else if xs[i] > ys[i] then 1 else qagt (xs.drop (i + 1)) (ys.drop (i + 1)) := by
 rw [List.drop_eq_getElem_cons hx, List.drop_eq_getElem_cons hy]; rfl
theorem qaw5 {xs ys : List Int} {i : Nat} (h1 : i ≤ xs.length) (h2 : i ≤ ys.length) (h : xs.length ≤ i ∨ ys.length ≤ i) : qagt (xs.drop i) (ys.drop i) = if xs.length < ys.length then -1 else if ys.length < xs.length then 1 else 0 := by
 have a : ∀ l : List Int, l.drop i = [] ↔ l.length ≤ i := fun l => List.drop_eq_nil_iff
 cases ha : xs.drop i with
 | nil =>
  have := (a xs).1 ha
  cases hb : ys.drop i with
  | nil => have := (a ys).1 hb; rw [if_neg (by omega), if_neg (by omega)]; rfl
  | cons y l => have : ¬ ys.length ≤ i := fun h => by rw [(a ys).2 h] at hb; cases hb
                rw [if_pos (by omega)]; rfl
 | cons x l =>
  have : ¬ xs.length ≤ i := fun h => by rw [(a xs).2 h] at ha; cases ha
  cases hb : ys.drop i with
  | nil => have := (a ys).1 hb; rw [if_neg (by omega), if_pos (by omega)]; rfl
  | cons y l => have : ¬ ys.length ≤ i := fun h => by rw [(a ys).2 h] at hb; cases hb
                omega
theorem less_s (xs ys : List Int) (hx : xs.length ≤ 1000000) : SCalls Try.prog 59 [nums .u64 xs, nums .u64 ys] [] 0 (.int .i64 (qagt xs ys)) [] := by
 refine qaa0 (N := 46) Try.func59 rfl rfl (by kernel_rfl) qaoa (by simp) ⟨rfl, rfl, trivial⟩ trivial ?_
 rintro X hP hN hm
 have fin : ∀ (r : Int) hp nx, r = qagt xs ys → QFun X (Try.f59).results.toList 0 (.int .i64 (qagt xs ys)) [] .ret ⟨[(4, .int .i64 r)], hp, nx⟩ := fun r hp nx hr => by
  rw [hr]
  exact (qabr (s' := ⟨[(4, .int .i64 (qagt xs ys))], [], 0⟩) (qabg [] hm rfl (Nat.le_refl _) (by simp -implicitDefEqProofs []) trivial) rfl trivial (by simp))
 unfold c_less
 repeat' (first | (with_reducible refine qaa8 ?_) | ((with_reducible refine qaaj ?_); (try rw [hP]); simp -implicitDefEqProofs [*]) | fail)
 refine qabp (qacm (fun s n => ∃ i : Nat, s = ⟨[(0, nums .u64 xs), (1, nums .u64 ys), (5, .int .i64 i)], [], 0⟩ ∧ i ≤ xs.length ∧ i ≤ ys.length ∧ qagt (xs.drop i) (ys.drop i) = qagt xs ys ∧ n = xs.length - i) (qabg [] hm rfl (Nat.le_refl _) (by simp -implicitDefEqProofs [nums]) (by trivial)) ⟨0, rfl, by omega, by omega, by simp, rfl⟩ ?_)
 rintro s n ⟨i, rfl, h1, h2, hl, rfl⟩
 unfold qam8
 repeat' (first | (with_reducible first | refine qaa8 ?_ | refine qaa9 ?_) | ((with_reducible refine qacq ?_ ?_); (focus rfl)) | ((with_reducible first | refine qaaj ?_ | refine qabl (by rw [hP]; exact qadh) ?_); (try rw [hP]); simp -implicitDefEqProofs [nums, *]) | ((with_reducible first | refine qaa1 ?_ | refine qabw ?_); (try simp -implicitDefEqProofs [nums, *])) | ((with_reducible refine qaa7 ?_); (try simp only [qaau, qaab, qaaf])) | ((with_reducible refine qaat rfl (fun h => ?_) (fun h => ?_)) <;> have h' := h <;> (try simp at h') <;> (try subst h')) | ((with_reducible refine qacg (fun h => ?_) (fun h => ?_)) <;> have h' := h <;> (try simp at h') <;> (try subst h') <;> simp -implicitDefEqProofs [nums, *]) | (refine fin _ _ _ ?_) | ((rw [qabt (by omega) (by omega)]; refine qabq (qabg [] hm rfl (Nat.zero_le _) (by simp -implicitDefEqProofs) (by trivial)) ⟨i + 1, rfl, ?_, ?_, ?_, rfl⟩ (by omega))) | fail)
 all_goals try omega
 all_goals try (rw [← hl, qaw5 h1 h2 (by omega)]; (repeat' split) <;> omega)
 all_goals try (rw [← hl, qaip (by omega) (by omega)]; (repeat' split) <;> first | rfl | omega)
 rw [← hl, qaip (i := i) (by omega) (by omega), if_neg (by omega), if_neg (by omega)]
end Go.Proofs.Ytefkifebgeagiaa
namespace Go.Proofs.Ytefkifebgeagiaa
set_option linter.all false
open Go.RowKit
def qabm (k ks wd ms : Int) (id n : Nat) : SObj := .cells 45 [.int .i64 k, .int .i64 ks, .int .i64 wd, .int .i64 ms, .own id n]
def qabn (L : List Entry) : SObj := .row 29 6 (L.map qaae)
def qaci (k ks wd ms : Int) (L : List Entry) : Hp := [(0, qabm k ks wd ms 1 L.length), (1, qabn L)]
theorem qac3 (σ : Nat → Nat) (k : IntKind) (xs : List Int) : ren σ (nums k xs) = nums k xs := rfl
theorem qacv (σ : Nat → Nat) (e : Entry) : (qaae e).map (ren σ) = qaae e := rfl
theorem qab3 (σ : Nat → Nat) (L : List Entry) : (L.map qaae).map (·.map (ren σ)) = L.map qaae := by
 rw [List.map_map]; rfl
theorem qaco (σ : Nat → Nat) (L : List Entry) : List.map ((fun x => List.map (ren σ) x) ∘ qaae) L = L.map qaae := rfl
theorem qac9 (k ks wd ms : Int) (L : List Entry) : LtH 2 (qaci k ks wd ms L) := ⟨by omega, rfl, by omega, qab3 _ L, trivial⟩
def qabk (a b : Nat) (k ks wd ms : Int) (L : List Entry) : Hp := [(a, qabm k ks wd ms b L.length), (b, qabn L)]
theorem qae7 {f : FuncId} {args : List SV} {r : SV} {k ks wd ms : Int} {L : List Entry} (h : SCalls Try.prog f (.ptr 0 0 :: args) (qaci k ks wd ms L) 2 r (qaci k ks wd ms L)) (ha : ∀ σ, args.map (ren σ) = args) (hr : ∀ σ, ren σ r = r) (hk : ok2 r = true)
  (a b q : Nat) (hab : a ≠ b) (haq : a < q) (hbq : b < q) : SCalls Try.prog f (.ptr a 0 :: args) (qabk a b k ks wd ms L) q r (qabk a b k ks wd ms L) := by
 have e0 : sg [a, b] q 0 = a := rfl
 have e1 : sg [a, b] q 1 = b := rfl
 have g0 : geth (qabk a b k ks wd ms L) a = some (qabm k ks wd ms b L.length) := by simp [qabk, geth]
 have g1 : geth (qabk a b k ks wd ms L) b = some (qabn L) := by simp [qabk, geth, hab]
 refine qacj [a, b] h rfl (by simp [hab]) (by simp; omega) ?_ ⟨⟨_, g0, rfl, .refl _⟩, ⟨_, g1, rfl, rfl, ?_⟩, trivial⟩ (by simp [idsH, qaci]) (hr _).symm hk ⟨⟨_, g0, rfl, rfl, rfl⟩, ⟨_, g1, rfl, rfl, ?_, ?_⟩, trivial⟩ (by simp [idsH, qaci]) rfl
 ·show _ = _ :: args.map _
  rw [ha]; rfl
 ·rw [qab3]; exact .refl _
 ·intro x hx
  obtain ⟨e, _, rfl⟩ := List.mem_map.1 hx
  rfl
 ·exact (qab3 _ L).symm
def onesP (k : Int) : Int := if k ≤ 64 then 2 ^ k.toNat - 1 else 0
def mayB (ks : List Int) (ms : List Int) : Bool := (List.range ks.length).all fun i => bits .and .u64 (el ks i) (el ms i) == el ks i
theorem mayB_t {ks ms : List Int} (h : ∀ j, j < ks.length → (bits .and .u64 (el ks j) (el ms j) == el ks j) = true) : mayB ks ms = true :=
 List.all_eq_true.2 fun j hj => h j (List.mem_range.1 hj)
theorem mayB_f {ks ms : List Int} {j : Nat} (hj : j < ks.length) (h : ¬ bits .and .u64 (el ks j) (el ms j) = el ks j) : mayB ks ms = false :=
 List.all_eq_false.2 ⟨j, List.mem_range.2 hj, by simpa using h⟩
def mayC (kind keys width : Int) (e : Entry) : Int :=
 if kind = 1 then (if (e.keys.length : Int) = keys then 0 else 2)
 else if kind = 2 then (if (e.keys.length : Int) = 1 ∧ 1 ≤ width ∧ width ≤ 64 ∧ 0 ≤ e.len ∧ e.len ≤ width ∧ qa4r (el e.keys 0) width = false then (if bits .and .u64 (el e.keys 0) (onesP (width - e.len)) = 0 then 0 else 6) else 6)
 else if kind = 3 then (if (e.keys.length : Int) = keys ∧ (e.masks.length : Int) = keys ∧ 0 ≤ e.prio ∧ e.prio ≤ 1000 then (if mayB e.keys e.masks then 0 else 6) else 6)
 else 0
end Go.Proofs.Ytefkifebgeagiaa
namespace Go.Proofs.Ytefkifebgeagiaa
set_option linter.all false
open Go.RowKit
attribute [local simp] qaao qaan qaac qaah qaad qaag qaal qaam qaaa qaay SOp.run SX.ev putd puts argS upds SOp.touch SSt.keep SSt.skip gets geth puth delh idOf SV.cells? setL qab0 qab1 sbin eq0 eq1 eqL qabz qabd qabe qaau qaak qaab qaap qaaz qaaf qaai FrzOk qaa4 qaaw qaa2 qaa3 qaaq qaav qabb qaax qaas qaa5 qaar frzS frzH frz frz1 frz0 SlotsM ObjsM ObjM rn ren ren1 ren0 qabj qabs qaby qabi qabc qabu qabx CoL qaa6 qab4 dels adds idsH qabv qab3 qaco qac3
theorem may_s (k ks wd ms : Int) (L : List Entry) (e : Entry) (hs : qab7 e) : SCalls Try.prog 41 [.ptr 0 0, .agg (qaae e)] (qaci k ks wd ms L) 2 (.int .i64 (mayC k ks wd e)) (qaci k ks wd ms L) := by
 refine qaa0 (N := 136) Try.func41 rfl rfl (by kernel_rfl) qar4 (by simp) ⟨rfl, rfl, trivial⟩ (qac9 _ _ _ _ _) ?_
 rintro X hP hN hm
 have fin : ∀ (r : Int) hp nx, r = mayC k ks wd e → QFun X (Try.f41).results.toList 2 (.int .i64 (mayC k ks wd e)) (qaci k ks wd ms L) .ret ⟨[(4, .int .i64 r)], (0, qabm k ks wd ms 1 L.length) :: (1, qabn L) :: hp, nx⟩ := fun r hp nx hr => by
  rw [hr]
  exact (qabr (s' := ⟨[(4, .int .i64 (mayC k ks wd e))], qaci k ks wd ms L, 2⟩) (qabg [(0, 0), (1, 1)] hm rfl (Nat.le_refl _) (by simp -implicitDefEqProofs []) (by simp -implicitDefEqProofs [qaci, qabm, qabn])) rfl ⟨rfl, rfl, trivial⟩ (by simp))
 simp only [qabm, qabn] at fin
 have hk1 : (e.keys.length : Int) = 1 → e.keys[0]? = some (el e.keys 0) := fun h => by
  have : 0 < e.keys.length := by omega
  simp [el, this]
 have hwr : 0 ≤ e.len → e.len ≤ wd → wd ≤ 64 → IntKind.i64.wrap (wd - e.len) = wd - e.len := fun a b c => IntWalk.i64_in _ ⟨by omega, by omega⟩
 obtain ⟨hs1, hs2, hs3⟩ := hs
 unfold c_may qaci qabm qabn
 repeat' (first | (with_reducible first | refine qaa8 ?_ | refine qaa9 ?_) | ((with_reducible refine qacq ?_ ?_); (focus rfl)) | ((with_reducible first | refine qaaj ?_ | refine qabl (by rw [hP]; exact qadh) ?_); (try rw [hP]); simp -implicitDefEqProofs [qaae, nums, *]) | ((with_reducible refine qaa1 ?_); (try simp -implicitDefEqProofs [qaae, nums, *])) | ((with_reducible refine qaa7 ?_); (try simp only [qaau, qaab, qaaf])) | ((with_reducible refine qaat rfl (fun h => ?_) (fun h => ?_)) <;> have h' := h <;> (try simp at h') <;> (try subst h')) | ((with_reducible refine qacg (fun h => ?_) (fun h => ?_)) <;> have h' := h <;> (try simp at h') <;> (try subst h') <;> simp -implicitDefEqProofs [qaae, nums, *]) | ((first | refine qab2 (qabo (qa2i _ _) (fun σ => rfl) (fun σ => rfl) rfl _) ?_ | refine qab2 (qabo (qa2v _) (fun σ => rfl) (fun σ => rfl) rfl _) ?_); simp -implicitDefEqProofs [qaae, nums, *]) | (refine fin _ _ _ ?_) | fail)
 all_goals try (unfold mayC; (repeat' split) <;> first | rfl | omega | (simp_all [onesP]; done))
 case refine_2.refine_2.refine_1.refine_2.refine_2.refine_2.refine_2 =>
  refine qabp (qacm (fun s n => ∃ i : Nat, s = ⟨[(0, .ptr 0 0), (3, .ptr 2 0), (6, .int .i64 i)], [(0, qabm 3 e.keys.length wd ms 1 L.length), (1, qabn L), (2, .cells 29 (qaae e))], 3⟩ ∧ i ≤ e.keys.length ∧ (∀ j, j < i → (bits .and .u64 (el e.keys j) (el e.masks j) == el e.keys j) = true) ∧ n = e.keys.length - i) (qabg [(0, 0), (1, 1), (2, 2)] hm rfl (by simp) (by simp -implicitDefEqProofs) (by simp -implicitDefEqProofs [qabm, qabn, qaae, nums])) ⟨0, rfl, by omega, by omega, rfl⟩ ?_)
  rintro s n ⟨i, rfl, h1, h2, rfl⟩
  have hl : e.masks.length = e.keys.length := by omega
  have g1 : i < e.keys.length → e.keys[i]? = some (el e.keys i) := fun h => by simp [el, h]
  have g2 : i < e.keys.length → e.masks[i]? = some (el e.masks i) := fun h => by have := hl ▸ h; simp [el, this]
  unfold qau0
  repeat' (first | (with_reducible first | refine qaa8 ?_ | refine qaa9 ?_) | ((with_reducible refine qacq ?_ ?_); (focus rfl)) | ((with_reducible first | refine qaaj ?_ | refine qabl (by rw [hP]; exact qadh) ?_); (try rw [hP]); simp -implicitDefEqProofs [qaae, nums, qabm, qabn, *]) | ((with_reducible first | refine qaa1 ?_ | refine qabw ?_); (try simp -implicitDefEqProofs [qaae, nums, qabm, qabn, *])) | ((with_reducible refine qaa7 ?_); (try simp only [qaau, qaab, qaaf])) | ((with_reducible refine qaat rfl (fun h => ?_) (fun h => ?_)) <;> have h' := h <;> (try simp at h') <;> (try subst h')) | (refine fin _ _ _ ?_) | ((rw [qabt (by omega) (by omega)]; refine qabq (qabg [(0, 0), (1, 1), (2, 2)] hm rfl (by simp) (by simp -implicitDefEqProofs) (by simp -implicitDefEqProofs [qabm, qabn, qaae, nums])) ⟨i + 1, rfl, ?_, ?_, rfl⟩ (by omega))) | fail)
  ·have hf := mayB_f (ks := e.keys) (ms := e.masks) ‹i < e.keys.length› (by rw [qaer _ _ ‹_›, qaer _ _ (by omega)]; assumption)
   unfold mayC; simp [hf]
  ·omega
  ·intro j hj
   rcases Nat.lt_or_ge j i with h4 | h4
   ·simpa using h2 j h4
   ·obtain rfl : j = i := by omega
    rw [qaer _ _ ‹_›, qaer _ _ (by omega)]; simpa using h'
  ·have ht := mayB_t (ks := e.keys) (ms := e.masks) fun j hj => h2 j (by omega)
   unfold mayC
   rw [if_neg (by omega), if_neg (by omega), if_pos rfl, if_pos (by omega), if_pos ht]
end Go.Proofs.Ytefkifebgeagiaa
namespace Go.Proofs.Ytefkifebgeagiaa
set_option linter.all false
open Go.RowKit
attribute [local simp] qaao qaan qaac qaah qaad qaag qaal qaam qaaa qaay SOp.run SX.ev putd puts argS upds SOp.touch SSt.keep SSt.skip gets geth puth delh idOf SV.cells? setL qab0 qab1 sbin eq0 eq1 eqL qabz qabd qabe qaau qaak qaab qaap qaaz qaaf qaai FrzOk qaa4 qaaw qaa2 qaa3 qaaq qaav qabb qaax qaas qaa5 qaar frzS frzH frz frz1 frz0 SlotsM ObjsM ObjM rn ren ren1 ren0 qabj qabs qaby qabi qabc qabu qabx CoL qaa6 qab4 dels adds idsH qabv qab3 qaco qac3
def oneB (kind : Int) (a b : Entry) : Bool := !((kind == 3 && (a.prio != b.prio || !decide (a.masks = b.masks))) || (kind == 2 && a.len != b.len)) && decide (a.keys = b.keys)
theorem one_s (k ks wd ms : Int) (L : List Entry) (a b : Entry) (hs : qab7 a) : SCalls Try.prog 58 [.ptr 0 0, .agg (qaae a), .agg (qaae b)] (qaci k ks wd ms L) 2 (.bool (oneB k a b)) (qaci k ks wd ms L) := by
 refine qaa0 (N := 46) Try.func58 rfl rfl (by kernel_rfl) qan2 (by simp) ⟨rfl, rfl, rfl, trivial⟩ (qac9 _ _ _ _ _) ?_
 rintro X hP hN hm
 obtain ⟨hs1, hs2, hs3⟩ := hs
 have fin : ∀ (r : Bool) hp nx, r = oneB k a b → QFun X (Try.f58).results.toList 2 (.bool (oneB k a b)) (qaci k ks wd ms L) .ret ⟨[(6, .bool r)], (0, qabm k ks wd ms 1 L.length) :: (1, qabn L) :: hp, nx⟩ := fun r hp nx hr => by
  rw [hr]
  exact (qabr (s' := ⟨[(6, .bool (oneB k a b))], qaci k ks wd ms L, 2⟩) (qabg [(0, 0), (1, 1)] hm rfl (Nat.le_refl _) (by simp -implicitDefEqProofs []) (by simp -implicitDefEqProofs [qaci, qabm, qabn])) rfl ⟨rfl, rfl, trivial⟩ (by simp))
 simp only [qabm, qabn] at fin
 unfold c_rone qaci qabm qabn
 repeat' (first | (with_reducible refine qaa8 ?_) | ((with_reducible refine qaaj ?_); (try rw [hP]); simp -implicitDefEqProofs [qaae, nums, *]) | ((with_reducible refine qaa1 ?_); (try simp -implicitDefEqProofs [qaae, nums, *])) | ((with_reducible refine qaa7 ?_); (try simp only [qaau, qaab, qaaf])) | ((with_reducible refine qaat rfl (fun h => ?_) (fun h => ?_)) <;> have h' := h <;> (try simp at h') <;> (try subst h')) | ((with_reducible refine qacg (fun h => ?_) (fun h => ?_)) <;> have h' := h <;> (try simp at h') <;> (try subst h') <;> simp -implicitDefEqProofs [qaae, nums, *]) | (refine qab2 (qadj _ _ (by assumption) _) ?_; simp -implicitDefEqProofs [qaae, nums, *]) | (refine fin _ _ _ ?_) | fail)
 all_goals try (unfold oneB; simp_all; done)
def atN (kind : Int) (L : List Entry) (e : Entry) : Nat := qadi (fun i => match L[i]? with | some a => oneB kind a e | none => false) L.length
def atI (kind : Int) (L : List Entry) (e : Entry) : Int := if atN kind L e < L.length then atN kind L e else -1
theorem qaeq {α : Type} {L : List α} {i : Nat} {P : α → Prop} (hi : i < L.length) (h : ∀ j a, j < i → L[j]? = some a → P a) (hb : P L[i]) : ∀ j a, j < i + 1 → L[j]? = some a → P a := by
 intro j a hj ha
 rcases Nat.lt_or_ge j i with h4 | h4
 ·exact h j a h4 ha
 ·obtain rfl : j = i := by omega
  rw [List.getElem?_eq_getElem hi] at ha; cases ha; exact hb
theorem atI_yes {k : Int} {L : List Entry} {e : Entry} {i : Nat} (hi : i < L.length) (h : ∀ j a, j < i → L[j]? = some a → oneB k a e = false) (hb : oneB k L[i] e = true) : atI k L e = i := by
 have : atN k L e = i := qaxb _ _ _ (fun j hj => by
  simp only [List.getElem?_eq_getElem (Nat.lt_trans hj hi)]
  exact h j _ hj (List.getElem?_eq_getElem _)) (by simp only [List.getElem?_eq_getElem hi]; exact hb) hi
 unfold atI; rw [this, if_pos hi]
theorem atI_no {k : Int} {L : List Entry} {e : Entry} (h : ∀ j a, j < L.length → L[j]? = some a → oneB k a e = false) : atI k L e = -1 := by
 have : atN k L e = L.length := qanr _ _ (fun j hj => by
  simp only [List.getElem?_eq_getElem hj]
  exact h j _ hj (List.getElem?_eq_getElem _))
 unfold atI; rw [this, if_neg (by omega)]
theorem at_s (k ks wd ms : Int) (L : List Entry) (e : Entry) (hs : ∀ a ∈ L, qab7 a) (hL : L.length ≤ 1000000) : SCalls Try.prog 42 [.ptr 0 0, .agg (qaae e)] (qaci k ks wd ms L) 2 (.int .i64 (atI k L e)) (qaci k ks wd ms L) := by
 refine qaa0 (N := 26) Try.func42 rfl rfl (by kernel_rfl) qar2 (by simp) ⟨rfl, rfl, trivial⟩ (qac9 _ _ _ _ _) ?_
 rintro X hP hN hm
 have fin : ∀ (r : Int) hp nx, r = atI k L e → QFun X (Try.f42).results.toList 2 (.int .i64 (atI k L e)) (qaci k ks wd ms L) .ret ⟨[(4, .int .i64 r)], (0, qabm k ks wd ms 1 L.length) :: (1, qabn L) :: hp, nx⟩ := fun r hp nx hr => by
  rw [hr]
  exact (qabr (s' := ⟨[(4, .int .i64 (atI k L e))], qaci k ks wd ms L, 2⟩) (qabg [(0, 0), (1, 1)] hm rfl (Nat.le_refl _) (by simp -implicitDefEqProofs []) (by simp -implicitDefEqProofs [qaci, qabm, qabn])) rfl ⟨rfl, rfl, trivial⟩ (by simp))
 simp only [qabm, qabn] at fin
 unfold c_rat qaci qabm qabn
 repeat' (first | (with_reducible refine qaa8 ?_) | ((with_reducible refine qaaj ?_); (try rw [hP]); simp -implicitDefEqProofs [qaae, nums, *]) | fail)
 refine qabp (qacm (fun s n => ∃ i : Nat, s = ⟨[(0, .ptr 0 0), (3, .ptr 2 0), (5, .int .i64 i)], [(0, qabm k ks wd ms 1 L.length), (1, qabn L), (2, .cells 29 (qaae e))], 3⟩ ∧ i ≤ L.length ∧ (∀ j a, j < i → L[j]? = some a → oneB k a e = false) ∧ n = L.length - i) (qabg [(0, 0), (1, 1), (2, 2)] hm rfl (by simp) (by simp -implicitDefEqProofs) (by simp -implicitDefEqProofs [qabm, qabn, qaae, nums])) ⟨0, rfl, by omega, by intro j a hj; omega, rfl⟩ ?_)
 rintro s n ⟨i, rfl, h1, h2, rfl⟩
 unfold qaug
 repeat' (first | (with_reducible first | refine qaa8 ?_ | refine qaa9 ?_) | ((with_reducible refine qacq ?_ ?_); (focus rfl)) | ((with_reducible first | refine qaaj ?_ | refine qabl (by rw [hP]; exact qadh) ?_); (try rw [hP]); simp -implicitDefEqProofs [qaae, nums, qabm, qabn, qabk, *]) | ((with_reducible first | refine qaa1 ?_ | refine qabw ?_); (try simp -implicitDefEqProofs [qaae, nums, qabm, qabn, qabk, *])) | ((with_reducible refine qaa7 ?_); (try simp only [qaau, qaab, qaaf])) | ((with_reducible refine qaat rfl (fun h => ?_) (fun h => ?_)) <;> have h' := h <;> (try simp at h') <;> (try subst h')) | (refine qaep (qae7 (one_s k ks wd ms L _ _ (hs _ (by simp))) (fun σ => rfl) (fun σ => rfl) rfl 0 1 _ (by decide) (by simp) (by simp)) ⟨rfl, rfl, trivial⟩ ⟨rfl, rfl, trivial⟩ ?_; simp -implicitDefEqProofs [qaae, nums, qabm, qabn, qabk, *]) | (refine fin _ _ _ ?_) | ((rw [qabt (by omega) (by omega)]; refine qabq (qabg [(0, 0), (1, 1), (2, 2)] hm rfl (by simp) (by simp -implicitDefEqProofs) (by simp -implicitDefEqProofs [qabm, qabn, qaae, nums])) ⟨i + 1, rfl, ?_, ?_, rfl⟩ (by omega))) | fail)
 ·exact (atI_yes ‹_› h2 h).symm
 ·omega
 ·exact qaeq ‹_› h2 h
 ·exact (atI_no fun j a hj ha => h2 j a (by omega) ha).symm
end Go.Proofs.Ytefkifebgeagiaa
namespace Go.Proofs.Ytefkifebgeagiaa
set_option linter.all false
open Go.RowKit
attribute [local simp] qaao qaan qaac qaah qaad qaag qaal qaam qaaa qaay SOp.run SX.ev putd puts argS upds SOp.touch SSt.keep SSt.skip gets geth puth delh idOf SV.cells? setL qab0 qab1 sbin eq0 eq1 eqL qabz qabd qabe qaau qaak qaab qaap qaaz qaaf qaai FrzOk qaa4 qaaw qaa2 qaa3 qaaq qaav qabb qaax qaas qaa5 qaar frzS frzH frz frz1 frz0 SlotsM ObjsM ObjM rn ren ren1 ren0 qabj qabs qaby qabi qabc qabu qabx CoL qaa6 qab4 dels adds idsH qabv qab3 qaco qac3
def qaka (kind : Int) (e : Entry) : Entry := ⟨e.keys, if kind = 3 then e.masks else [], if kind = 2 then e.len else 0, if kind = 3 then e.prio else 0, e.act, e.args⟩
theorem qals (e : Entry) (h : qab7 e) (q : Nat) : SCalls Try.prog 40 [.agg (qaae e)] [] q (.agg (qaae e)) [] := qabo (own_s e h) (fun σ => rfl) (fun σ => rfl) rfl q
theorem kept_s (k ks wd ms : Int) (L : List Entry) (e : Entry) (hs : qab7 e) : SCalls Try.prog 43 [.ptr 0 0, .agg (qaae e)] (qaci k ks wd ms L) 2 (.agg (qaae (qaka k e))) (qaci k ks wd ms L) := by
 refine qaa0 (N := 21) Try.func43 rfl rfl (by kernel_rfl) qaob (by simp) ⟨rfl, rfl, trivial⟩ (qac9 _ _ _ _ _) ?_
 rintro X hP hN hm
 have fin : ∀ x cs nx, CoL cs (qaae (qaka k e)) → QFun X (Try.f43).results.toList 2 (.agg (qaae (qaka k e))) (qaci k ks wd ms L) .ret ⟨[(4, .ptr 3 0)], [(0, qabm k ks wd ms 1 L.length), (1, qabn L), (2, x), (3, .cells 29 cs)], nx⟩ := fun x cs nx hc =>
  qabr (s' := ⟨[(4, .ptr 3 0)], [(0, qabm k ks wd ms 1 L.length), (1, qabn L), (3, .cells 29 (qaae (qaka k e)))], 4⟩) (qabg [(0, 0), (1, 1), (3, 3)] hm rfl (by simp) (by simp -implicitDefEqProofs) (by simp -implicitDefEqProofs [qabm, qabn]; exact hc)) (by simp -implicitDefEqProofs [hP, qagq, resL, resV, qaf1, qaet, one_, qaae, nums]) ⟨rfl, rfl, trivial⟩ (by simp)
 unfold c_kept qaci qabm qabn
 repeat' (first | (with_reducible refine qaa8 ?_) | ((with_reducible refine qaaj ?_); (try rw [hP]); simp -implicitDefEqProofs [qaae, nums, *]) | ((with_reducible refine qaa1 ?_); (try simp -implicitDefEqProofs [qaae, nums, *])) | ((with_reducible refine qaa7 ?_); (try simp only [qaau, qaab, qaaf])) | ((with_reducible refine qaat rfl (fun h => ?_) (fun h => ?_)) <;> have h' := h <;> (try simp at h') <;> (try subst h')) | (refine qab2 (qals _ hs _) ?_; simp -implicitDefEqProofs [qaae, nums, *]) | (refine fin _ _ _ ?_) | fail)
 all_goals (simp -implicitDefEqProofs [qaae, nums, qaka, *])
end Go.Proofs.Ytefkifebgeagiaa
