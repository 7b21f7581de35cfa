/-
  Texts joined: XCodC XCodD XCodE XCpln XPlnC XPlnD XPlnE XCodF XCodG XCodK XBv XPlnF. No condition.
-/
import Derived.Test.YtbefmmajjfijnaaProg
import Derived.ProofKit
import Derived.Test.YtbefmmajjfijnaaRows
import Derived.Deep.QuietTactic
import Derived.BigQuiet
import Derived.WalkSmall
import Derived.Handy
import Derived.WalkSpells
import Derived.RegionTactic
import Derived.BigRegion
import Derived.Deep.RegionLaw
import Derived.Test.YtbefmmajjfijnaaCodecTornK3
namespace Go.Proofs.Ytbefmmajjfijnaa
set_option linter.all false
open Go.RowKit
attribute [local simp] qabl qabk qaav qaa9 qaaw qaa8 qabi qabj qaaq qab6 SOp.run SX.ev putd puts argS upds SOp.touch SSt.keep SSt.skip gets geth puth delh idOf SV.cells? setL qaeb qaec sbin eq0 eq1 eqL qadx qac0 qac1 qaa3 qabm qaai qabn qab7 qaao qaan FrzOk qabc qaay qaba qabb qaar qaax qabo qaaz qaat qabd qaas frzS frzH frz frz1 frz0 SlotsM ObjsM ObjM rn ren ren1 ren0 qaca qacx qacs qab9 qabp qac3 qac2 CoL qabe qaby dels adds idsH qabu
attribute [local simp] nums refc qagg qag3 qade opc actc tabc qagu qach
variable {bs : List Int}
theorem qah5 {l : List Int} {id q : Nat} (hl : (bs ++ qaem l).length ≤ wMax) (hq : id < q) :
  SCalls Try.prog 30 [.ptr id 0, .view 1 (l.map fun x => [.int .i64 x])] [(id, .abs (wA bs))] q (.tup []) [(id, .abs (wA (bs ++ qaem l)))] := w_at (wints_s hl) (fun _ => rfl) hq
theorem qaru {a b : Int} {id q : Nat} (hl : (bs ++ refB ⟨a, b⟩).length ≤ wMax) (hq : id < q) :
  SCalls Try.prog 58 [.ptr id 0, .agg [.int .i64 a, .int .i64 b]] [(id, .abs (wA bs))] q (.tup []) [(id, .abs (wA (bs ++ refB ⟨a, b⟩)))] := w_at (wref_s (r := ⟨a, b⟩) hl) (fun _ => rfl) hq
def qaj8 (p : PushD) : List Int := qaa7 [p.op] ++ (if p.op = 1 then qadv [p.n] else if p.op = 2 then refB p.r else [])
def qah4 (l : List PushD) : List Int := qaa7 [(l.length : Int)] ++ l.flatMap qaj8
def OkT (l : List PushD) : Prop := ∀ p ∈ l, 0 ≤ p.n ∧ p.n < 18446744073709551616
theorem qaht (x : Int) : 1 ≤ (qaa7 [x]).length := qahs [x]
theorem qax4 (p : PushD) : 1 ≤ (qaj8 p).length := by
 have := qaht p.op
 unfold qaj8; rw [List.length_append]; omega
theorem qaev {α : Type} {f : α → List Int} (h : ∀ x, 1 ≤ (f x).length) : ∀ l : List α, l.length ≤ (l.flatMap f).length
 | [] => by simp
 | x :: l => by
  have := qaev h l
  have := h x
  rw [List.flatMap_cons, List.length_append, List.length_cons]; omega
set_option maxHeartbeats 4000000 in
theorem wtree_s {l : List PushD} (hk : OkT l) (hl : (bs ++ qah4 l).length ≤ wMax) :
  SCalls Try.prog 59 [.ptr 0 0, qach l] [(0, .abs (wA bs))] 1 (.tup []) [(0, .abs (wA (bs ++ qah4 l)))] := by
 refine qaau (N := 38) Try.func59 rfl rfl (by kernel_rfl) qakq (by simp) (by repeat' (first | exact trivial | refine And.intro ?_ ?_ | rfl | decide | exact PureR.ren _)) (by repeat' (first | exact trivial | refine And.intro ?_ ?_ | rfl | decide | exact PureR.ren _)) ?_
 rintro X hP hN hm
 unfold c_wtree
 obtain ⟨F, hF⟩ : ∃ F, F = bs ++ qah4 l := ⟨_, rfl⟩
 rw [← hF] at hl ⊢
 have hF2 : F = (bs ++ qaa7 [(l.length : Int)]) ++ l.flatMap qaj8 := by rw [hF, qah4, List.append_assoc]
 have hul : l.length ≤ 9223372036854775807 := by
  have h1 := qaev qax4 l
  rw [hF2, List.length_append] at hl
  unfold wMax at hl; omega
 have L0 : (bs ++ qaa7 [(l.length : Int)]).length ≤ wMax := by rw [hF2, List.length_append] at hl; omega
 replace hl := Lib.hid hl
 replace hF2 := Lib.hid hF2
 replace L0 := Lib.hid L0
 clear hF
 repeat' (first | (with_reducible refine zA ?_) | ((with_reducible refine qaad ?_); (try rw [hP]); simp -implicitDefEqProofs [*]) | (refine qaal (qac6 L0.out (by simp) (by simp)) ⟨rfl, rfl, trivial⟩ ⟨rfl, rfl, trivial⟩ ?_; simp -implicitDefEqProofs [*]) | fail)
 refine qaaj (qaa5 (fun s (z : Nat × List Int) => s.turn [(13, .int .i64 z.1)] [(0, .abs (wA z.2))]) (fun z => z.1 ≤ l.length ∧ F = z.2 ++ (l.drop z.1).flatMap qaj8) (fun z => l.length - z.1) (0, bs ++ qaa7 [(l.length : Int)]) ?_ ⟨by simp, hF2.out⟩ ?_)
 ·repeat' (first | ((with_reducible refine qaag [] hm ?_ ?_ ?_ ?_) <;> (try simp only [zT, puth, Nat.reduceEqDiff, reduceIte, Nat.reduceAdd])) | (with_reducible first | refine za ?_ ?_ | refine zd ?_ ?_ ?_ ?_ | refine qaa0 ?_ ?_) | (with_reducible first | exact qaaa | exact qaac) | ((with_reducible first | refine zga ?_ | refine zgb ?_); rfl) | ((with_reducible refine zgd ?_); (first | omega | (simp; done))) | (exact Co.refl _) | (exact CoLL.refl _) | fail)
 rintro J hJ ⟨i, cur⟩ ⟨h1, h2⟩
 unfold qai2
 simp only [zT, puth, Nat.reduceEqDiff, reduceIte, Nat.reduceAdd] at h1 h2 ⊢
 clear hF2
 rcases Nat.lt_or_ge i l.length with hi | hi
 ·rw [List.drop_eq_getElem_cons hi, List.flatMap_cons] at h2
  have hx := hk _ (List.getElem_mem hi)
  generalize hxx : l[i] = p at h2 hx
  have wi : IntKind.i64.wrap ((i : Int) + 1) = (i : Int) + 1 := qaap (by omega) (by omega)
  have L : cur.length + (qaj8 p).length ≤ wMax := by
   have h3 := hl.out
   rw [h2, List.length_append, List.length_append] at h3; omega
  rw [← List.append_assoc] at h2
  clear hk
  unfold qaj8 at L
  rw [List.length_append] at L
  have L1 : (cur ++ qaa7 [p.op]).length ≤ wMax := by rw [List.length_append]; omega
  by_cases e1 : p.op = 1
  ·rw [if_pos e1] at L
   have hB : qaj8 p = qaa7 [p.op] ++ qadv [p.n] := by unfold qaj8; rw [if_pos e1]
   rw [hB] at h2
   have L2 : ((cur ++ qaa7 [p.op]) ++ qadv [p.n]).length ≤ wMax := by simp only [List.length_append]; omega
   have k1 : (p.op == 1) = true := by simp [e1]
   replace h2 := Lib.hid h2
   replace L1 := Lib.hid L1
   replace L2 := Lib.hid L2
   replace hx := Lib.hid hx
   clear L hB e1
   repeat' (first | (with_reducible first | refine zA ?_ | refine qaae ?_) | ((with_reducible refine qaad ?_); (try rw [hP]); simp -implicitDefEqProofs [*]) | ((with_reducible refine qaaf ?_); (try simp -implicitDefEqProofs [*])) | ((with_reducible refine qaab rfl (fun h => ?_) (fun h => ?_)) <;> have h' := h <;> (try simp at h') <;> (try subst h')) | ((first | refine qaal (qac6 L1.out (by simp) (by simp)) ⟨rfl, rfl, trivial⟩ ⟨rfl, rfl, trivial⟩ ?_ | refine qaal (wnum_1 hx.out L2.out (by simp) (by simp)) ⟨rfl, rfl, trivial⟩ ⟨rfl, rfl, trivial⟩ ?_); simp -implicitDefEqProofs [*]) | (with_reducible first | refine za ?_ ?_ | refine zd ?_ ?_ ?_ ?_ | refine qaa0 ?_ ?_) | (with_reducible first | exact qaaa | exact qaac) | ((with_reducible first | refine zga ?_ | refine zgb ?_); rfl) | ((with_reducible first | refine zgd ?_ | refine zge ?_); (first | omega | (simp; done))) | (exact Co.refl _) | (exact CoLL.refl _) | ((refine qaah hJ (i + 1, ?_) ?_ ?_ ?_; rotate_left 1; (with_reducible refine qaag [] hm ?_ ?_ ?_ ?_) <;> (try simp only [zT, puth, Nat.reduceEqDiff, reduceIte, Nat.reduceAdd]))) | fail)
   all_goals exact ⟨hi, h2.out⟩
  ·have k1 : (p.op == 1) = false := by simp [e1]
   rw [if_neg e1] at L
   by_cases e2 : p.op = 2
   ·rw [if_pos e2] at L
    have hB : qaj8 p = qaa7 [p.op] ++ refB p.r := by unfold qaj8; rw [if_neg e1, if_pos e2]
    rw [hB] at h2
    have L2 : ((cur ++ qaa7 [p.op]) ++ refB ⟨p.r.h, p.r.f⟩).length ≤ wMax := by rw [show (⟨p.r.h, p.r.f⟩ : RefD) = p.r from rfl]; simp only [List.length_append]; omega
    have k2 : (p.op == 2) = true := by simp [e2]
    replace h2 := Lib.hid h2
    replace L1 := Lib.hid L1
    replace L2 := Lib.hid L2
    clear L hB e1 e2
    repeat' (first | (with_reducible first | refine zA ?_ | refine qaae ?_) | ((with_reducible refine qaad ?_); (try rw [hP]); simp -implicitDefEqProofs [*]) | ((with_reducible refine qaaf ?_); (try simp -implicitDefEqProofs [*])) | ((with_reducible refine qaab rfl (fun h => ?_) (fun h => ?_)) <;> have h' := h <;> (try simp at h') <;> (try subst h')) | ((first | refine qaal (qac6 L1.out (by simp) (by simp)) ⟨rfl, rfl, trivial⟩ ⟨rfl, rfl, trivial⟩ ?_ | refine qaal (qaru L2.out (by simp)) ⟨rfl, trivial⟩ ⟨rfl, trivial⟩ ?_); simp -implicitDefEqProofs [*]) | (with_reducible first | refine za ?_ ?_ | refine zd ?_ ?_ ?_ ?_ | refine qaa0 ?_ ?_) | (with_reducible first | exact qaaa | exact qaac) | ((with_reducible first | refine zga ?_ | refine zgb ?_); rfl) | ((with_reducible first | refine zgd ?_ | refine zge ?_); (first | omega | (simp; done))) | (exact Co.refl _) | (exact CoLL.refl _) | ((refine qaah hJ (i + 1, ?_) ?_ ?_ ?_; rotate_left 1; (with_reducible refine qaag [] hm ?_ ?_ ?_ ?_) <;> (try simp only [zT, puth, Nat.reduceEqDiff, reduceIte, Nat.reduceAdd]))) | fail)
    all_goals exact ⟨hi, h2.out⟩
   ·have k2 : (p.op == 2) = false := by simp [e2]
    have hB : qaj8 p = qaa7 [p.op] := by unfold qaj8; rw [if_neg e1, if_neg e2, List.append_nil]
    rw [hB] at h2
    replace h2 := Lib.hid h2
    replace L1 := Lib.hid L1
    clear L hB e1 e2
    repeat' (first | (with_reducible first | refine zA ?_ | refine qaae ?_) | ((with_reducible refine qaad ?_); (try rw [hP]); simp -implicitDefEqProofs [*]) | ((with_reducible refine qaaf ?_); (try simp -implicitDefEqProofs [*])) | ((with_reducible refine qaab rfl (fun h => ?_) (fun h => ?_)) <;> have h' := h <;> (try simp at h') <;> (try subst h')) | (refine qaal (qac6 L1.out (by simp) (by simp)) ⟨rfl, rfl, trivial⟩ ⟨rfl, rfl, trivial⟩ ?_; simp -implicitDefEqProofs [*]) | (with_reducible first | refine za ?_ ?_ | refine zd ?_ ?_ ?_ ?_ | refine qaa0 ?_ ?_) | (with_reducible first | exact qaaa | exact qaac) | ((with_reducible first | refine zga ?_ | refine zgb ?_); rfl) | ((with_reducible first | refine zgd ?_ | refine zge ?_); (first | omega | (simp; done))) | (exact Co.refl _) | (exact CoLL.refl _) | ((refine qaah hJ (i + 1, ?_) ?_ ?_ ?_; rotate_left 1; (with_reducible refine qaag [] hm ?_ ?_ ?_ ?_) <;> (try simp only [zT, puth, Nat.reduceEqDiff, reduceIte, Nat.reduceAdd]))) | fail)
    all_goals exact ⟨hi, h2.out⟩
 ·obtain rfl : i = l.length := by omega
  rw [List.drop_length, List.flatMap_nil, List.append_nil] at h2
  replace h2 := Lib.hid h2
  repeat' (first | (with_reducible refine zA ?_) | ((with_reducible refine qaad ?_); (try rw [hP]); simp -implicitDefEqProofs [*]) | ((with_reducible refine qaam ?_); (try simp -implicitDefEqProofs [*])) | ((with_reducible refine qaab rfl (fun h => ?_) (fun h => ?_)) <;> have h' := h <;> (try simp at h') <;> (try subst h')) | (exact qagi (.inr rfl) hm (by rw [h2.out]; rfl)) | fail)
theorem qart {l : List PushD} {id q : Nat} (hk : OkT l) (hl : (bs ++ qah4 l).length ≤ wMax) (hq : id < q) :
  SCalls Try.prog 59 [.ptr id 0, .view 4 (l.map qagg)] [(id, .abs (wA bs))] q (.tup []) [(id, .abs (wA (bs ++ qah4 l)))] := w_at (wtree_s hk hl) (fun _ => rfl) hq
def qaxk (c : CaseD) : List Int := qadv [c.value, c.mask] ++ qaa7 [c.to_]
def qae0 (s : StateD) : List Int := qaa7 [s.head, (s.cases_.length : Int)] ++ ((if 0 < s.cases_.length then refB s.on else []) ++ (s.cases_.flatMap qaxk ++ qaa7 [s.els]))
def OkC (s : StateD) : Prop := ∀ c ∈ s.cases_, (0 ≤ c.value ∧ c.value < 18446744073709551616) ∧ 0 ≤ c.mask ∧ c.mask < 18446744073709551616
theorem qay3 (c : CaseD) : 1 ≤ (qaxk c).length := by
 have := qaht c.to_
 unfold qaxk; rw [List.length_append]; omega
set_option maxHeartbeats 4000000 in
theorem qa12 {s : StateD} (hk : OkC s) (hl : (bs ++ qae0 s).length ≤ wMax) :
  SCalls Try.prog 31 [.ptr 0 0, .agg (qade s)] [(0, .abs (wA bs))] 1 (.tup []) [(0, .abs (wA (bs ++ qae0 s)))] := by
 refine qaau (N := 47) Try.func31 rfl rfl (by kernel_rfl) qais (by simp) (by repeat' (first | exact trivial | refine And.intro ?_ ?_ | rfl | decide | exact PureR.ren _)) (by repeat' (first | exact trivial | refine And.intro ?_ ?_ | rfl | decide | exact PureR.ren _)) ?_
 rintro X hP hN hm
 unfold c_wstate
 obtain ⟨F, hF⟩ : ∃ F, F = bs ++ qae0 s := ⟨_, rfl⟩
 rw [← hF] at hl ⊢
 have L0 : F.length = bs.length + (qaa7 [s.head, (s.cases_.length : Int)]).length + (if 0 < s.cases_.length then refB s.on else []).length + (s.cases_.flatMap qaxk).length + (qaa7 [s.els]).length := by
  rw [hF, qae0]; simp only [List.length_append]; omega
 have hul : s.cases_.length ≤ 9223372036854775807 := by
  have h1 := qaev qay3 s.cases_
  unfold wMax at hl; omega
 have L1 : (bs ++ qaa7 [s.head, (s.cases_.length : Int)]).length ≤ wMax := by rw [List.length_append]; omega
 have rest : ∀ A2, A2 = (if 0 < s.cases_.length then refB s.on else []) → SWp X (.seq (.seq (.reg false qad2 [0, 3, 23, 24, 25]) (.block 0 (.loop qae9))) (.reg false qaf7 [])) (QFun X [] 1 (.tup []) [(0, .abs (wA F))])
   ⟨[(0, .ptr 0 0), (3, .ptr 1 0)], [(0, .abs (wA (bs ++ (qaa7 [s.head, (s.cases_.length : Int)] ++ A2)))), (1, .cells 48 (qade s))], 2⟩ := by
  intro A2 hA
  have hF2 : F = (bs ++ (qaa7 [s.head, (s.cases_.length : Int)] ++ A2)) ++ (s.cases_.flatMap qaxk ++ qaa7 [s.els]) := by rw [hF, qae0, ← hA]; simp only [List.append_assoc]
  generalize bs ++ (qaa7 [s.head, (s.cases_.length : Int)] ++ A2) = b2 at hF2 ⊢
  replace hl := Lib.hid hl
  replace hF2 := Lib.hid hF2
  clear hF L0 L1 hA
  repeat' (first | (with_reducible refine zA ?_) | ((with_reducible refine qaad ?_); (try rw [hP]); simp -implicitDefEqProofs [*]) | fail)
  refine qaaj (qaa5 (fun s (z : Nat × List Int) => s.turn [(25, .int .i64 z.1)] [(0, .abs (wA z.2))]) (fun z => z.1 ≤ s.cases_.length ∧ F = z.2 ++ ((s.cases_.drop z.1).flatMap qaxk ++ qaa7 [s.els])) (fun z => s.cases_.length - z.1) (0, b2) ?_ ⟨by simp, hF2.out⟩ ?_)
  ·repeat' (first | ((with_reducible refine qaag [] hm ?_ ?_ ?_ ?_) <;> (try simp only [zT, puth, Nat.reduceEqDiff, reduceIte, Nat.reduceAdd])) | (with_reducible first | refine za ?_ ?_ | refine zb ?_ ?_ ?_ ?_ | refine qaa0 ?_ ?_) | (with_reducible first | exact qaaa | exact qaac) | ((with_reducible first | refine zga ?_ | refine zgb ?_); rfl) | ((with_reducible refine zgd ?_); (first | omega | (simp; done))) | (exact Co.refl _) | (exact CoL.refl _) | fail)
  rintro J hJ ⟨i, cur⟩ ⟨h1, h2⟩
  unfold qae9
  simp only [zT, puth, Nat.reduceEqDiff, reduceIte, Nat.reduceAdd] at h1 h2 ⊢
  clear hF2
  have h3 := hl.out
  rcases Nat.lt_or_ge i s.cases_.length with hi | hi
  ·rw [List.drop_eq_getElem_cons hi, List.flatMap_cons] at h2
   have hx := hk _ (List.getElem_mem hi)
   generalize hxx : s.cases_[i] = c at h2 hx
   have wi : IntKind.i64.wrap ((i : Int) + 1) = (i : Int) + 1 := qaap (by omega) (by omega)
   have hB : F = (cur ++ (qadv [c.value, c.mask] ++ qaa7 [c.to_])) ++ ((s.cases_.drop (i + 1)).flatMap qaxk ++ qaa7 [s.els]) := by rw [h2, qaxk]; simp only [List.append_assoc]
   rw [hB] at h3
   simp only [List.length_append] at h3
   have L2 : (cur ++ qadv [c.value, c.mask]).length ≤ wMax := by rw [List.length_append]; omega
   have L3 : ((cur ++ qadv [c.value, c.mask]) ++ qaa7 [c.to_]).length ≤ wMax := by rw [List.length_append, List.length_append]; omega
   replace hB := Lib.hid hB
   replace L2 := Lib.hid L2
   replace L3 := Lib.hid L3
   replace hx := Lib.hid hx
   clear h2 h3 hk
   repeat' (first | (with_reducible first | refine zA ?_ | refine qaae ?_) | ((with_reducible refine qaad ?_); (try rw [hP]); simp -implicitDefEqProofs [*]) | ((with_reducible refine qaaf ?_); (try simp -implicitDefEqProofs [*])) | ((with_reducible refine qaab rfl (fun h => ?_) (fun h => ?_)) <;> have h' := h <;> (try simp at h') <;> (try subst h')) | ((first | refine qaal (wnum_2 hx.out.1 hx.out.2 L2.out (by simp) (by simp)) ⟨rfl, rfl, trivial⟩ ⟨rfl, rfl, trivial⟩ ?_ | refine qaal (qac6 L3.out (by simp) (by simp)) ⟨rfl, rfl, trivial⟩ ⟨rfl, rfl, trivial⟩ ?_); simp -implicitDefEqProofs [*]) | (with_reducible first | refine za ?_ ?_ | refine zb ?_ ?_ ?_ ?_ | refine qaa0 ?_ ?_) | (with_reducible first | exact qaaa | exact qaac) | ((with_reducible first | refine zga ?_ | refine zgb ?_); rfl) | ((with_reducible first | refine zgd ?_ | refine zge ?_); (first | omega | (simp; done))) | (exact Co.refl _) | (exact CoL.refl _) | ((refine qaah hJ (i + 1, ?_) ?_ ?_ ?_; rotate_left 1; (with_reducible refine qaag [] hm ?_ ?_ ?_ ?_) <;> (try simp only [zT, puth, Nat.reduceEqDiff, reduceIte, Nat.reduceAdd]))) | fail)
   all_goals exact ⟨hi, hB.out⟩
  ·obtain rfl : i = s.cases_.length := by omega
   rw [List.drop_length, List.flatMap_nil, List.nil_append] at h2
   have L2 : (cur ++ qaa7 [s.els]).length ≤ wMax := by rw [← h2]; exact h3
   replace h2 := Lib.hid h2
   replace L2 := Lib.hid L2
   clear h3
   repeat' (first | (with_reducible refine zA ?_) | ((with_reducible refine qaad ?_); (try rw [hP]); simp -implicitDefEqProofs [*]) | ((with_reducible refine qaam ?_); (try simp -implicitDefEqProofs [*])) | ((with_reducible refine qaab rfl (fun h => ?_) (fun h => ?_)) <;> have h' := h <;> (try simp at h') <;> (try subst h')) | (refine qaal (qac6 L2.out (by simp) (by simp)) ⟨rfl, rfl, trivial⟩ ⟨rfl, rfl, trivial⟩ ?_; simp -implicitDefEqProofs [*]) | (exact qagi (.inr rfl) hm (by rw [h2.out]; rfl)) | fail)
 replace rest := Lib.hid rest
 replace hF := Lib.hid hF
 replace L1 := Lib.hid L1
 rcases Nat.eq_zero_or_pos s.cases_.length with h0 | h0
 ·have k1 : decide (0 < s.cases_.length) = false := decide_eq_false (by omega)
  have h1 := rest.out [] (by rw [if_neg (by omega)])
  rw [List.append_nil] at h1
  replace h1 := Lib.hid h1
  replace L0 := Lib.hid L0
  replace hl := Lib.hid hl
  clear rest hk h0
  repeat' (first | ((with_reducible refine qafs (c := .seq (.seq (.reg false qad2 [0, 3, 23, 24, 25]) _) _) ?_)) | (with_reducible refine zA ?_) | ((with_reducible refine qaad ?_); (try rw [hP]); simp -implicitDefEqProofs [*]) | ((with_reducible refine qaaf ?_); (try simp -implicitDefEqProofs [*])) | ((with_reducible refine qaab rfl (fun h => ?_) (fun h => ?_)) <;> have h' := h <;> (try simp at h') <;> (try subst h')) | (refine qaal (qah6 L1.out (by simp) (by simp)) ⟨rfl, rfl, trivial⟩ ⟨rfl, rfl, trivial⟩ ?_; simp -implicitDefEqProofs [*]) | fail)
  constructor
  refine qaep ?_ h1.out
  refine qaag [] hm ?_ ?_ rfl (by simp)
  ·repeat' (first | (with_reducible refine za ?_ ?_) | (with_reducible exact qaaa) | (exact Co.refl _) | fail)
  ·repeat' (first | (with_reducible first | refine zb ?_ ?_ ?_ ?_ | refine qaa0 ?_ ?_) | (with_reducible exact qaac) | ((with_reducible refine zga ?_); rfl) | (exact CoL.refl _) | fail)
 ·have k1 : decide (0 < s.cases_.length) = true := decide_eq_true (by omega)
  rw [if_pos h0] at L0
  have h1 := rest.out (refB s.on) (by rw [if_pos h0])
  have L2 : ((bs ++ qaa7 [s.head, (s.cases_.length : Int)]) ++ refB ⟨s.on.h, s.on.f⟩).length ≤ wMax := by rw [show (⟨s.on.h, s.on.f⟩ : RefD) = s.on from rfl]; simp only [List.length_append]; omega
  replace L0 := Lib.hid L0
  replace L2 := Lib.hid L2
  replace hl := Lib.hid hl
  clear rest hk
  repeat' (first | ((with_reducible refine qafs (c := .seq (.seq (.reg false qad2 [0, 3, 23, 24, 25]) _) _) ?_)) | (with_reducible refine zA ?_) | ((with_reducible refine qaad ?_); (try rw [hP]); simp -implicitDefEqProofs [*]) | ((with_reducible refine qaab rfl (fun h => ?_) (fun h => ?_)) <;> have h' := h <;> (try simp at h') <;> (try subst h')) | ((first | refine qaal (qah6 L1.out (by simp) (by simp)) ⟨rfl, rfl, trivial⟩ ⟨rfl, rfl, trivial⟩ ?_ | refine qaal (qaru L2.out (by simp)) ⟨rfl, trivial⟩ ⟨rfl, trivial⟩ ?_); simp -implicitDefEqProofs [*]) | fail)
  constructor
  refine qaep ?_ h1
  refine qaag [] hm ?_ ?_ rfl (by simp)
  ·repeat' (first | (with_reducible refine za ?_ ?_) | (with_reducible exact qaaa) | (exact Co.refl _) | fail)
  ·repeat' (first | (with_reducible first | refine zb ?_ ?_ ?_ ?_ | refine qaa0 ?_ ?_) | (with_reducible exact qaac) | ((with_reducible refine zga ?_); rfl) | (exact CoL.refl _) | fail)
end Go.Proofs.Ytbefmmajjfijnaa
namespace Go.Proofs.Ytbefmmajjfijnaa
set_option linter.all false
open Go.RowKit
attribute [local simp] qabl qabk qaav qaa9 qaaw qaa8 qabi qabj qaaq qab6 SOp.run SX.ev putd puts argS upds SOp.touch SSt.keep SSt.skip gets geth puth delh idOf SV.cells? setL qaeb qaec sbin eq0 eq1 eqL qadx qac0 qac1 qaa3 qabm qaai qabn qab7 qaao qaan FrzOk qabc qaay qaba qabb qaar qaax qabo qaaz qaat qabd qaas frzS frzH frz frz1 frz0 SlotsM ObjsM ObjM rn ren ren1 ren0 qaca qacx qacs qab9 qabp qac3 qac2 CoL qabe qaby dels adds idsH qabu
attribute [local simp] nums refc qagg qag3 qade opc actc tabc qagu qach
variable {bs : List Int}
theorem wnum_v {l : List Int} {id q : Nat} (hu : ∀ u ∈ l, 0 ≤ u ∧ u < 18446744073709551616) (hl : (bs ++ qadv l).length ≤ wMax) (hq : id < q) :
  SCalls Try.prog 57 [.ptr id 0, .view 1 (l.map fun x => [.int .u64 x])] [(id, .abs (wA bs))] q (.tup []) [(id, .abs (wA (bs ++ qadv l)))] := w_at (qa15 l hu bs _ rfl hl) (fun _ => rfl) hq
def opB (o : OpD) : List Int := qaa7 [o.kind] ++ (if o.kind = 1 then refB o.r ++ qah4 o.e else if o.kind = 2 ∨ o.kind = 3 then qaa7 [o.head] else if o.kind = 5 then qah4 o.e else if o.kind = 6 then refB o.r ++ qaa7 [o.head] else [])
def actB (a : ActD) : List Int := qaem a.w ++ (qaa7 [(a.ops.length : Int)] ++ a.ops.flatMap opB)
theorem opB_pos (o : OpD) : 1 ≤ (opB o).length := by
 have := qaht o.kind
 unfold opB; rw [List.length_append]; omega
def OkA (a : ActD) : Prop := ∀ o ∈ a.ops, OkT o.e
set_option maxHeartbeats 8000000 in
theorem wact_s {a : ActD} (hk : OkA a) (hl : (bs ++ actB a).length ≤ wMax) :
  SCalls Try.prog 32 [.ptr 0 0, .agg (actc a)] [(0, .abs (wA bs))] 1 (.tup []) [(0, .abs (wA (bs ++ actB a)))] := by
 refine qaau (N := 66) Try.func32 rfl rfl (by kernel_rfl) qan8 (by simp) (by repeat' (first | exact trivial | refine And.intro ?_ ?_ | rfl | decide | exact PureR.ren _)) (by repeat' (first | exact trivial | refine And.intro ?_ ?_ | rfl | decide | exact PureR.ren _)) ?_
 rintro X hP hN hm
 unfold c_wact
 obtain ⟨F, hF⟩ : ∃ F, F = bs ++ actB a := ⟨_, rfl⟩
 rw [← hF] at hl ⊢
 have hF2 : F = (bs ++ (qaem a.w ++ qaa7 [(a.ops.length : Int)])) ++ a.ops.flatMap opB := by rw [hF, actB]; simp only [List.append_assoc]
 have L0 := hl
 rw [hF2] at L0
 simp only [List.length_append] at L0
 have hul : a.ops.length ≤ 9223372036854775807 := by
  have h1 := qaev opB_pos a.ops
  unfold wMax at L0; omega
 have L1 : (bs ++ qaem a.w).length ≤ wMax := by rw [List.length_append]; omega
 have L2 : ((bs ++ qaem a.w) ++ qaa7 [(a.ops.length : Int)]).length ≤ wMax := by simp only [List.length_append]; omega
 replace hl := Lib.hid hl
 replace hF2 := Lib.hid hF2
 replace L1 := Lib.hid L1
 replace L2 := Lib.hid L2
 clear hF L0
 repeat' (first | (with_reducible refine zA ?_) | ((with_reducible refine qaad ?_); (try rw [hP]); simp -implicitDefEqProofs [*]) | ((first | refine qaal (qah5 L1.out (by simp)) ⟨rfl, trivial⟩ ⟨rfl, trivial⟩ ?_ | refine qaal (qac6 L2.out (by simp) (by simp)) ⟨rfl, rfl, trivial⟩ ⟨rfl, rfl, trivial⟩ ?_); simp -implicitDefEqProofs [*]) | fail)
 refine qaaj (qaa5 (fun s (z : Nat × List Int) => s.turn [(19, .int .i64 z.1)] [(0, .abs (wA z.2))]) (fun z => z.1 ≤ a.ops.length ∧ F = z.2 ++ (a.ops.drop z.1).flatMap opB) (fun z => a.ops.length - z.1) (0, bs ++ (qaem a.w ++ qaa7 [(a.ops.length : Int)])) ?_ ⟨by simp, hF2.out⟩ ?_)
 ·repeat' (first | ((with_reducible refine qaag [] hm ?_ ?_ ?_ ?_) <;> (try simp only [zT, puth, Nat.reduceEqDiff, reduceIte, Nat.reduceAdd])) | (with_reducible first | refine za ?_ ?_ | refine zb ?_ ?_ ?_ ?_ | refine zd ?_ ?_ ?_ ?_ | refine qaa0 ?_ ?_) | (with_reducible first | exact qaaa | exact qaac) | ((with_reducible first | refine zga ?_ | refine zgb ?_); rfl) | ((with_reducible refine zgd ?_); (first | omega | (simp; done))) | (exact Co.refl _) | (exact CoL.refl _) | (exact CoLL.refl _) | fail)
 rintro J hJ ⟨i, cur⟩ ⟨h1, h2⟩
 unfold qank
 simp only [zT, puth, Nat.reduceEqDiff, reduceIte, Nat.reduceAdd] at h1 h2 ⊢
 clear hF2 L1 L2
 rcases Nat.lt_or_ge i a.ops.length with hi | hi
 ·rw [List.drop_eq_getElem_cons hi, List.flatMap_cons] at h2
  have hx := hk _ (List.getElem_mem hi)
  generalize hxx : a.ops[i] = o at h2 hx
  obtain ⟨kd, ⟨ra, rb⟩, hd, e⟩ := o
  have wi : IntKind.i64.wrap ((i : Int) + 1) = (i : Int) + 1 := qaap (by omega) (by omega)
  have L := hl.out
  rw [h2] at L
  rw [← List.append_assoc] at h2
  clear hk
  replace hx : Hid (OkT e) := Lib.hid hx
  have L1 : (cur ++ qaa7 [kd]).length ≤ wMax := by
   simp only [opB, List.length_append] at L ⊢; omega
  by_cases e1 : kd = 1
  ·subst e1
   rw [show opB ⟨1, ⟨ra, rb⟩, hd, e⟩ = qaa7 [1] ++ (refB ⟨ra, rb⟩ ++ qah4 e) from rfl] at h2 L
   simp only [List.length_append] at L
   have L2 : ((cur ++ qaa7 [1]) ++ refB ⟨ra, rb⟩).length ≤ wMax := by simp only [List.length_append]; omega
   have L3 : ((cur ++ (qaa7 [1] ++ refB ⟨ra, rb⟩)) ++ qah4 e).length ≤ wMax := by simp only [List.length_append]; omega
   replace L1 := Lib.hid L1
   replace h2 := Lib.hid h2
   replace L := Lib.hid L
   replace L2 := Lib.hid L2
   replace L3 := Lib.hid L3
   repeat' (first | (with_reducible first | refine zA ?_ | refine qaae ?_) | ((with_reducible refine qaad ?_); (try rw [hP]); simp -implicitDefEqProofs [*]) | ((with_reducible refine qaaf ?_); (try simp -implicitDefEqProofs [*])) | ((with_reducible refine qaab rfl (fun h => ?_) (fun h => ?_)) <;> have h' := h <;> (try simp at h') <;> (try subst h')) | ((first | refine qaal (qac6 L1.out (by simp) (by simp)) ⟨rfl, rfl, trivial⟩ ⟨rfl, rfl, trivial⟩ ?_ | refine qaal (qaru L2.out (by simp)) ⟨rfl, trivial⟩ ⟨rfl, trivial⟩ ?_ | refine qaal (qart hx.out L3.out (by simp)) ⟨rfl, trivial⟩ ⟨rfl, trivial⟩ ?_); simp -implicitDefEqProofs [*]) | (with_reducible first | refine za ?_ ?_ | refine zb ?_ ?_ ?_ ?_ | refine zd ?_ ?_ ?_ ?_ | refine qaa0 ?_ ?_) | (with_reducible first | exact qaaa | exact qaac) | ((with_reducible first | refine zga ?_ | refine zgb ?_); rfl) | ((with_reducible first | refine zgd ?_ | refine zge ?_); (first | omega | (simp; done))) | (exact Co.refl _) | (exact CoL.refl _) | (exact CoLL.refl _) | ((refine qaah hJ (i + 1, ?_) ?_ ?_ ?_; rotate_left 1; (with_reducible refine qaag [] hm ?_ ?_ ?_ ?_) <;> (try simp only [zT, puth, Nat.reduceEqDiff, reduceIte, Nat.reduceAdd]))) | fail)
   all_goals exact ⟨hi, h2.out⟩
  by_cases e2 : kd = 2
  ·subst e2
   rw [show opB ⟨2, ⟨ra, rb⟩, hd, e⟩ = qaa7 [2] ++ (qaa7 [hd]) from rfl] at h2 L
   simp only [List.length_append] at L
   have L2 : ((cur ++ qaa7 [2]) ++ qaa7 [hd]).length ≤ wMax := by simp only [List.length_append]; omega
   replace L1 := Lib.hid L1
   replace h2 := Lib.hid h2
   replace L := Lib.hid L
   replace L2 := Lib.hid L2
   repeat' (first | (with_reducible first | refine zA ?_ | refine qaae ?_) | ((with_reducible refine qaad ?_); (try rw [hP]); simp -implicitDefEqProofs [*]) | ((with_reducible refine qaaf ?_); (try simp -implicitDefEqProofs [*])) | ((with_reducible refine qaab rfl (fun h => ?_) (fun h => ?_)) <;> have h' := h <;> (try simp at h') <;> (try subst h')) | ((first | refine qaal (qac6 L1.out (by simp) (by simp)) ⟨rfl, rfl, trivial⟩ ⟨rfl, rfl, trivial⟩ ?_ | refine qaal (qac6 L2.out (by simp) (by simp)) ⟨rfl, rfl, trivial⟩ ⟨rfl, rfl, trivial⟩ ?_); simp -implicitDefEqProofs [*]) | (with_reducible first | refine za ?_ ?_ | refine zb ?_ ?_ ?_ ?_ | refine zd ?_ ?_ ?_ ?_ | refine qaa0 ?_ ?_) | (with_reducible first | exact qaaa | exact qaac) | ((with_reducible first | refine zga ?_ | refine zgb ?_); rfl) | ((with_reducible first | refine zgd ?_ | refine zge ?_); (first | omega | (simp; done))) | (exact Co.refl _) | (exact CoL.refl _) | (exact CoLL.refl _) | ((refine qaah hJ (i + 1, ?_) ?_ ?_ ?_; rotate_left 1; (with_reducible refine qaag [] hm ?_ ?_ ?_ ?_) <;> (try simp only [zT, puth, Nat.reduceEqDiff, reduceIte, Nat.reduceAdd]))) | fail)
   all_goals exact ⟨hi, h2.out⟩
  by_cases e3 : kd = 3
  ·subst e3
   rw [show opB ⟨3, ⟨ra, rb⟩, hd, e⟩ = qaa7 [3] ++ (qaa7 [hd]) from rfl] at h2 L
   simp only [List.length_append] at L
   have L2 : ((cur ++ qaa7 [3]) ++ qaa7 [hd]).length ≤ wMax := by simp only [List.length_append]; omega
   replace L1 := Lib.hid L1
   replace h2 := Lib.hid h2
   replace L := Lib.hid L
   replace L2 := Lib.hid L2
   repeat' (first | (with_reducible first | refine zA ?_ | refine qaae ?_) | ((with_reducible refine qaad ?_); (try rw [hP]); simp -implicitDefEqProofs [*]) | ((with_reducible refine qaaf ?_); (try simp -implicitDefEqProofs [*])) | ((with_reducible refine qaab rfl (fun h => ?_) (fun h => ?_)) <;> have h' := h <;> (try simp at h') <;> (try subst h')) | ((first | refine qaal (qac6 L1.out (by simp) (by simp)) ⟨rfl, rfl, trivial⟩ ⟨rfl, rfl, trivial⟩ ?_ | refine qaal (qac6 L2.out (by simp) (by simp)) ⟨rfl, rfl, trivial⟩ ⟨rfl, rfl, trivial⟩ ?_); simp -implicitDefEqProofs [*]) | (with_reducible first | refine za ?_ ?_ | refine zb ?_ ?_ ?_ ?_ | refine zd ?_ ?_ ?_ ?_ | refine qaa0 ?_ ?_) | (with_reducible first | exact qaaa | exact qaac) | ((with_reducible first | refine zga ?_ | refine zgb ?_); rfl) | ((with_reducible first | refine zgd ?_ | refine zge ?_); (first | omega | (simp; done))) | (exact Co.refl _) | (exact CoL.refl _) | (exact CoLL.refl _) | ((refine qaah hJ (i + 1, ?_) ?_ ?_ ?_; rotate_left 1; (with_reducible refine qaag [] hm ?_ ?_ ?_ ?_) <;> (try simp only [zT, puth, Nat.reduceEqDiff, reduceIte, Nat.reduceAdd]))) | fail)
   all_goals exact ⟨hi, h2.out⟩
  by_cases e5 : kd = 5
  ·subst e5
   rw [show opB ⟨5, ⟨ra, rb⟩, hd, e⟩ = qaa7 [5] ++ (qah4 e) from rfl] at h2 L
   simp only [List.length_append] at L
   have L2 : ((cur ++ qaa7 [5]) ++ qah4 e).length ≤ wMax := by simp only [List.length_append]; omega
   replace L1 := Lib.hid L1
   replace h2 := Lib.hid h2
   replace L := Lib.hid L
   replace L2 := Lib.hid L2
   repeat' (first | (with_reducible first | refine zA ?_ | refine qaae ?_) | ((with_reducible refine qaad ?_); (try rw [hP]); simp -implicitDefEqProofs [*]) | ((with_reducible refine qaaf ?_); (try simp -implicitDefEqProofs [*])) | ((with_reducible refine qaab rfl (fun h => ?_) (fun h => ?_)) <;> have h' := h <;> (try simp at h') <;> (try subst h')) | ((first | refine qaal (qac6 L1.out (by simp) (by simp)) ⟨rfl, rfl, trivial⟩ ⟨rfl, rfl, trivial⟩ ?_ | refine qaal (qart hx.out L2.out (by simp)) ⟨rfl, trivial⟩ ⟨rfl, trivial⟩ ?_); simp -implicitDefEqProofs [*]) | (with_reducible first | refine za ?_ ?_ | refine zb ?_ ?_ ?_ ?_ | refine zd ?_ ?_ ?_ ?_ | refine qaa0 ?_ ?_) | (with_reducible first | exact qaaa | exact qaac) | ((with_reducible first | refine zga ?_ | refine zgb ?_); rfl) | ((with_reducible first | refine zgd ?_ | refine zge ?_); (first | omega | (simp; done))) | (exact Co.refl _) | (exact CoL.refl _) | (exact CoLL.refl _) | ((refine qaah hJ (i + 1, ?_) ?_ ?_ ?_; rotate_left 1; (with_reducible refine qaag [] hm ?_ ?_ ?_ ?_) <;> (try simp only [zT, puth, Nat.reduceEqDiff, reduceIte, Nat.reduceAdd]))) | fail)
   all_goals exact ⟨hi, h2.out⟩
  by_cases e6 : kd = 6
  ·subst e6
   rw [show opB ⟨6, ⟨ra, rb⟩, hd, e⟩ = qaa7 [6] ++ (refB ⟨ra, rb⟩ ++ qaa7 [hd]) from rfl] at h2 L
   simp only [List.length_append] at L
   have L2 : ((cur ++ qaa7 [6]) ++ refB ⟨ra, rb⟩).length ≤ wMax := by simp only [List.length_append]; omega
   have L3 : ((cur ++ (qaa7 [6] ++ refB ⟨ra, rb⟩)) ++ qaa7 [hd]).length ≤ wMax := by simp only [List.length_append]; omega
   replace L1 := Lib.hid L1
   replace h2 := Lib.hid h2
   replace L := Lib.hid L
   replace L2 := Lib.hid L2
   replace L3 := Lib.hid L3
   repeat' (first | (with_reducible first | refine zA ?_ | refine qaae ?_) | ((with_reducible refine qaad ?_); (try rw [hP]); simp -implicitDefEqProofs [*]) | ((with_reducible refine qaaf ?_); (try simp -implicitDefEqProofs [*])) | ((with_reducible refine qaab rfl (fun h => ?_) (fun h => ?_)) <;> have h' := h <;> (try simp at h') <;> (try subst h')) | ((first | refine qaal (qac6 L1.out (by simp) (by simp)) ⟨rfl, rfl, trivial⟩ ⟨rfl, rfl, trivial⟩ ?_ | refine qaal (qaru L2.out (by simp)) ⟨rfl, trivial⟩ ⟨rfl, trivial⟩ ?_ | refine qaal (qac6 L3.out (by simp) (by simp)) ⟨rfl, rfl, trivial⟩ ⟨rfl, rfl, trivial⟩ ?_); simp -implicitDefEqProofs [*]) | (with_reducible first | refine za ?_ ?_ | refine zb ?_ ?_ ?_ ?_ | refine zd ?_ ?_ ?_ ?_ | refine qaa0 ?_ ?_) | (with_reducible first | exact qaaa | exact qaac) | ((with_reducible first | refine zga ?_ | refine zgb ?_); rfl) | ((with_reducible first | refine zgd ?_ | refine zge ?_); (first | omega | (simp; done))) | (exact Co.refl _) | (exact CoL.refl _) | (exact CoLL.refl _) | ((refine qaah hJ (i + 1, ?_) ?_ ?_ ?_; rotate_left 1; (with_reducible refine qaag [] hm ?_ ?_ ?_ ?_) <;> (try simp only [zT, puth, Nat.reduceEqDiff, reduceIte, Nat.reduceAdd]))) | fail)
   all_goals exact ⟨hi, h2.out⟩
  ·have k1 : (kd == 1) = false := by simp [e1]
   have k2 : (kd == 2) = false := by simp [e2]
   have k3 : (kd == 3) = false := by simp [e3]
   have k5 : (kd == 5) = false := by simp [e5]
   have k6 : (kd == 6) = false := by simp [e6]
   rw [show opB ⟨kd, ⟨ra, rb⟩, hd, e⟩ = qaa7 [kd] by simp [opB, e1, e2, e3, e5, e6]] at h2
   replace L1 := Lib.hid L1
   replace h2 := Lib.hid h2
   replace L := Lib.hid L
   clear e1 e2 e3 e5 e6
   repeat' (first | (with_reducible first | refine zA ?_ | refine qaae ?_) | ((with_reducible refine qaad ?_); (try rw [hP]); simp -implicitDefEqProofs [*]) | ((with_reducible refine qaaf ?_); (try simp -implicitDefEqProofs [*])) | ((with_reducible refine qaab rfl (fun h => ?_) (fun h => ?_)) <;> have h' := h <;> (try simp at h') <;> (try subst h')) | (refine qaal (qac6 L1.out (by simp) (by simp)) ⟨rfl, rfl, trivial⟩ ⟨rfl, rfl, trivial⟩ ?_; simp -implicitDefEqProofs [*]) | (with_reducible first | refine za ?_ ?_ | refine zb ?_ ?_ ?_ ?_ | refine zd ?_ ?_ ?_ ?_ | refine qaa0 ?_ ?_) | (with_reducible first | exact qaaa | exact qaac) | ((with_reducible first | refine zga ?_ | refine zgb ?_); rfl) | ((with_reducible first | refine zgd ?_ | refine zge ?_); (first | omega | (simp; done))) | (exact Co.refl _) | (exact CoL.refl _) | (exact CoLL.refl _) | ((refine qaah hJ (i + 1, ?_) ?_ ?_ ?_; rotate_left 1; (with_reducible refine qaag [] hm ?_ ?_ ?_ ?_) <;> (try simp only [zT, puth, Nat.reduceEqDiff, reduceIte, Nat.reduceAdd]))) | fail)
   all_goals exact ⟨hi, h2.out⟩
 ·obtain rfl : i = a.ops.length := by omega
  rw [List.drop_length, List.flatMap_nil, List.append_nil] at h2
  replace h2 := Lib.hid h2
  repeat' (first | (with_reducible refine zA ?_) | ((with_reducible refine qaad ?_); (try rw [hP]); simp -implicitDefEqProofs [*]) | ((with_reducible refine qaam ?_); (try simp -implicitDefEqProofs [*])) | ((with_reducible refine qaab rfl (fun h => ?_) (fun h => ?_)) <;> have h' := h <;> (try simp at h') <;> (try subst h')) | (exact qagi (.inr rfl) hm (by rw [h2.out]; rfl)) | fail)
def qakc (n : NodeD) : List Int := qaa7 [n.kind, n.yes] ++ (if n.kind = 3 then qah4 n.e ++ qaa7 [n.no] else if n.kind = 4 then qaa7 [n.n, n.no] else qaa7 [n.n])
set_option maxHeartbeats 8000000 in
theorem wnode_s {n : NodeD} (hk : OkT n.e) (hl : (bs ++ qakc n).length ≤ wMax) :
  SCalls Try.prog 34 [.ptr 0 0, .agg (qagu n)] [(0, .abs (wA bs))] 1 (.tup []) [(0, .abs (wA (bs ++ qakc n)))] := by
 refine qaau (N := 38) Try.func34 rfl rfl (by kernel_rfl) qakr (by simp) (by repeat' (first | exact trivial | refine And.intro ?_ ?_ | rfl | decide | exact PureR.ren _)) (by repeat' (first | exact trivial | refine And.intro ?_ ?_ | rfl | decide | exact PureR.ren _)) ?_
 rintro X hP hN hm
 unfold c_wnode
 obtain ⟨kd, n0, e, yes, no⟩ := n
 have L := hl
 rw [List.length_append] at L
 have L1 : (bs ++ qaa7 [kd, yes]).length ≤ wMax := by
  simp only [qakc, List.length_append] at L ⊢; omega
 replace hk : Hid (OkT e) := Lib.hid hk
 clear hl
 by_cases e3 : kd = 3
 ·subst e3
  have hB : qakc ⟨3, n0, e, yes, no⟩ = qaa7 [3, yes] ++ (qah4 e ++ qaa7 [no]) := rfl
  rw [hB] at L ⊢
  simp only [List.length_append] at L
  have L2 : ((bs ++ qaa7 [3, yes]) ++ qah4 e).length ≤ wMax := by simp only [List.length_append]; omega
  have L3 : ((bs ++ (qaa7 [3, yes] ++ qah4 e)) ++ qaa7 [no]).length ≤ wMax := by simp only [List.length_append]; omega
  replace L1 := Lib.hid L1
  replace L := Lib.hid L
  replace L2 := Lib.hid L2
  replace L3 := Lib.hid L3
  clear hB
  repeat' (first | (with_reducible first | refine zA ?_ | refine qaae ?_) | ((with_reducible refine qaad ?_); (try rw [hP]); simp -implicitDefEqProofs [*]) | ((with_reducible refine qaab rfl (fun h => ?_) (fun h => ?_)) <;> have h' := h <;> (try simp at h') <;> (try subst h')) | ((first | refine qaal (qah6 L1.out (by simp) (by simp)) ⟨rfl, rfl, trivial⟩ ⟨rfl, rfl, trivial⟩ ?_ | refine qaal (qart hk.out L2.out (by simp)) ⟨rfl, trivial⟩ ⟨rfl, trivial⟩ ?_ | refine qaal (qac6 L3.out (by simp) (by simp)) ⟨rfl, rfl, trivial⟩ ⟨rfl, rfl, trivial⟩ ?_); simp -implicitDefEqProofs [*]) | (exact qagi (.inr rfl) hm rfl) | fail)
 by_cases e4 : kd = 4
 ·subst e4
  have hB : qakc ⟨4, n0, e, yes, no⟩ = qaa7 [4, yes] ++ (qaa7 [n0, no]) := rfl
  rw [hB] at L ⊢
  simp only [List.length_append] at L
  have L2 : ((bs ++ qaa7 [4, yes]) ++ qaa7 [n0, no]).length ≤ wMax := by simp only [List.length_append]; omega
  replace L1 := Lib.hid L1
  replace L := Lib.hid L
  replace L2 := Lib.hid L2
  clear hB
  repeat' (first | (with_reducible first | refine zA ?_ | refine qaae ?_) | ((with_reducible refine qaad ?_); (try rw [hP]); simp -implicitDefEqProofs [*]) | ((with_reducible refine qaab rfl (fun h => ?_) (fun h => ?_)) <;> have h' := h <;> (try simp at h') <;> (try subst h')) | ((first | refine qaal (qah6 L1.out (by simp) (by simp)) ⟨rfl, rfl, trivial⟩ ⟨rfl, rfl, trivial⟩ ?_ | refine qaal (qah6 L2.out (by simp) (by simp)) ⟨rfl, rfl, trivial⟩ ⟨rfl, rfl, trivial⟩ ?_); simp -implicitDefEqProofs [*]) | (exact qagi (.inr rfl) hm rfl) | fail)
 ·have k3 : (kd == 3) = false := by simp [e3]
  have k4 : (kd == 4) = false := by simp [e4]
  have hB : qakc ⟨kd, n0, e, yes, no⟩ = qaa7 [kd, yes] ++ qaa7 [n0] := by simp [qakc, e3, e4]
  rw [hB] at L ⊢
  simp only [List.length_append] at L
  have L2 : ((bs ++ qaa7 [kd, yes]) ++ qaa7 [n0]).length ≤ wMax := by simp only [List.length_append]; omega
  replace L1 := Lib.hid L1
  replace L2 := Lib.hid L2
  replace L := Lib.hid L
  clear hB e3 e4
  repeat' (first | (with_reducible first | refine zA ?_ | refine qaae ?_) | ((with_reducible refine qaad ?_); (try rw [hP]); simp -implicitDefEqProofs [*]) | ((with_reducible refine qaab rfl (fun h => ?_) (fun h => ?_)) <;> have h' := h <;> (try simp at h') <;> (try subst h')) | ((first | refine qaal (qah6 L1.out (by simp) (by simp)) ⟨rfl, rfl, trivial⟩ ⟨rfl, rfl, trivial⟩ ?_ | refine qaal (qac6 L2.out (by simp) (by simp)) ⟨rfl, rfl, trivial⟩ ⟨rfl, rfl, trivial⟩ ?_); simp -implicitDefEqProofs [*]) | (exact qagi (.inr rfl) hm rfl) | fail)
end Go.Proofs.Ytbefmmajjfijnaa
namespace Go.Proofs.Ytbefmmajjfijnaa
set_option linter.all false
open Go.RowKit
attribute [local simp] qabl qabk qaav qaa9 qaaw qaa8 qabi qabj qaaq qab6 SOp.run SX.ev putd puts argS upds SOp.touch SSt.keep SSt.skip gets geth puth delh idOf SV.cells? setL qaeb qaec sbin eq0 eq1 eqL qadx qac0 qac1 qaa3 qabm qaai qabn qab7 qaao qaan FrzOk qabc qaay qaba qabb qaar qaax qabo qaaz qaat qabd qaas frzS frzH frz frz1 frz0 SlotsM ObjsM ObjM rn ren ren1 ren0 qaca qacx qacs qab9 qabp qac3 qac2 CoL qabe qaby dels adds idsH qabu
attribute [local simp] nums refc qagg qag3 qade opc actc tabc qagu qach
variable {bs : List Int}
def tabB (t : TabD) : List Int := qaa7 [t.kind, (t.keys.length : Int)] ++ (t.keys.flatMap refB ++ (qaem t.acts ++ (qaa7 [t.cap, t.def_, (t.args.length : Int)] ++ qadv t.args)))
theorem qa2s (r : RefD) : 1 ≤ (refB r).length := by
 have := qahs [r.h, r.f]
 unfold refB; simp at this ⊢; omega
set_option maxHeartbeats 8000000 in
theorem wtab_s {t : TabD} (hk : ∀ u ∈ t.args, 0 ≤ u ∧ u < 18446744073709551616) (hl : (bs ++ tabB t).length ≤ wMax) :
  SCalls Try.prog 33 [.ptr 0 0, .agg (tabc t)] [(0, .abs (wA bs))] 1 (.tup []) [(0, .abs (wA (bs ++ tabB t)))] := by
 refine qaau (N := 43) Try.func33 rfl rfl (by kernel_rfl) qan4 (by simp) (by repeat' (first | exact trivial | refine And.intro ?_ ?_ | rfl | decide | exact PureR.ren _)) (by repeat' (first | exact trivial | refine And.intro ?_ ?_ | rfl | decide | exact PureR.ren _)) ?_
 rintro X hP hN hm
 unfold c_wtab
 obtain ⟨F, hF⟩ : ∃ F, F = bs ++ tabB t := ⟨_, rfl⟩
 rw [← hF] at hl ⊢
 obtain ⟨kd, keys, acts, cap, df, args⟩ := t
 have hF2 : F = (bs ++ qaa7 [kd, (keys.length : Int)]) ++ (keys.flatMap refB ++ (qaem acts ++ (qaa7 [cap, df, (args.length : Int)] ++ qadv args))) := by rw [hF, tabB]; simp only [List.append_assoc]
 have L0 := hl
 rw [hF2] at L0
 simp only [List.length_append] at L0
 have hul : keys.length ≤ 9223372036854775807 := by
  have h1 := qaev qa2s keys
  unfold wMax at L0; omega
 have L1 : (bs ++ qaa7 [kd, (keys.length : Int)]).length ≤ wMax := by rw [List.length_append]; omega
 replace hl := Lib.hid hl
 replace hF2 := Lib.hid hF2
 replace L1 := Lib.hid L1
 replace hk : Hid (∀ u ∈ args, 0 ≤ u ∧ u < 18446744073709551616) := Lib.hid hk
 clear hF L0
 repeat' (first | (with_reducible refine zA ?_) | ((with_reducible refine qaad ?_); (try rw [hP]); simp -implicitDefEqProofs [*]) | (refine qaal (qah6 L1.out (by simp) (by simp)) ⟨rfl, rfl, trivial⟩ ⟨rfl, rfl, trivial⟩ ?_; simp -implicitDefEqProofs [*]) | fail)
 refine qaaj (qaa5 (fun s (z : Nat × List Int) => s.turn [(17, .int .i64 z.1)] [(0, .abs (wA z.2))]) (fun z => z.1 ≤ keys.length ∧ F = z.2 ++ ((keys.drop z.1).flatMap refB ++ (qaem acts ++ (qaa7 [cap, df, (args.length : Int)] ++ qadv args)))) (fun z => keys.length - z.1) (0, bs ++ qaa7 [kd, (keys.length : Int)]) ?_ ⟨by simp, hF2.out⟩ ?_)
 ·repeat' (first | ((with_reducible refine qaag [] hm ?_ ?_ ?_ ?_) <;> (try simp only [zT, puth, Nat.reduceEqDiff, reduceIte, Nat.reduceAdd])) | (with_reducible first | refine za ?_ ?_ | refine zb ?_ ?_ ?_ ?_ | refine zd ?_ ?_ ?_ ?_ | refine qaa0 ?_ ?_) | (with_reducible first | exact qaaa | exact qaac) | ((with_reducible first | refine zga ?_ | refine zgb ?_); rfl) | ((with_reducible refine zgd ?_); (first | omega | (simp; done))) | (exact Co.refl _) | (exact CoL.refl _) | (exact CoLL.refl _) | fail)
 rintro J hJ ⟨i, cur⟩ ⟨h1, h2⟩
 unfold qang
 simp only [zT, puth, Nat.reduceEqDiff, reduceIte, Nat.reduceAdd] at h1 h2 ⊢
 clear hF2 L1
 have L := hl.out
 rw [h2] at L
 simp only [List.length_append] at L
 rcases Nat.lt_or_ge i keys.length with hi | hi
 ·rw [List.drop_eq_getElem_cons hi, List.flatMap_cons] at h2 L
  generalize hxx : keys[i] = o at h2 L
  obtain ⟨ra, rb⟩ := o
  have wi : IntKind.i64.wrap ((i : Int) + 1) = (i : Int) + 1 := qaap (by omega) (by omega)
  rw [List.append_assoc, ← List.append_assoc] at h2
  simp only [List.length_append] at L
  have L1 : (cur ++ refB ⟨ra, rb⟩).length ≤ wMax := by rw [List.length_append]; omega
  replace h2 := Lib.hid h2
  replace L := Lib.hid L
  replace L1 := Lib.hid L1
  clear hk
  repeat' (first | (with_reducible first | refine zA ?_ | refine qaae ?_) | ((with_reducible refine qaad ?_); (try rw [hP]); simp -implicitDefEqProofs [*]) | ((with_reducible refine qaaf ?_); (try simp -implicitDefEqProofs [*])) | ((with_reducible refine qaab rfl (fun h => ?_) (fun h => ?_)) <;> have h' := h <;> (try simp at h') <;> (try subst h')) | (refine qaal (qaru L1.out (by simp)) ⟨rfl, trivial⟩ ⟨rfl, trivial⟩ ?_; simp -implicitDefEqProofs [*]) | (with_reducible first | refine za ?_ ?_ | refine zb ?_ ?_ ?_ ?_ | refine zd ?_ ?_ ?_ ?_ | refine qaa0 ?_ ?_) | (with_reducible first | exact qaaa | exact qaac) | ((with_reducible first | refine zga ?_ | refine zgb ?_); rfl) | ((with_reducible first | refine zgd ?_ | refine zge ?_); (first | omega | (simp; done))) | (exact Co.refl _) | (exact CoL.refl _) | (exact CoLL.refl _) | ((refine qaah hJ (i + 1, ?_) ?_ ?_ ?_; rotate_left 1; (with_reducible refine qaag [] hm ?_ ?_ ?_ ?_) <;> (try simp only [zT, puth, Nat.reduceEqDiff, reduceIte, Nat.reduceAdd]))) | fail)
  all_goals exact ⟨hi, h2.out⟩
 ·obtain rfl : i = keys.length := by omega
  rw [List.drop_length, List.flatMap_nil, List.nil_append] at h2
  have L1 : (cur ++ qaem acts).length ≤ wMax := by simp only [List.length_append]; omega
  have L2 : ((cur ++ qaem acts) ++ qaa7 [cap, df, (args.length : Int)]).length ≤ wMax := by simp only [List.length_append]; omega
  have L3 : ((cur ++ (qaem acts ++ qaa7 [cap, df, (args.length : Int)])) ++ qadv args).length ≤ wMax := by simp only [List.length_append]; omega
  replace h2 := Lib.hid h2
  replace L := Lib.hid L
  replace L1 := Lib.hid L1
  replace L2 := Lib.hid L2
  replace L3 := Lib.hid L3
  repeat' (first | (with_reducible refine zA ?_) | ((with_reducible refine qaad ?_); (try rw [hP]); simp -implicitDefEqProofs [*]) | ((with_reducible refine qaam ?_); (try simp -implicitDefEqProofs [*])) | ((with_reducible refine qaab rfl (fun h => ?_) (fun h => ?_)) <;> have h' := h <;> (try simp at h') <;> (try subst h')) | ((first | refine qaal (qah5 L1.out (by simp)) ⟨rfl, trivial⟩ ⟨rfl, trivial⟩ ?_ | refine qaal (wint_3 L2.out (by simp) (by simp)) ⟨rfl, rfl, trivial⟩ ⟨rfl, rfl, trivial⟩ ?_ | refine qaal (wnum_v hk.out L3.out (by simp)) ⟨rfl, trivial⟩ ⟨rfl, trivial⟩ ?_); simp -implicitDefEqProofs [*]) | (exact qagi (.inr rfl) hm (by rw [h2.out]; rfl)) | fail)
end Go.Proofs.Ytbefmmajjfijnaa
namespace Go.Proofs.Ytbefmmajjfijnaa
set_option linter.all false
open Go.RowKit
abbrev qauj : List SOper := [Oa 3 (.box 29 (.t 0)), Oa 4 (.box 45 (.t 1)), Oa 6 (.mv (.c (.int .i64 0)))]
abbrev qaui : List SOper := [Oa 8 (.mv (.t 2)), Oa 7 (.mv (.t 8))]
abbrev qauh : List SOper := [Oa 10 (.faddr 0 (.t 4)), Oa 11 (.load (.t 10)), Oa 12 (.bin .eql (.t 11) (.c (.int .i64 (-3)))), Oa 13 (.mv (.t 12)), Oe 14 (.faddr 1 (.t 4)) 13 true, Oe 15 (.load (.t 14)) 13 true, Oe 16 (.bin .eql (.t 15) (.c (.int .i64 0))) 13 true, Oa 17 (.pick (.t 13) (.t 16) (.c (.bool false))), Oa 9 (.mv (.t 17))]
abbrev qaug : List SOper := [Oa 6 (.mv (.c (.int .i64 16)))]
abbrev qauf : List SOper := [Oa 19 (.faddr 0 (.t 4)), Oa 20 (.load (.t 19)), Oa 21 (.bin .eql (.t 20) (.c (.int .i64 (-1)))), Oa 18 (.mv (.t 21))]
abbrev qaue : List SOper := [Oa 22 (.faddr 1 (.t 3)), Oa 23 (.load (.t 22)), Oa 7 (.mv (.t 23))]
abbrev qaud : List SOper := [Oa 25 (.faddr 0 (.t 4)), Oa 26 (.load (.t 25)), Oa 27 (.bin .geq (.t 26) (.c (.int .i64 0))), Oa 28 (.mv (.t 27)), Oe 29 (.faddr 0 (.t 4)) 28 true, Oe 30 (.load (.t 29)) 28 true, Oe 31 (.faddr 0 (.t 3)) 28 true, Oe 32 (.load (.t 31)) 28 true, Oe 33 (.len false (.t 32)) 28 true, Oe 34 (.bin .lss (.t 30) (.t 33)) 28 true, Oa 35 (.pick (.t 28) (.t 34) (.c (.bool false))), Oa 24 (.mv (.t 35))]
abbrev qauc : List SOper := [Oa 36 (.faddr 0 (.t 3)), Oa 37 (.load (.t 36)), Oa 38 (.faddr 0 (.t 4)), Oa 39 (.load (.t 38)), Oa 40 (.iaddr 1 (.t 37) (.t 39)), Oa 41 (.faddr 0 (.t 40)), Oa 42 (.load (.t 41)), Oa 7 (.mv (.t 42))]
abbrev qaub : List SOper := [Oa 44 (.faddr 0 (.t 4)), Oa 45 (.load (.t 44)), Oa 46 (.bin .neq (.t 45) (.c (.int .i64 (-2)))), Oa 43 (.mv (.t 46))]
abbrev qao1 : List SOper := [Oa 6 (.mv (.c (.int .i64 0)))]
abbrev qao0 : List SOper := [Oa 47 (.faddr 1 (.t 4)), Oa 48 (.load (.t 47)), Oa 49 (.bin .lss (.t 48) (.c (.int .i64 0))), Oa 50 (.mv (.t 49)), Oe 51 (.faddr 1 (.t 4)) 50 false, Oe 52 (.load (.t 51)) 50 false, Oe 53 (.mv (.t 7)) 50 false, Oe 54 (.len false (.t 53)) 50 false, Oe 55 (.bin .geq (.t 52) (.t 54)) 50 false, Oa 56 (.pick (.t 50) (.c (.bool true)) (.t 55))]
abbrev qaoz : List SOper := [Oa 6 (.mv (.c (.int .i64 0)))]
abbrev qaoy : List SOper := [Oa 57 (.mv (.t 7)), Oa 58 (.faddr 1 (.t 4)), Oa 59 (.load (.t 58)), Oa 60 (.iaddr 1 (.t 57) (.t 59)), Oa 61 (.load (.t 60)), Oa 6 (.mv (.t 61))]
def c_width : SCode := (.seq (.reg false qauj [2, 3, 4]) (.seq (.reg false qaui [3, 4, 7]) (.seq (.block 0 (.seq (.reg false qauh [3, 4, 7, 9]) (.cond (.t 9) (.seq (.reg false qaug [6]) .ret) (.seq (.reg false qauf [3, 4, 7, 18]) (.cond (.t 18) (.reg false qaue [4, 7]) (.seq (.reg false qaud [3, 4, 7, 24]) (.cond (.t 24) (.reg false qauc [4, 7]) (.seq (.reg false qaub [4, 7, 43]) (.cond (.t 43) (.seq (.reg false qao1 [6]) .ret) .skip))))))))) (.seq (.seq (.reg false qao0 [4, 7, 56]) (.cond (.t 56) (.seq (.reg false qaoz [6]) .ret) .skip)) (.seq (.reg false qaoy [6]) .ret)))))
theorem qakt : comp Try.prog 62 ((Try.f49.body).getD .skip) = some c_width.erase := by kernel_rfl
abbrev qava : List SOper := [Oa 2 (.mv (.c (.int .i64 0)))]
abbrev qau9 : List SOper := [Oa 4 (.mv (.t 0)), Oa 5 (.bin .eql (.t 4) (.c (.int .i64 1))), Oa 6 (.mv (.t 5)), Oe 7 (.mv (.t 0)) 6 false, Oe 8 (.bin .eql (.t 7) (.c (.int .i64 2))) 6 false, Oa 9 (.pick (.t 6) (.c (.bool true)) (.t 8)), Oa 3 (.mv (.t 9))]
abbrev qau8 : List SOper := [Oa 2 (.mv (.c (.int .i64 0)))]
abbrev qau7 : List SOper := [Oa 11 (.mv (.t 0)), Oa 12 (.bin .geq (.t 11) (.c (.int .i64 3))), Oa 13 (.mv (.t 12)), Oe 14 (.mv (.t 0)) 13 true, Oe 15 (.bin .leq (.t 14) (.c (.int .i64 12))) 13 true, Oa 16 (.pick (.t 13) (.t 15) (.c (.bool false))), Oa 10 (.mv (.t 16))]
abbrev qau6 : List SOper := [Oa 2 (.mv (.c (.int .i64 2)))]
abbrev qau5 : List SOper := [Oa 18 (.mv (.t 0)), Oa 19 (.bin .eql (.t 18) (.c (.int .i64 13))), Oa 17 (.mv (.t 19))]
abbrev qau4 : List SOper := [Oa 2 (.mv (.c (.int .i64 1)))]
abbrev qau3 : List SOper := [Oa 2 (.mv (.c (.int .i64 (-1))))]
def c_takes : SCode := (.seq (.reg false qava [0]) (.seq (.block 0 (.seq (.reg false qau9 [0, 3]) (.cond (.t 3) (.seq (.reg false qau8 [2]) .ret) (.seq (.reg false qau7 [0, 10]) (.cond (.t 10) (.seq (.reg false qau6 [2]) .ret) (.seq (.reg false qau5 [17]) (.cond (.t 17) (.seq (.reg false qau4 [2]) .ret) .skip))))))) (.seq (.reg false qau3 [2]) .ret)))
theorem qakv : comp Try.prog 20 ((Try.f71.body).getD .skip) = some c_takes.erase := by kernel_rfl
abbrev qaox : List SOper := [Oa 2 (.box 29 (.t 0)), Oa 3 (.box 62 (.t 1)), Oa 4 (.mv (.c .nilsl))]
abbrev qaow : List SOper := [Oa 5 (.mv (.c .nilsl))]
abbrev qaov : List SOper := [Oa 8 (.faddr 1 (.t 3)), Oa 9 (.load (.t 8)), Oa 10 (.len false (.t 9)), Oa 11 (.mv (.c (.int .i64 0)))]
abbrev qaou : List SOper := [Oa 12 (.bin .lss (.t 11) (.t 10))]
abbrev qaot : List SOper := [Oa 13 (.iaddr 2 (.t 9) (.t 11)), Oa 14 (.loads 2 (.t 13)), Oa 7 (.alloc 45 [(.int .i64 0), (.int .i64 0)]), Ob (.store 2 (.t 7) (.t 14))]
abbrev qaos : List SOper := [Oa 15 (.mv (.t 5)), Oa 16 (.loads 7 (.t 2)), Oa 17 (.loads 2 (.t 7)), Oc 18 49 [(.t 16), (.t 17), (.c .nilsl)], Oa 19 (.mkrow 3 1 1 [(.int .i64 0)] [(0, (.t 18))]), Oa 20 (.app 3 1 8 (.t 15) (.t 19)), Oa 5 (.mv (.t 20))]
abbrev qaor : List SOper := [Oa 21 (.bin .add (.t 11) (.c (.int .i64 1))), Oa 11 (.mv (.t 21))]
def qag5 : SCode := (.seq (.reg false qaou [2, 5, 9, 10, 11, 12]) (.seq (.cond (.t 12) .skip (.exit 0)) (.seq (.block 1 (.seq (.reg false qaot [2, 5, 7, 9, 10, 11]) (.reg false qaos [2, 5, 9, 10, 11]))) (.reg false qaor [2, 5, 9, 10, 11]))))
abbrev qag4 : List SOper := [Oa 22 (.mv (.t 5)), Oa 4 (.mv (.t 22))]
def c_widths : SCode := (.seq (.reg false qaox [2, 3]) (.seq (.reg false qaow [2, 3, 5]) (.seq (.seq (.reg false qaov [2, 5, 9, 10, 11]) (.block 0 (.loop qag5))) (.seq (.reg false qag4 [4]) .ret))))
theorem qait : comp Try.prog 23 ((Try.f53.body).getD .skip) = some c_widths.erase := by kernel_rfl
abbrev qav8 : List SOper := [Oa 8 (.mv (.t 1)), Oa 9 (.mv (.t 8)), Oe 10 (.mv (.t 0)) 9 true, Oe 11 (.nilc (.t 10)) 9 true, Oe 12 (.faddr 7 (.t 11)) 9 true, Oe 13 (.faddr 0 (.t 12)) 9 true, Oe 14 (.load (.t 13)) 9 true, Oe 15 (.bin .eql (.t 14) (.c (.int .i64 0))) 9 true, Oa 16 (.pick (.t 9) (.t 15) (.c (.bool false)))]
abbrev qav7 : List SOper := [Oa 17 (.mv (.t 0)), Oa 18 (.mv (.t 2)), Oa 19 (.mv (.t 3)), Oa 20 (.build [(.int .i64 0), (.int .i64 0)] [(0, 1, (.t 18)), (1, 1, (.t 19))]), Oa 21 (.nilc (.t 17)), Oa 22 (.faddr 7 (.t 21)), Ob (.store 2 (.t 22) (.t 20))]
def c_jfail : SCode := (.seq (.reg false qav8 [0, 2, 3, 16]) (.cond (.t 16) (.reg false qav7 []) .skip))
theorem qak0 : comp Try.prog 23 ((Try.f21.body).getD .skip) = some c_jfail.erase := by kernel_rfl
abbrev qavw : List SOper := [Oa 11 (.mv (.t 0)), Oa 12 (.mv (.t 1)), Oa 13 (.len false (.t 12)), Oa 14 (.bin .gtr (.t 13) (.c (.int .i64 8))), Oa 15 (.mv (.t 3)), Oc 16 21 [(.t 11), (.t 14), (.c (.int .i64 2)), (.t 15)]]
abbrev qavv : List SOper := [Oa 8 (.mv (.c (.int .i64 0)))]
abbrev qavu : List SOper := [Oa 9 (.mv (.c (.int .i64 0)))]
abbrev qavt : List SOper := [Oa 17 (.mv (.t 9)), Oa 18 (.mv (.t 1)), Oa 19 (.len false (.t 18)), Oa 20 (.bin .lss (.t 17) (.t 19)), Oa 21 (.mv (.t 20)), Oe 22 (.mv (.t 0)) 21 true, Oe 23 (.nilc (.t 22)) 21 true, Oe 24 (.faddr 7 (.t 23)) 21 true, Oe 25 (.faddr 0 (.t 24)) 21 true, Oe 26 (.load (.t 25)) 21 true, Oe 27 (.bin .eql (.t 26) (.c (.int .i64 0))) 21 true, Oa 28 (.pick (.t 21) (.t 27) (.c (.bool false)))]
abbrev qavs : List SOper := [Oa 31 (.mv (.t 1)), Oa 32 (.mv (.t 9)), Oa 33 (.iaddr 4 (.t 31) (.t 32)), Oa 34 (.faddr 0 (.t 33)), Oa 35 (.load (.t 34)), Oc 36 71 [(.t 35)], Oa 10 (.mv (.t 36))]
abbrev qavr : List SOper := [Oa 37 (.mv (.t 0)), Oa 38 (.mv (.t 10)), Oa 39 (.bin .lss (.t 38) (.c (.int .i64 0))), Oa 40 (.mv (.t 39)), Oe 41 (.mv (.t 8)) 40 false, Oe 42 (.mv (.t 10)) 40 false, Oe 43 (.bin .lss (.t 41) (.t 42)) 40 false, Oa 44 (.pick (.t 40) (.c (.bool true)) (.t 43)), Oa 45 (.mv (.t 3)), Oc 46 21 [(.t 37), (.t 44), (.c (.int .i64 13)), (.t 45)]]
abbrev qavq : List SOper := [Oa 47 (.mv (.t 0)), Oa 48 (.mv (.t 1)), Oa 49 (.mv (.t 9)), Od 50 (.iaddr 4 (.t 48) (.t 49)) 6, Od 51 (.faddr 0 (.t 50)) 14, Od 52 (.load (.t 51)) 30, Od 53 (.bin .eql (.t 52) (.c (.int .i64 2))) 62, Od 54 (.mv (.t 53)) 126, Of 55 (.mv (.t 0)) 54 true 254, Of 56 (.nilc (.t 55)) 54 true 510, Of 57 (.faddr 0 (.t 56)) 54 true 1022, Of 58 (.loads 7 (.t 57)) 54 true 2046, Of 59 (.mv (.t 1)) 54 true 254, Of 60 (.mv (.t 9)) 54 true 254, Of 61 (.iaddr 4 (.t 59) (.t 60)) 54 true 12542, Of 62 (.faddr 1 (.t 61)) 54 true 28926, Of 63 (.loads 2 (.t 62)) 54 true 61694, Of 64 (.mv (.t 2)) 54 true 254, ⟨(some 65), .mv (.c .any), some ((.c (.fn (.func 49) [] [])), [(.t 58), (.t 63), (.t 64)]), (some (54, true)), 262142⟩, Of 66 (.bin .eql (.t 65) (.c (.int .i64 0))) 54 true 524286, Od 67 (.pick (.t 54) (.t 66) (.c (.bool false))) 1048574, Oa 68 (.mv (.t 3)), ⟨(some 69), .mv (.c .any), some ((.c (.fn (.func 21) [] [])), [(.t 47), (.t 67), (.c (.int .i64 1)), (.t 68)]), none, 4194303⟩]
abbrev qavp : List SOper := [Oa 70 (.mv (.t 8)), Oa 71 (.mv (.t 10)), Oa 72 (.bin .sub (.c (.int .i64 1)) (.t 71)), Oa 73 (.bin .add (.t 70) (.t 72)), Oa 8 (.mv (.t 73))]
abbrev qavo : List SOper := [Oa 29 (.mv (.t 9)), Oa 30 (.bin .add (.t 29) (.c (.int .i64 1))), Oa 9 (.mv (.t 30))]
def qaja : SCode := (.seq (.seq (.reg false qavt [0, 1, 2, 3, 8, 9, 28]) (.cond (.t 28) .skip (.exit 0))) (.seq (.block 1 (.seq (.reg false qavs [0, 1, 2, 3, 8, 9, 10]) (.seq (.reg false qavr [0, 1, 2, 3, 8, 9, 10]) (.seq (.reg true qavq [0, 1, 2, 3, 8, 9, 10]) (.reg false qavp [0, 1, 2, 3, 8, 9]))))) (.reg false qavo [0, 1, 2, 3, 8, 9])))
abbrev qaqd : List SOper := [Oa 74 (.mv (.t 0)), Oa 75 (.mv (.t 8)), Oa 76 (.bin .neq (.t 75) (.c (.int .i64 1))), Oa 77 (.mv (.t 3)), Oc 78 21 [(.t 74), (.t 76), (.c (.int .i64 13)), (.t 77)]]
def c_jtree : SCode := (.seq (.reg false qavw [0, 1, 2, 3]) (.seq (.reg false qavv [0, 1, 2, 3, 8]) (.seq (.seq (.reg false qavu [0, 1, 2, 3, 8, 9]) (.block 0 (.loop qaja))) (.reg false qaqd []))))
theorem qakx : comp Try.prog 79 ((Try.f55.body).getD .skip) = some c_jtree.erase := by kernel_rfl
abbrev qals : List SOper := [Oa 4 (.box 45 (.t 1))]
abbrev qalr : List SOper := [Oa 6 (.mv (.t 0)), Oa 7 (.faddr 0 (.t 4)), Od 8 (.load (.t 7)) 2, Od 9 (.bin .lss (.t 8) (.c (.int .i64 (-1)))) 6, Od 10 (.mv (.t 9)) 14, Of 11 (.mv (.t 0)) 10 false 30, Of 12 (.nilc (.t 11)) 10 false 62, Of 13 (.faddr 0 (.t 12)) 10 false 126, Of 14 (.loads 7 (.t 13)) 10 false 254, Of 15 (.loads 2 (.t 4)) 10 false 30, ⟨(some 16), .mv (.c .any), some ((.c (.fn (.func 49) [] [])), [(.t 14), (.t 15), (.c .nilsl)]), (some (10, false)), 1022⟩, Of 17 (.bin .eql (.t 16) (.c (.int .i64 0))) 10 false 2046, Od 18 (.pick (.t 10) (.c (.bool true)) (.t 17)) 4094, Oa 19 (.mv (.t 2)), ⟨(some 20), .mv (.c .any), some ((.c (.fn (.func 21) [] [])), [(.t 6), (.t 18), (.c (.int .i64 1)), (.t 19)]), none, 16383⟩]
def c_jtarget : SCode := (.seq (.reg false qals [0, 2, 4]) (.reg true qalr []))
theorem qah0 : comp Try.prog 21 ((Try.f69.body).getD .skip) = some c_jtarget.erase := by kernel_rfl
abbrev qav6 : List SOper := [Oa 6 (.mv (.t 0)), Oa 7 (.mv (.t 1)), Oa 8 (.bin .lss (.t 7) (.c (.int .i64 0))), Oa 9 (.mv (.t 8)), Oe 10 (.mv (.t 1)) 9 false, Oe 11 (.mv (.t 0)) 9 false, Oe 12 (.nilc (.t 11)) 9 false, Oe 13 (.faddr 0 (.t 12)) 9 false, Oe 14 (.faddr 0 (.t 13)) 9 false, Oe 15 (.load (.t 14)) 9 false, Oe 16 (.len false (.t 15)) 9 false, Oe 17 (.bin .geq (.t 10) (.t 16)) 9 false, Oa 18 (.pick (.t 9) (.c (.bool true)) (.t 17)), Oa 19 (.mv (.t 2)), Oc 20 21 [(.t 6), (.t 18), (.c (.int .i64 1)), (.t 19)]]
def c_jhead : SCode := (.reg false qav6 [])
theorem qakz : comp Try.prog 21 ((Try.f27.body).getD .skip) = some c_jhead.erase := by kernel_rfl
abbrev qa4k : List SOper := [Oa 5 (.box 58 (.t 1))]
abbrev qa4j : List SOper := [Oa 8 (.faddr 0 (.t 5)), Oa 9 (.load (.t 8))]
abbrev qa4i : List SOper := [Oa 14 (.bin .eql (.t 9) (.c (.int .i64 1))), Oa 13 (.mv (.t 14))]
abbrev qa4h : List SOper := [Oa 15 (.mv (.t 0)), Oa 16 (.faddr 1 (.t 5)), Oa 17 (.loads 2 (.t 16)), Oa 18 (.mv (.t 3)), Oc 19 69 [(.t 15), (.t 17), (.t 18)]]
abbrev qa4g : List SOper := [Oa 20 (.mv (.t 0)), Oa 21 (.faddr 4 (.t 5)), Oa 22 (.load (.t 21)), Oa 23 (.mv (.t 2)), Oa 24 (.mv (.t 3)), Oc 25 55 [(.t 20), (.t 22), (.t 23), (.t 24)]]
abbrev qa4f : List SOper := [Oa 27 (.bin .eql (.t 9) (.c (.int .i64 2))), Oa 26 (.mv (.t 27))]
abbrev qa4e : List SOper := [Oa 28 (.bin .eql (.t 9) (.c (.int .i64 3))), Oa 26 (.mv (.t 28))]
abbrev qa4d : List SOper := [Oa 29 (.mv (.t 0)), Oa 30 (.faddr 3 (.t 5)), Oa 31 (.load (.t 30)), Oa 32 (.mv (.t 3)), Oc 33 27 [(.t 29), (.t 31), (.t 32)]]
abbrev qa4c : List SOper := [Oa 35 (.bin .eql (.t 9) (.c (.int .i64 4))), Oa 34 (.mv (.t 35))]
abbrev qa0f : List SOper := [Oa 37 (.bin .eql (.t 9) (.c (.int .i64 5))), Oa 36 (.mv (.t 37))]
abbrev qa0e : List SOper := [Oa 38 (.mv (.t 0)), Oa 39 (.faddr 4 (.t 5)), Oa 40 (.load (.t 39)), Oa 41 (.mv (.t 2)), Oa 42 (.mv (.t 3)), Oc 43 55 [(.t 38), (.t 40), (.t 41), (.t 42)]]
abbrev qa0d : List SOper := [Oa 45 (.bin .eql (.t 9) (.c (.int .i64 6))), Oa 44 (.mv (.t 45))]
abbrev qa0c : List SOper := [Oa 46 (.mv (.t 0)), Oa 47 (.faddr 1 (.t 5)), Oa 48 (.loads 2 (.t 47)), Oa 49 (.mv (.t 3)), Oc 50 69 [(.t 46), (.t 48), (.t 49)]]
abbrev qa0b : List SOper := [Oa 51 (.mv (.t 0)), Oa 52 (.faddr 3 (.t 5)), Oa 53 (.load (.t 52)), Oa 54 (.mv (.t 3)), Oc 55 27 [(.t 51), (.t 53), (.t 54)]]
abbrev qa0a : List SOper := [Oa 10 (.mv (.t 0)), Oa 11 (.mv (.t 3)), Oc 12 21 [(.t 10), (.c (.bool true)), (.c (.int .i64 5)), (.t 11)]]
def c_jop : SCode := (.seq (.reg false qa4k [0, 2, 3, 5]) (.seq (.reg false qa4j [0, 2, 3, 5, 9]) (.block 0 (.seq (.reg false qa4i [0, 2, 3, 5, 9, 13]) (.cond (.t 13) (.seq (.reg false qa4h [0, 2, 3, 5]) (.reg false qa4g [])) (.seq (.seq (.reg false qa4f [0, 2, 3, 5, 9, 26]) (.cond (.t 26) .skip (.reg false qa4e [0, 2, 3, 5, 9, 26]))) (.cond (.t 26) (.reg false qa4d []) (.seq (.reg false qa4c [0, 2, 3, 5, 9, 34]) (.cond (.t 34) .skip (.seq (.reg false qa0f [0, 2, 3, 5, 9, 36]) (.cond (.t 36) (.reg false qa0e []) (.seq (.reg false qa0d [0, 3, 5, 44]) (.cond (.t 44) (.seq (.reg false qa0c [0, 3, 5]) (.reg false qa0b [])) (.reg false qa0a []))))))))))))))
theorem qath : comp Try.prog 56 ((Try.f52.body).getD .skip) = some c_jop.erase := by kernel_rfl
abbrev qawh : List SOper := [Oa 8 (.mv (.t 0)), Oa 9 (.mv (.t 0)), Oa 10 (.nilc (.t 9)), Oa 11 (.faddr 0 (.t 10)), Oa 12 (.faddr 3 (.t 11)), Oa 13 (.load (.t 12)), Oa 14 (.len false (.t 13)), Oa 15 (.bin .gtr (.t 14) (.c (.int .i64 8))), Oc 16 21 [(.t 8), (.t 15), (.c (.int .i64 2)), (.c (.int .i64 (-4)))]]
abbrev qawg : List SOper := [Oa 2 (.mv (.c (.int .i64 0)))]
abbrev qawf : List SOper := [Oa 17 (.mv (.t 2)), Oa 18 (.mv (.t 0)), Oa 19 (.nilc (.t 18)), Oa 20 (.faddr 0 (.t 19)), Oa 21 (.faddr 3 (.t 20)), Oa 22 (.load (.t 21)), Oa 23 (.len false (.t 22)), Oa 24 (.bin .lss (.t 17) (.t 23)), Oa 25 (.mv (.t 24)), Oe 26 (.mv (.t 0)) 25 true, Oe 27 (.nilc (.t 26)) 25 true, Oe 28 (.faddr 7 (.t 27)) 25 true, Oe 29 (.faddr 0 (.t 28)) 25 true, Oe 30 (.load (.t 29)) 25 true, Oe 31 (.bin .eql (.t 30) (.c (.int .i64 0))) 25 true, Oa 32 (.pick (.t 25) (.t 31) (.c (.bool false)))]
abbrev qawe : List SOper := [Oa 35 (.mv (.t 0)), Oa 36 (.nilc (.t 35)), Oa 37 (.faddr 0 (.t 36)), Oa 38 (.faddr 3 (.t 37)), Oa 39 (.load (.t 38)), Oa 40 (.mv (.t 2)), Oa 41 (.iaddr 2 (.t 39) (.t 40)), Oa 42 (.loads 2 (.t 41)), Oa 3 (.alloc 55 [.nilsl, .nilsl]), Ob (.store 2 (.t 3) (.t 42))]
abbrev qawd : List SOper := [Oa 43 (.mv (.t 2)), Oa 44 (.bin .add (.c (.int .i64 4000)) (.t 43)), Oa 4 (.mv (.t 44))]
abbrev qawc : List SOper := [Oa 45 (.mv (.t 0)), Oa 46 (.faddr 0 (.t 3)), Oa 47 (.load (.t 46)), Oa 48 (.len false (.t 47)), Oa 49 (.bin .gtr (.t 48) (.c (.int .i64 3))), Oa 50 (.mv (.t 49)), Oe 51 (.faddr 1 (.t 3)) 50 false, Oe 52 (.load (.t 51)) 50 false, Oe 53 (.len false (.t 52)) 50 false, Oe 54 (.bin .gtr (.t 53) (.c (.int .i64 5))) 50 false, Oa 55 (.pick (.t 50) (.c (.bool true)) (.t 54)), Oa 56 (.mv (.t 4)), Oc 57 21 [(.t 45), (.t 55), (.c (.int .i64 2)), (.t 56)]]
abbrev qawb : List SOper := [Oa 58 (.faddr 0 (.t 3)), Oa 59 (.load (.t 58)), Oa 60 (.len false (.t 59)), Oa 61 (.mv (.c (.int .i64 0)))]
abbrev qawa : List SOper := [Oa 62 (.bin .lss (.t 61) (.t 60))]
abbrev qav9 : List SOper := [Oa 63 (.iaddr 1 (.t 59) (.t 61)), Oa 64 (.load (.t 63)), Oa 6 (.mv (.t 64))]
abbrev qaqu : List SOper := [Oa 65 (.mv (.t 0)), Oa 66 (.mv (.t 6)), Oa 67 (.bin .lss (.t 66) (.c (.int .i64 1))), Oa 68 (.mv (.t 67)), Oe 69 (.mv (.t 6)) 68 false, Oe 70 (.bin .gtr (.t 69) (.c (.int .i64 48))) 68 false, Oa 71 (.pick (.t 68) (.c (.bool true)) (.t 70)), Oa 72 (.mv (.t 4)), Oc 73 21 [(.t 65), (.t 71), (.c (.int .i64 6)), (.t 72)]]
abbrev qaqt : List SOper := [Oa 74 (.bin .add (.t 61) (.c (.int .i64 1))), Oa 61 (.mv (.t 74))]
def qajm : SCode := (.seq (.reg false qawa [0, 2, 3, 4, 59, 60, 61, 62]) (.seq (.cond (.t 62) .skip (.exit 2)) (.seq (.block 3 (.seq (.reg false qav9 [0, 2, 3, 4, 6, 59, 60, 61]) (.reg false qaqu [0, 2, 3, 4, 59, 60, 61]))) (.reg false qaqt [0, 2, 3, 4, 59, 60, 61]))))
abbrev qaqs : List SOper := [Oa 7 (.mv (.c (.int .i64 0)))]
abbrev qaqr : List SOper := [Oa 75 (.mv (.t 7)), Oa 76 (.faddr 1 (.t 3)), Oa 77 (.load (.t 76)), Oa 78 (.len false (.t 77)), Oa 79 (.bin .lss (.t 75) (.t 78)), Oa 80 (.mv (.t 79)), Oe 81 (.mv (.t 0)) 80 true, Oe 82 (.nilc (.t 81)) 80 true, Oe 83 (.faddr 7 (.t 82)) 80 true, Oe 84 (.faddr 0 (.t 83)) 80 true, Oe 85 (.load (.t 84)) 80 true, Oe 86 (.bin .eql (.t 85) (.c (.int .i64 0))) 80 true, Oa 87 (.pick (.t 80) (.t 86) (.c (.bool false)))]
abbrev qaqq : List SOper := [Oa 90 (.mv (.t 0)), Oa 91 (.faddr 1 (.t 3)), Od 92 (.load (.t 91)) 2, Oa 93 (.mv (.t 7)), Od 94 (.iaddr 5 (.t 92) (.t 93)) 14, Od 95 (.loads 5 (.t 94)) 30, Oa 96 (.faddr 0 (.t 3)), Od 97 (.load (.t 96)) 64, Oa 98 (.mv (.t 4)), ⟨(some 99), .mv (.c .any), some ((.c (.fn (.func 52) [] [])), [(.t 90), (.t 95), (.t 97), (.t 98)]), none, 511⟩]
abbrev qaqp : List SOper := [Oa 88 (.mv (.t 7)), Oa 89 (.bin .add (.t 88) (.c (.int .i64 1))), Oa 7 (.mv (.t 89))]
def qajl : SCode := (.seq (.seq (.reg false qaqr [0, 2, 3, 4, 7, 87]) (.cond (.t 87) .skip (.exit 4))) (.seq (.block 5 (.reg true qaqq [0, 2, 3, 4, 7])) (.reg false qaqp [0, 2, 3, 4, 7])))
abbrev qaqo : List SOper := [Oa 33 (.mv (.t 2)), Oa 34 (.bin .add (.t 33) (.c (.int .i64 1))), Oa 2 (.mv (.t 34))]
def qajk : SCode := (.seq (.seq (.reg false qawf [0, 2, 32]) (.cond (.t 32) .skip (.exit 0))) (.seq (.block 1 (.seq (.reg false qawe [0, 2, 3]) (.seq (.reg false qawd [0, 2, 3, 4]) (.seq (.reg false qawc [0, 2, 3, 4]) (.seq (.seq (.reg false qawb [0, 2, 3, 4, 59, 60, 61]) (.block 2 (.loop qajm))) (.seq (.reg false qaqs [0, 2, 3, 4, 7]) (.block 4 (.loop qajl)))))))) (.reg false qaqo [0, 2])))
def c_jacts : SCode := (.seq (.reg false qawh [0]) (.seq (.reg false qawg [0, 2]) (.block 0 (.loop qajk))))
theorem qak1 : comp Try.prog 100 ((Try.f24.body).getD .skip) = some c_jacts.erase := by kernel_rfl
abbrev qa4b : List SOper := [Oa 6 (.mv (.t 2)), Oa 7 (.bin .eql (.t 6) (.c (.int .i64 1000))), Oa 8 (.mv (.t 7)), Oe 9 (.mv (.t 2)) 8 false, Oe 10 (.bin .eql (.t 9) (.c (.int .i64 1001))) 8 false, Oa 11 (.pick (.t 8) (.c (.bool true)) (.t 10))]
abbrev qa4a : List SOper := [Oa 12 (.mv (.t 0)), Oa 13 (.mv (.t 2)), Oa 14 (.bin .lss (.t 13) (.c (.int .i64 0))), Oa 15 (.mv (.t 14)), Oe 16 (.mv (.t 2)) 15 false, Oe 17 (.mv (.t 0)) 15 false, Oe 18 (.nilc (.t 17)) 15 false, Oe 19 (.faddr 0 (.t 18)) 15 false, Oe 20 (.faddr 2 (.t 19)) 15 false, Oe 21 (.load (.t 20)) 15 false, Oe 22 (.len false (.t 21)) 15 false, Oe 23 (.bin .geq (.t 16) (.t 22)) 15 false, Oa 24 (.pick (.t 15) (.c (.bool true)) (.t 23)), Oa 25 (.mv (.t 1)), Oa 26 (.bin .add (.c (.int .i64 3000)) (.t 25)), Oc 27 21 [(.t 12), (.t 24), (.c (.int .i64 1)), (.t 26)]]
abbrev qa39 : List SOper := [Oa 28 (.mv (.t 0)), Oa 29 (.mv (.t 2)), Oa 30 (.mv (.t 1)), Oa 31 (.bin .leq (.t 29) (.t 30)), Oa 32 (.mv (.t 1)), Oa 33 (.bin .add (.c (.int .i64 3000)) (.t 32)), Oc 34 21 [(.t 28), (.t 31), (.c (.int .i64 11)), (.t 33)]]
def c_jto : SCode := (.seq (.seq (.reg false qa4b [0, 1, 2, 11]) (.cond (.t 11) .ret .skip)) (.seq (.reg false qa4a [0, 1, 2]) (.reg false qa39 [])))
theorem qatg : comp Try.prog 35 ((Try.f51.body).getD .skip) = some c_jto.erase := by kernel_rfl
abbrev qal1 : List SOper := [Oa 8 (.mv (.t 0)), Oa 9 (.mv (.t 0)), Oa 10 (.nilc (.t 9)), Oa 11 (.faddr 0 (.t 10)), Oa 12 (.faddr 2 (.t 11)), Oa 13 (.load (.t 12)), Oa 14 (.len false (.t 13)), Oa 15 (.bin .eql (.t 14) (.c (.int .i64 0))), Oa 16 (.mv (.t 15)), Oe 17 (.mv (.t 0)) 16 false, Oe 18 (.nilc (.t 17)) 16 false, Oe 19 (.faddr 0 (.t 18)) 16 false, Oe 20 (.faddr 2 (.t 19)) 16 false, Oe 21 (.load (.t 20)) 16 false, Oe 22 (.len false (.t 21)) 16 false, Oe 23 (.bin .gtr (.t 22) (.c (.int .i64 8))) 16 false, Oa 24 (.pick (.t 16) (.c (.bool true)) (.t 23)), Oc 25 21 [(.t 8), (.t 24), (.c (.int .i64 2)), (.c (.int .i64 (-3)))]]
abbrev qal0 : List SOper := [Oa 2 (.mv (.c (.int .i64 0)))]
abbrev qalz : List SOper := [Oa 26 (.mv (.t 2)), Oa 27 (.mv (.t 0)), Oa 28 (.nilc (.t 27)), Oa 29 (.faddr 0 (.t 28)), Oa 30 (.faddr 2 (.t 29)), Oa 31 (.load (.t 30)), Oa 32 (.len false (.t 31)), Oa 33 (.bin .lss (.t 26) (.t 32)), Oa 34 (.mv (.t 33)), Oe 35 (.mv (.t 0)) 34 true, Oe 36 (.nilc (.t 35)) 34 true, Oe 37 (.faddr 7 (.t 36)) 34 true, Oe 38 (.faddr 0 (.t 37)) 34 true, Oe 39 (.load (.t 38)) 34 true, Oe 40 (.bin .eql (.t 39) (.c (.int .i64 0))) 34 true, Oa 41 (.pick (.t 34) (.t 40) (.c (.bool false)))]
abbrev qaly : List SOper := [Oa 44 (.mv (.t 0)), Oa 45 (.nilc (.t 44)), Oa 46 (.faddr 0 (.t 45)), Oa 47 (.faddr 2 (.t 46)), Oa 48 (.load (.t 47)), Oa 49 (.mv (.t 2)), Oa 50 (.iaddr 5 (.t 48) (.t 49)), Oa 51 (.loads 5 (.t 50)), Oa 3 (.alloc 48 [(.int .i64 0), (.int .i64 0), (.int .i64 0), .nilsl, (.int .i64 0)]), Ob (.store 5 (.t 3) (.t 51))]
abbrev qalx : List SOper := [Oa 52 (.mv (.t 2)), Oa 53 (.bin .add (.c (.int .i64 3000)) (.t 52)), Oa 4 (.mv (.t 53))]
abbrev qalw : List SOper := [Oa 54 (.mv (.t 0)), Oa 55 (.faddr 0 (.t 3)), Od 56 (.load (.t 55)) 2, Od 57 (.bin .lss (.t 56) (.c (.int .i64 (-1)))) 6, Od 58 (.mv (.t 57)) 14, Of 59 (.faddr 0 (.t 3)) 58 false 30, Of 60 (.load (.t 59)) 58 false 62, Of 61 (.mv (.t 0)) 58 false 30, Of 62 (.nilc (.t 61)) 58 false 158, Of 63 (.faddr 0 (.t 62)) 58 false 414, Of 64 (.faddr 0 (.t 63)) 58 false 926, Of 65 (.load (.t 64)) 58 false 1950, Of 66 (.len false (.t 65)) 58 false 3998, Of 67 (.bin .geq (.t 60) (.t 66)) 58 false 8190, Od 68 (.pick (.t 58) (.c (.bool true)) (.t 67)) 16382, Oa 69 (.mv (.t 4)), ⟨(some 70), .mv (.c .any), some ((.c (.fn (.func 21) [] [])), [(.t 54), (.t 68), (.c (.int .i64 1)), (.t 69)]), none, 65535⟩]
abbrev qalv : List SOper := [Oa 71 (.mv (.t 0)), Oa 72 (.faddr 3 (.t 3)), Oa 73 (.load (.t 72)), Oa 74 (.len false (.t 73)), Oa 75 (.bin .gtr (.t 74) (.c (.int .i64 4))), Oa 76 (.mv (.t 4)), Oc 77 21 [(.t 71), (.t 75), (.c (.int .i64 2)), (.t 76)]]
abbrev qalu : List SOper := [Oa 78 (.mv (.t 0)), Od 79 (.nilc (.t 78)) 1, Od 80 (.faddr 0 (.t 79)) 3, Od 81 (.loads 7 (.t 80)) 7, Oa 82 (.faddr 1 (.t 3)), Od 83 (.loads 2 (.t 82)) 16, ⟨(some 84), .mv (.c .any), some ((.c (.fn (.func 49) [] [])), [(.t 81), (.t 83), (.c .nilsl)]), none, 63⟩, Od 5 (.mv (.t 84)) 127]
abbrev qalt : List SOper := [Oa 85 (.mv (.t 0)), Oa 86 (.faddr 3 (.t 3)), Oa 87 (.load (.t 86)), Oa 88 (.len false (.t 87)), Oa 89 (.bin .gtr (.t 88) (.c (.int .i64 0))), Oa 90 (.mv (.t 89)), Oe 91 (.mv (.t 5)) 90 true, Oe 92 (.bin .eql (.t 91) (.c (.int .i64 0))) 90 true, Oa 93 (.pick (.t 90) (.t 92) (.c (.bool false))), Oa 94 (.mv (.t 4)), Oc 95 21 [(.t 85), (.t 93), (.c (.int .i64 1)), (.t 94)]]
abbrev qajj : List SOper := [Oa 96 (.faddr 3 (.t 3)), Oa 97 (.load (.t 96)), Oa 98 (.len false (.t 97)), Oa 99 (.mv (.c (.int .i64 0)))]
abbrev qaji : List SOper := [Oa 100 (.bin .lss (.t 99) (.t 98))]
abbrev qajh : List SOper := [Oa 101 (.iaddr 3 (.t 97) (.t 99)), Oa 102 (.loads 3 (.t 101)), Oa 7 (.alloc 109 [(.int .u64 0), (.int .u64 0), (.int .i64 0)]), Ob (.store 3 (.t 7) (.t 102))]
abbrev qajg : List SOper := [Oa 103 (.mv (.t 0)), Oa 104 (.faddr 1 (.t 7)), Od 105 (.load (.t 104)) 2, Oa 106 (.mv (.t 5)), ⟨(some 107), .mv (.c .any), some ((.c (.fn (.func 50) [] [])), [(.t 106)]), none, 8⟩, Od 108 (.bin .gtr (.t 105) (.t 107)) 30, Od 109 (.mv (.t 108)) 62, Of 110 (.faddr 0 (.t 7)) 109 false 126, Of 111 (.load (.t 110)) 109 false 254, Of 112 (.faddr 1 (.t 7)) 109 false 126, Of 113 (.load (.t 112)) 109 false 638, Of 114 (.bin .andNot (.t 111) (.t 113)) 109 false 2046, Of 115 (.bin .neq (.t 114) (.c (.int .u64 0))) 109 false 4094, Od 116 (.pick (.t 109) (.c (.bool true)) (.t 115)) 8190, Oa 117 (.mv (.t 4)), ⟨(some 118), .mv (.c .any), some ((.c (.fn (.func 21) [] [])), [(.t 103), (.t 116), (.c (.int .i64 6)), (.t 117)]), none, 32767⟩]
abbrev qajf : List SOper := [Oa 119 (.mv (.t 0)), Oa 120 (.mv (.t 2)), Oa 121 (.faddr 2 (.t 7)), Oa 122 (.load (.t 121)), Oc 123 51 [(.t 119), (.t 120), (.t 122)]]
abbrev qaje : List SOper := [Oa 124 (.bin .add (.t 99) (.c (.int .i64 1))), Oa 99 (.mv (.t 124))]
def qagb : SCode := (.seq (.reg false qaji [0, 2, 3, 4, 5, 97, 98, 99, 100]) (.seq (.cond (.t 100) .skip (.exit 2)) (.seq (.block 3 (.seq (.reg false qajh [0, 2, 3, 4, 5, 7, 97, 98, 99]) (.seq (.reg true qajg [0, 2, 3, 4, 5, 7, 97, 98, 99]) (.reg false qajf [0, 2, 3, 4, 5, 97, 98, 99])))) (.reg false qaje [0, 2, 3, 4, 5, 97, 98, 99]))))
abbrev qajd : List SOper := [Oa 125 (.mv (.t 0)), Oa 126 (.mv (.t 2)), Oa 127 (.faddr 4 (.t 3)), Oa 128 (.load (.t 127)), Oc 129 51 [(.t 125), (.t 126), (.t 128)]]
abbrev qajc : List SOper := [Oa 42 (.mv (.t 2)), Oa 43 (.bin .add (.t 42) (.c (.int .i64 1))), Oa 2 (.mv (.t 43))]
def c_jstates_l2 : SCode := (.seq (.seq (.reg false qalz [0, 2, 41]) (.cond (.t 41) .skip (.exit 0))) (.seq (.block 1 (.seq (.reg false qaly [0, 2, 3]) (.seq (.reg false qalx [0, 2, 3, 4]) (.seq (.reg true qalw [0, 2, 3, 4]) (.seq (.reg false qalv [0, 2, 3, 4]) (.seq (.reg true qalu [0, 2, 3, 4, 5]) (.seq (.reg false qalt [0, 2, 3, 4, 5]) (.seq (.seq (.reg false qajj [0, 2, 3, 4, 5, 97, 98, 99]) (.block 2 (.loop qagb))) (.reg false qajd [0, 2]))))))))) (.reg false qajc [0, 2])))
def c_jstates : SCode := (.seq (.reg false qal1 [0]) (.seq (.reg false qal0 [0, 2]) (.block 0 (.loop c_jstates_l2))))
theorem qah1 : comp Try.prog 130 ((Try.f23.body).getD .skip) = some c_jstates.erase := by kernel_rfl
abbrev qav5 : List SOper := [Oa 6 (.mv (.t 0)), Oa 7 (.mv (.t 0)), Oa 8 (.nilc (.t 7)), Oa 9 (.faddr 0 (.t 8)), Oa 10 (.faddr 4 (.t 9)), Oa 11 (.load (.t 10)), Oa 12 (.len false (.t 11)), Oa 13 (.bin .gtr (.t 12) (.c (.int .i64 5))), Oc 14 21 [(.t 6), (.t 13), (.c (.int .i64 2)), (.c (.int .i64 (-5)))]]
abbrev qav4 : List SOper := [Oa 2 (.mv (.c (.int .i64 0)))]
abbrev qav3 : List SOper := [Oa 15 (.mv (.t 2)), Oa 16 (.mv (.t 0)), Oa 17 (.nilc (.t 16)), Oa 18 (.faddr 0 (.t 17)), Oa 19 (.faddr 4 (.t 18)), Oa 20 (.load (.t 19)), Oa 21 (.len false (.t 20)), Oa 22 (.bin .lss (.t 15) (.t 21)), Oa 23 (.mv (.t 22)), Oe 24 (.mv (.t 0)) 23 true, Oe 25 (.nilc (.t 24)) 23 true, Oe 26 (.faddr 7 (.t 25)) 23 true, Oe 27 (.faddr 0 (.t 26)) 23 true, Oe 28 (.load (.t 27)) 23 true, Oe 29 (.bin .eql (.t 28) (.c (.int .i64 0))) 23 true, Oa 30 (.pick (.t 23) (.t 29) (.c (.bool false)))]
abbrev qav2 : List SOper := [Oa 33 (.mv (.t 0)), Oa 34 (.nilc (.t 33)), Oa 35 (.faddr 0 (.t 34)), Oa 36 (.faddr 4 (.t 35)), Oa 37 (.load (.t 36)), Oa 38 (.mv (.t 2)), Oa 39 (.iaddr 6 (.t 37) (.t 38)), Oa 40 (.loads 6 (.t 39)), Oa 3 (.alloc 62 [(.int .i64 0), .nilsl, .nilsl, (.int .i64 0), (.int .i64 0), .nilsl]), Ob (.store 6 (.t 3) (.t 40))]
abbrev qav1 : List SOper := [Oa 41 (.mv (.t 0)), Oa 42 (.faddr 1 (.t 3)), Oa 43 (.load (.t 42)), Oa 44 (.len false (.t 43)), Oa 45 (.bin .gtr (.t 44) (.c (.int .i64 3))), Oa 46 (.mv (.t 2)), Oa 47 (.bin .add (.c (.int .i64 5000)) (.t 46)), Oc 48 21 [(.t 41), (.t 45), (.c (.int .i64 2)), (.t 47)]]
abbrev qav0 : List SOper := [Oa 49 (.mv (.t 0)), Od 50 (.nilc (.t 49)) 1, Od 51 (.faddr 0 (.t 50)) 3, Od 52 (.loads 7 (.t 51)) 7, Oa 53 (.loads 6 (.t 3)), ⟨(some 54), .mv (.c .any), some ((.c (.fn (.func 53) [] [])), [(.t 52), (.t 53)]), none, 31⟩, Od 4 (.mv (.t 54)) 63]
abbrev qavz : List SOper := [Oa 55 (.mv (.t 0)), Oa 56 (.mv (.t 4)), Oc 57 28 [(.t 56), (.c (.int .i64 0))], Oa 58 (.mv (.t 2)), Oa 59 (.bin .add (.c (.int .i64 5000)) (.t 58)), Oc 60 21 [(.t 55), (.t 57), (.c (.int .i64 1)), (.t 59)]]
abbrev qavy : List SOper := [Oa 61 (.loads 6 (.t 3)), Oa 62 (.mv (.t 4)), Oa 63 (.mv (.t 0)), Od 64 (.nilc (.t 63)) 4, Od 65 (.faddr 0 (.t 64)) 12, Od 66 (.faddr 3 (.t 65)) 28, Od 67 (.load (.t 66)) 60, ⟨(some 68), .mv (.c .any), some ((.c (.fn (.func 54) [] [])), [(.t 61), (.t 62), (.t 67)]), none, 127⟩, Od 5 (.mv (.t 68)) 255]
abbrev qavx : List SOper := [Oa 69 (.mv (.t 0)), Oa 70 (.mv (.t 5)), Oa 71 (.bin .neq (.t 70) (.c (.int .i64 0))), Oa 72 (.mv (.t 5)), Oa 73 (.mv (.t 2)), Oa 74 (.bin .add (.c (.int .i64 5000)) (.t 73)), Oc 75 21 [(.t 69), (.t 71), (.t 72), (.t 74)]]
abbrev qaqe : List SOper := [Oa 31 (.mv (.t 2)), Oa 32 (.bin .add (.t 31) (.c (.int .i64 1))), Oa 2 (.mv (.t 32))]
def qajb : SCode := (.seq (.seq (.reg false qav3 [0, 2, 30]) (.cond (.t 30) .skip (.exit 0))) (.seq (.block 1 (.seq (.reg false qav2 [0, 2, 3]) (.seq (.reg false qav1 [0, 2, 3]) (.seq (.reg true qav0 [0, 2, 3, 4]) (.seq (.reg false qavz [0, 2, 3, 4]) (.seq (.reg true qavy [0, 2, 5]) (.reg false qavx [0, 2]))))))) (.reg false qaqe [0, 2])))
def c_jtabs : SCode := (.seq (.reg false qav5 [0]) (.seq (.reg false qav4 [0, 2]) (.block 0 (.loop qajb))))
theorem qaky : comp Try.prog 76 ((Try.f25.body).getD .skip) = some c_jtabs.erase := by kernel_rfl
abbrev qaqn : List SOper := [Oa 8 (.mv (.t 0)), Oa 9 (.mv (.t 0)), Oa 10 (.nilc (.t 9)), Oa 11 (.faddr 0 (.t 10)), Oa 12 (.faddr 5 (.t 11)), Oa 13 (.load (.t 12)), Oa 14 (.len false (.t 13)), Oa 15 (.bin .gtr (.t 14) (.c (.int .i64 10))), Oc 16 21 [(.t 8), (.t 15), (.c (.int .i64 2)), (.c (.int .i64 (-6)))]]
abbrev qaqm : List SOper := [Oa 2 (.mv (.c (.int .i64 0)))]
abbrev qaql : List SOper := [Oa 17 (.mv (.t 2)), Oa 18 (.mv (.t 0)), Oa 19 (.nilc (.t 18)), Oa 20 (.faddr 0 (.t 19)), Oa 21 (.faddr 5 (.t 20)), Oa 22 (.load (.t 21)), Oa 23 (.len false (.t 22)), Oa 24 (.bin .lss (.t 17) (.t 23)), Oa 25 (.mv (.t 24)), Oe 26 (.mv (.t 0)) 25 true, Oe 27 (.nilc (.t 26)) 25 true, Oe 28 (.faddr 7 (.t 27)) 25 true, Oe 29 (.faddr 0 (.t 28)) 25 true, Oe 30 (.load (.t 29)) 25 true, Oe 31 (.bin .eql (.t 30) (.c (.int .i64 0))) 25 true, Oa 32 (.pick (.t 25) (.t 31) (.c (.bool false)))]
abbrev qaqk : List SOper := [Oa 35 (.mv (.t 0)), Oa 36 (.nilc (.t 35)), Oa 37 (.faddr 0 (.t 36)), Oa 38 (.faddr 5 (.t 37)), Oa 39 (.load (.t 38)), Oa 40 (.mv (.t 2)), Oa 41 (.iaddr 5 (.t 39) (.t 40)), Oa 42 (.loads 5 (.t 41)), Oa 3 (.alloc 64 [(.int .i64 0), (.int .i64 0), .nilsl, (.int .i64 0), (.int .i64 0)]), Ob (.store 5 (.t 3) (.t 42))]
abbrev qaqj : List SOper := [Oa 43 (.mv (.t 2)), Oa 44 (.bin .add (.c (.int .i64 6000)) (.t 43)), Oa 4 (.mv (.t 44))]
abbrev qaqi : List SOper := [Oa 45 (.faddr 3 (.t 3)), Oa 46 (.load (.t 45)), Oa 47 (.faddr 4 (.t 3)), Oa 48 (.load (.t 47)), Oa 49 (.mkrow 3 1 2 [(.int .i64 0)] [(0, (.t 46)), (1, (.t 48))]), Oa 5 (.mv (.t 49))]
abbrev qaqh : List SOper := [Oa 50 (.faddr 0 (.t 3)), Oa 51 (.load (.t 50))]
abbrev qaqg : List SOper := [Oa 56 (.bin .eql (.t 51) (.c (.int .i64 1))), Oa 55 (.mv (.t 56))]
abbrev qaqf : List SOper := [Oa 57 (.mv (.t 0)), Oa 58 (.faddr 1 (.t 3)), Od 59 (.load (.t 58)) 2, Od 60 (.bin .lss (.t 59) (.c (.int .i64 0))) 6, Od 61 (.mv (.t 60)) 14, Of 62 (.faddr 1 (.t 3)) 61 false 30, Of 63 (.load (.t 62)) 61 false 62, Of 64 (.mv (.t 0)) 61 false 30, Of 65 (.nilc (.t 64)) 61 false 158, Of 66 (.faddr 0 (.t 65)) 61 false 414, Of 67 (.faddr 4 (.t 66)) 61 false 926, Of 68 (.load (.t 67)) 61 false 1950, Of 69 (.len false (.t 68)) 61 false 3998, Of 70 (.bin .geq (.t 63) (.t 69)) 61 false 8190, Od 71 (.pick (.t 61) (.c (.bool true)) (.t 70)) 16382, Oa 72 (.mv (.t 4)), ⟨(some 73), .mv (.c .any), some ((.c (.fn (.func 21) [] [])), [(.t 57), (.t 71), (.c (.int .i64 1)), (.t 72)]), none, 65535⟩]
abbrev qami : List SOper := [Oa 74 (.mv (.t 5)), Oa 75 (.slice 1 (.t 74) none (some (.c (.int .i64 1)))), Oa 5 (.mv (.t 75))]
abbrev qamh : List SOper := [Oa 77 (.bin .eql (.t 51) (.c (.int .i64 2))), Oa 76 (.mv (.t 77))]
abbrev qamg : List SOper := [Oa 78 (.mv (.t 0)), Oa 79 (.faddr 1 (.t 3)), Od 80 (.load (.t 79)) 2, Od 81 (.bin .lss (.t 80) (.c (.int .i64 0))) 6, Od 82 (.mv (.t 81)) 14, Of 83 (.faddr 1 (.t 3)) 82 false 30, Of 84 (.load (.t 83)) 82 false 62, Of 85 (.mv (.t 0)) 82 false 30, Of 86 (.nilc (.t 85)) 82 false 158, Of 87 (.faddr 0 (.t 86)) 82 false 414, Of 88 (.faddr 3 (.t 87)) 82 false 926, Of 89 (.load (.t 88)) 82 false 1950, Of 90 (.len false (.t 89)) 82 false 3998, Of 91 (.bin .geq (.t 84) (.t 90)) 82 false 8190, Od 92 (.pick (.t 82) (.c (.bool true)) (.t 91)) 16382, Oa 93 (.mv (.t 4)), ⟨(some 94), .mv (.c .any), some ((.c (.fn (.func 21) [] [])), [(.t 78), (.t 92), (.c (.int .i64 1)), (.t 93)]), none, 65535⟩]
abbrev qamf : List SOper := [Oa 95 (.mv (.t 0)), Oa 96 (.mv (.t 0)), Od 97 (.nilc (.t 96)) 2, Od 98 (.faddr 7 (.t 97)) 6, Od 99 (.faddr 0 (.t 98)) 14, Od 100 (.load (.t 99)) 30, Od 101 (.bin .eql (.t 100) (.c (.int .i64 0))) 62, Od 102 (.mv (.t 101)) 126, Of 103 (.mv (.t 0)) 102 true 254, Of 104 (.nilc (.t 103)) 102 true 510, Of 105 (.faddr 0 (.t 104)) 102 true 1022, Of 106 (.faddr 3 (.t 105)) 102 true 2046, Of 107 (.load (.t 106)) 102 true 4094, Of 108 (.faddr 1 (.t 3)) 102 true 254, Of 109 (.load (.t 108)) 102 true 8446, Of 110 (.iaddr 2 (.t 107) (.t 109)) 102 true 32766, Of 111 (.faddr 0 (.t 110)) 102 true 65534, Of 112 (.load (.t 111)) 102 true 131070, Of 113 (.len false (.t 112)) 102 true 262142, Of 114 (.bin .gtr (.t 113) (.c (.int .i64 0))) 102 true 524286, Od 115 (.pick (.t 102) (.t 114) (.c (.bool false))) 1048574, Oa 116 (.mv (.t 4)), ⟨(some 117), .mv (.c .any), some ((.c (.fn (.func 21) [] [])), [(.t 95), (.t 115), (.c (.int .i64 2)), (.t 116)]), none, 4194303⟩]
abbrev qame : List SOper := [Oa 118 (.mv (.t 5)), Oa 119 (.slice 1 (.t 118) none (some (.c (.int .i64 1)))), Oa 5 (.mv (.t 119))]
abbrev qamd : List SOper := [Oa 121 (.bin .eql (.t 51) (.c (.int .i64 3))), Oa 120 (.mv (.t 121))]
abbrev qamc : List SOper := [Oa 122 (.mv (.t 0)), Oa 123 (.faddr 2 (.t 3)), Oa 124 (.load (.t 123)), Oa 125 (.mv (.t 4)), Oc 126 55 [(.t 122), (.t 124), (.c .nilsl), (.t 125)]]
abbrev qamb : List SOper := [Oa 128 (.bin .eql (.t 51) (.c (.int .i64 4))), Oa 127 (.mv (.t 128))]
abbrev qama : List SOper := [Oa 129 (.mv (.t 0)), Oa 130 (.faddr 1 (.t 3)), Oa 131 (.load (.t 130)), Oa 132 (.mv (.t 4)), Oc 133 27 [(.t 129), (.t 131), (.t 132)]]
abbrev qal9 : List SOper := [Oa 52 (.mv (.t 0)), Oa 53 (.mv (.t 4)), Oc 54 21 [(.t 52), (.c (.bool true)), (.c (.int .i64 5)), (.t 53)]]
abbrev qal8 : List SOper := [Oa 134 (.mv (.t 5)), Oa 135 (.len false (.t 134)), Oa 136 (.mv (.c (.int .i64 0)))]
abbrev qal7 : List SOper := [Oa 137 (.bin .lss (.t 136) (.t 135))]
abbrev qal6 : List SOper := [Oa 138 (.iaddr 1 (.t 134) (.t 136)), Oa 139 (.load (.t 138)), Oa 7 (.mv (.t 139))]
abbrev qal5 : List SOper := [Oa 140 (.mv (.t 0)), Oa 141 (.mv (.t 7)), Oa 142 (.bin .lss (.t 141) (.c (.int .i64 0))), Oa 143 (.mv (.t 142)), Oe 144 (.mv (.t 7)) 143 false, Oe 145 (.mv (.t 0)) 143 false, Oe 146 (.nilc (.t 145)) 143 false, Oe 147 (.faddr 0 (.t 146)) 143 false, Oe 148 (.faddr 5 (.t 147)) 143 false, Oe 149 (.load (.t 148)) 143 false, Oe 150 (.len false (.t 149)) 143 false, Oe 151 (.bin .gtr (.t 144) (.t 150)) 143 false, Oa 152 (.pick (.t 143) (.c (.bool true)) (.t 151)), Oa 153 (.mv (.t 4)), Oc 154 21 [(.t 140), (.t 152), (.c (.int .i64 1)), (.t 153)]]
abbrev qal4 : List SOper := [Oa 155 (.mv (.t 0)), Oa 156 (.mv (.t 7)), Oa 157 (.mv (.t 2)), Oa 158 (.bin .leq (.t 156) (.t 157)), Oa 159 (.mv (.t 4)), Oc 160 21 [(.t 155), (.t 158), (.c (.int .i64 11)), (.t 159)]]
abbrev qal3 : List SOper := [Oa 161 (.bin .add (.t 136) (.c (.int .i64 1))), Oa 136 (.mv (.t 161))]
def qacj : SCode := (.seq (.reg false qal7 [0, 2, 4, 134, 135, 136, 137]) (.seq (.cond (.t 137) .skip (.exit 3)) (.seq (.block 4 (.seq (.reg false qal6 [0, 2, 4, 7, 134, 135, 136]) (.seq (.reg false qal5 [0, 2, 4, 7, 134, 135, 136]) (.reg false qal4 [0, 2, 4, 134, 135, 136])))) (.reg false qal3 [0, 2, 4, 134, 135, 136]))))
abbrev qal2 : List SOper := [Oa 33 (.mv (.t 2)), Oa 34 (.bin .add (.t 33) (.c (.int .i64 1))), Oa 2 (.mv (.t 34))]
def qahe : SCode := (.seq (.seq (.reg false qaql [0, 2, 32]) (.cond (.t 32) .skip (.exit 0))) (.seq (.block 1 (.seq (.reg false qaqk [0, 2, 3]) (.seq (.reg false qaqj [0, 2, 3, 4]) (.seq (.reg false qaqi [0, 2, 3, 4, 5]) (.seq (.seq (.reg false qaqh [0, 2, 3, 4, 5, 51]) (.block 2 (.seq (.reg false qaqg [0, 2, 3, 4, 5, 51, 55]) (.cond (.t 55) (.seq (.reg true qaqf [0, 2, 4, 5]) (.reg false qami [0, 2, 4, 5])) (.seq (.reg false qamh [0, 2, 3, 4, 5, 51, 76]) (.cond (.t 76) (.seq (.reg true qamg [0, 2, 3, 4, 5]) (.seq (.reg true qamf [0, 2, 4, 5]) (.reg false qame [0, 2, 4, 5]))) (.seq (.reg false qamd [0, 2, 3, 4, 5, 51, 120]) (.cond (.t 120) (.reg false qamc [0, 2, 4, 5]) (.seq (.reg false qamb [0, 2, 3, 4, 5, 127]) (.cond (.t 127) (.reg false qama [0, 2, 4, 5]) (.reg false qal9 [0, 2, 4, 5]))))))))))) (.seq (.reg false qal8 [0, 2, 4, 134, 135, 136]) (.block 3 (.loop qacj)))))))) (.reg false qal2 [0, 2])))
def c_jnodes : SCode := (.seq (.reg false qaqn [0]) (.seq (.reg false qaqm [0, 2]) (.block 0 (.loop qahe))))
theorem qaiw : comp Try.prog 162 ((Try.f26.body).getD .skip) = some c_jnodes.erase := by kernel_rfl
abbrev qaqc : List SOper := [Oa 1 (.box 29 (.t 0)), Oa 2 (.alloc 34 [(.int .i64 0), (.int .i64 0)])]
abbrev qaqb : List SOper := [Oa 10 (.loads 7 (.t 1)), Oa 11 (.build [.nilsl, .nilsl, .nilsl, .nilsl, .nilsl, .nilsl, .nilsl, (.int .i64 0), (.int .i64 0)] [(0, 7, (.t 10))]), Oa 12 (.box 80 (.t 11)), Oa 3 (.mv (.t 12))]
abbrev qaqa : List SOper := [Oa 13 (.mv (.t 3)), Oa 14 (.faddr 0 (.t 1)), Oa 15 (.load (.t 14)), Oa 16 (.len false (.t 15)), Oa 17 (.bin .gtr (.t 16) (.c (.int .i64 6))), Oc 18 21 [(.t 13), (.t 17), (.c (.int .i64 2)), (.c (.int .i64 (-1)))]]
abbrev qap9 : List SOper := [Oa 4 (.mv (.c (.int .i64 0)))]
abbrev qap8 : List SOper := [Oa 19 (.mv (.t 4)), Oa 20 (.faddr 0 (.t 1)), Oa 21 (.load (.t 20)), Oa 22 (.len false (.t 21)), Oa 23 (.bin .lss (.t 19) (.t 22)), Oa 24 (.mv (.t 23)), Oe 25 (.mv (.t 3)) 24 true, Oe 26 (.nilc (.t 25)) 24 true, Oe 27 (.faddr 7 (.t 26)) 24 true, Oe 28 (.faddr 0 (.t 27)) 24 true, Oe 29 (.load (.t 28)) 24 true, Oe 30 (.bin .eql (.t 29) (.c (.int .i64 0))) 24 true, Oa 31 (.pick (.t 24) (.t 30) (.c (.bool false)))]
abbrev qap7 : List SOper := [Oa 35 (.faddr 0 (.t 1)), Oa 36 (.load (.t 35)), Oa 37 (.mv (.t 4)), Oa 38 (.iaddr 1 (.t 36) (.t 37)), Oa 39 (.loads 1 (.t 38)), Oc 40 22 [(.t 39)], Oa 34 (.mv (.t 40)), Oa 41 (.extr (.t 34) 0), Oa 42 (.extr (.t 34) 1), Oa 6 (.alloc 34 [(.int .i64 0), (.int .i64 0)]), Oa 5 (.mv (.t 41)), Ob (.store 2 (.t 6) (.t 42))]
abbrev qap6 : List SOper := [Oa 43 (.mv (.t 3)), Oa 44 (.faddr 0 (.t 6)), Oa 45 (.load (.t 44)), Oa 46 (.bin .neq (.t 45) (.c (.int .i64 0))), Oa 47 (.faddr 0 (.t 6)), Oa 48 (.load (.t 47)), Oa 49 (.mv (.t 4)), Oa 50 (.bin .add (.c (.int .i64 1000)) (.t 49)), Oc 51 21 [(.t 43), (.t 46), (.t 48), (.t 50)]]
abbrev qap5 : List SOper := [Oa 32 (.mv (.t 4)), Oa 33 (.bin .add (.t 32) (.c (.int .i64 1))), Oa 4 (.mv (.t 33))]
def qahd : SCode := (.seq (.seq (.reg false qap8 [1, 2, 3, 4, 31]) (.cond (.t 31) .skip (.exit 0))) (.seq (.block 1 (.seq (.reg false qap7 [1, 2, 3, 4, 6]) (.reg false qap6 [1, 2, 3, 4]))) (.reg false qap5 [1, 2, 3, 4])))
abbrev qahc : List SOper := [Oa 52 (.mv (.t 3)), Oa 53 (.faddr 1 (.t 1)), Oa 54 (.load (.t 53)), Oa 55 (.len false (.t 54)), Oa 56 (.bin .gtr (.t 55) (.c (.int .i64 4))), Oc 57 21 [(.t 52), (.t 56), (.c (.int .i64 2)), (.c (.int .i64 (-2)))]]
abbrev qaga : List SOper := [Oa 58 (.faddr 1 (.t 1)), Oa 59 (.load (.t 58)), Oa 60 (.len false (.t 59)), Oa 61 (.mv (.c (.int .i64 0)))]
abbrev qalq : List SOper := [Oa 62 (.bin .lss (.t 61) (.t 60))]
abbrev qalp : List SOper := [Oa 63 (.mv (.t 61)), Oa 64 (.iaddr 1 (.t 59) (.t 61)), Oa 65 (.load (.t 64)), Oa 7 (.mv (.t 63)), Oa 8 (.mv (.t 65))]
abbrev qalo : List SOper := [Oa 66 (.mv (.t 3)), Oa 67 (.mv (.t 8)), Oa 68 (.bin .lss (.t 67) (.c (.int .i64 1))), Oa 69 (.mv (.t 68)), Oe 70 (.mv (.t 8)) 69 false, Oe 71 (.bin .gtr (.t 70) (.c (.int .i64 48))) 69 false, Oa 72 (.pick (.t 69) (.c (.bool true)) (.t 71)), Oa 73 (.mv (.t 7)), Oa 74 (.bin .add (.c (.int .i64 2000)) (.t 73)), Oc 75 21 [(.t 66), (.t 72), (.c (.int .i64 6)), (.t 74)]]
abbrev qaln : List SOper := [Oa 76 (.bin .add (.t 61) (.c (.int .i64 1))), Oa 61 (.mv (.t 76))]
def qafa : SCode := (.seq (.reg false qalq [1, 2, 3, 59, 60, 61, 62]) (.seq (.cond (.t 62) .skip (.exit 2)) (.seq (.block 3 (.seq (.reg false qalp [1, 2, 3, 7, 8, 59, 60, 61]) (.reg false qalo [1, 2, 3, 59, 60, 61]))) (.reg false qaln [1, 2, 3, 59, 60, 61]))))
abbrev qaf9 : List SOper := [Oa 77 (.mv (.t 3)), Oa 78 (.nilc (.t 77)), Oa 79 (.faddr 7 (.t 78)), Oa 80 (.faddr 0 (.t 79)), Oa 81 (.load (.t 80)), Oa 82 (.bin .neq (.t 81) (.c (.int .i64 0)))]
abbrev qaf8 : List SOper := [Oa 83 (.mv (.t 3)), Oa 84 (.nilc (.t 83)), Oa 85 (.faddr 7 (.t 84)), Oa 86 (.loads 2 (.t 85)), Ob (.store 2 (.t 2) (.t 86))]
abbrev qaek : List SOper := [Oa 87 (.mv (.t 3)), Oc 88 23 [(.t 87)]]
abbrev qaej : List SOper := [Oa 89 (.mv (.t 3)), Oc 90 24 [(.t 89)]]
abbrev qaei : List SOper := [Oa 91 (.mv (.t 3)), Oc 92 25 [(.t 91)]]
abbrev qaeh : List SOper := [Oa 93 (.mv (.t 3)), Oc 94 26 [(.t 93)]]
abbrev qaeg : List SOper := [Oa 95 (.mv (.t 3)), Oa 96 (.faddr 6 (.t 1)), Oa 97 (.load (.t 96)), Oa 98 (.len false (.t 97)), Oa 99 (.bin .gtr (.t 98) (.c (.int .i64 6))), Oc 100 21 [(.t 95), (.t 99), (.c (.int .i64 2)), (.c (.int .i64 (-7)))]]
abbrev qaef : List SOper := [Oa 9 (.mv (.c (.int .i64 0)))]
abbrev qalm : List SOper := [Oa 101 (.mv (.t 9)), Oa 102 (.faddr 6 (.t 1)), Oa 103 (.load (.t 102)), Oa 104 (.len false (.t 103)), Oa 105 (.bin .lss (.t 101) (.t 104)), Oa 106 (.mv (.t 105)), Oe 107 (.mv (.t 3)) 106 true, Oe 108 (.nilc (.t 107)) 106 true, Oe 109 (.faddr 7 (.t 108)) 106 true, Oe 110 (.faddr 0 (.t 109)) 106 true, Oe 111 (.load (.t 110)) 106 true, Oe 112 (.bin .eql (.t 111) (.c (.int .i64 0))) 106 true, Oa 113 (.pick (.t 106) (.t 112) (.c (.bool false)))]
abbrev qall : List SOper := [Oa 116 (.mv (.t 3)), Oa 117 (.faddr 6 (.t 1)), Oa 118 (.load (.t 117)), Oa 119 (.mv (.t 9)), Oa 120 (.iaddr 1 (.t 118) (.t 119)), Oa 121 (.load (.t 120)), Oa 122 (.mv (.t 9)), Oa 123 (.bin .add (.c (.int .i64 7000)) (.t 122)), Oc 124 27 [(.t 116), (.t 121), (.t 123)]]
abbrev qalk : List SOper := [Oa 125 (.mv (.t 3)), Oa 126 (.faddr 6 (.t 1)), Od 127 (.load (.t 126)) 2, Oa 128 (.mv (.t 9)), Od 129 (.slice 1 (.t 127) none (some (.t 128))) 14, Oa 130 (.faddr 6 (.t 1)), Od 131 (.load (.t 130)) 32, Oa 132 (.mv (.t 9)), Od 133 (.iaddr 1 (.t 131) (.t 132)) 224, Od 134 (.load (.t 133)) 480, ⟨(some 135), .mv (.c .any), some ((.c (.fn (.func 28) [] [])), [(.t 129), (.t 134)]), none, 1022⟩, Oa 136 (.mv (.t 9)), Od 137 (.bin .add (.c (.int .i64 7000)) (.t 136)) 2048, ⟨(some 138), .mv (.c .any), some ((.c (.fn (.func 21) [] [])), [(.t 125), (.t 135), (.c (.int .i64 7)), (.t 137)]), none, 8191⟩]
abbrev qalj : List SOper := [Oa 114 (.mv (.t 9)), Oa 115 (.bin .add (.t 114) (.c (.int .i64 1))), Oa 9 (.mv (.t 115))]
def qad3 : SCode := (.seq (.seq (.reg false qalm [1, 2, 3, 9, 113]) (.cond (.t 113) .skip (.exit 4))) (.seq (.block 5 (.seq (.reg false qall [1, 2, 3, 9]) (.reg true qalk [1, 2, 3, 9]))) (.reg false qalj [1, 2, 3, 9])))
abbrev qadq : List SOper := [Oa 139 (.mv (.t 3)), Oa 140 (.nilc (.t 139)), Oa 141 (.faddr 7 (.t 140)), Oa 142 (.loads 2 (.t 141)), Ob (.store 2 (.t 2) (.t 142))]
def c_pcheck : SCode := (.seq (.reg false qaqc [1, 2]) (.seq (.reg false qaqb [1, 2, 3]) (.seq (.reg false qaqa [1, 2, 3]) (.seq (.seq (.reg false qap9 [1, 2, 3, 4]) (.block 0 (.loop qahd))) (.seq (.reg false qahc [1, 2, 3]) (.seq (.seq (.reg false qaga [1, 2, 3, 59, 60, 61]) (.block 2 (.loop qafa))) (.seq (.seq (.reg false qaf9 [1, 2, 3, 82]) (.cond (.t 82) (.seq (.reg false qaf8 [2]) .ret) .skip)) (.seq (.reg false qaek [1, 2, 3]) (.seq (.reg false qaej [1, 2, 3]) (.seq (.reg false qaei [1, 2, 3]) (.seq (.reg false qaeh [1, 2, 3]) (.seq (.reg false qaeg [1, 2, 3]) (.seq (.seq (.reg false qaef [1, 2, 3, 9]) (.block 4 (.loop qad3))) (.seq (.reg false qadq [2]) .ret))))))))))))))
theorem qaiv : comp Try.prog 143 ((Try.f12.body).getD .skip) = some c_pcheck.erase := by kernel_rfl
abbrev qapz : List SOper := [Oa 3 (.box 62 (.t 0)), Oa 6 (.mv (.c (.int .i64 0)))]
abbrev qapy : List SOper := [Oa 12 (.faddr 0 (.t 3)), Oa 13 (.load (.t 12)), Oa 14 (.bin .neq (.t 13) (.c (.int .i64 1))), Oa 15 (.mv (.t 14)), Oe 16 (.faddr 0 (.t 3)) 15 true, Oe 17 (.load (.t 16)) 15 true, Oe 18 (.bin .neq (.t 17) (.c (.int .i64 2))) 15 true, Oa 19 (.pick (.t 15) (.t 18) (.c (.bool false))), Oa 20 (.mv (.t 19)), Oe 21 (.faddr 0 (.t 3)) 20 true, Oe 22 (.load (.t 21)) 20 true, Oe 23 (.bin .neq (.t 22) (.c (.int .i64 3))) 20 true, Oa 24 (.pick (.t 20) (.t 23) (.c (.bool false))), Oa 11 (.mv (.t 24))]
abbrev qapx : List SOper := [Oa 6 (.mv (.c (.int .i64 5)))]
abbrev qapw : List SOper := [Oa 26 (.mv (.t 1)), Oa 27 (.len false (.t 26)), Oa 28 (.bin .eql (.t 27) (.c (.int .i64 0))), Oa 29 (.mv (.t 28)), Oe 30 (.mv (.t 1)) 29 false, Oe 31 (.len false (.t 30)) 29 false, Oe 32 (.bin .gtr (.t 31) (.c (.int .i64 3))) 29 false, Oa 33 (.pick (.t 29) (.c (.bool true)) (.t 32)), Oa 34 (.mv (.t 33)), Oe 35 (.faddr 0 (.t 3)) 34 false, Oe 36 (.load (.t 35)) 34 false, Oe 37 (.bin .eql (.t 36) (.c (.int .i64 2))) 34 false, Oe 38 (.mv (.t 37)) 34 false, Oe 39 (.mv (.t 1)) 38 true, Oe 40 (.len false (.t 39)) 38 true, Oe 41 (.bin .neq (.t 40) (.c (.int .i64 1))) 38 true, Oe 42 (.pick (.t 38) (.t 41) (.c (.bool false))) 34 false, Oa 43 (.pick (.t 34) (.c (.bool true)) (.t 42)), Oa 44 (.mv (.t 43)), Oe 45 (.faddr 2 (.t 3)) 44 false, Oe 46 (.load (.t 45)) 44 false, Oe 47 (.len false (.t 46)) 44 false, Oe 48 (.bin .eql (.t 47) (.c (.int .i64 0))) 44 false, Oa 49 (.pick (.t 44) (.c (.bool true)) (.t 48)), Oa 50 (.mv (.t 49)), Oe 51 (.faddr 2 (.t 3)) 50 false, Oe 52 (.load (.t 51)) 50 false, Oe 53 (.len false (.t 52)) 50 false, Oe 54 (.bin .gtr (.t 53) (.c (.int .i64 4))) 50 false, Oa 55 (.pick (.t 50) (.c (.bool true)) (.t 54)), Oa 25 (.mv (.t 55))]
abbrev qapv : List SOper := [Oa 6 (.mv (.c (.int .i64 2)))]
abbrev qapu : List SOper := [Oa 57 (.faddr 3 (.t 3)), Oa 58 (.load (.t 57)), Oa 59 (.bin .lss (.t 58) (.c (.int .i64 0))), Oa 60 (.mv (.t 59)), Oe 61 (.faddr 3 (.t 3)) 60 false, Oe 62 (.load (.t 61)) 60 false, Oe 63 (.bin .gtr (.t 62) (.c (.int .i64 16))) 60 false, Oa 64 (.pick (.t 60) (.c (.bool true)) (.t 63)), Oa 56 (.mv (.t 64))]
abbrev qapt : List SOper := [Oa 6 (.mv (.c (.int .i64 1)))]
abbrev qaps : List SOper := [Oa 65 (.mv (.t 1)), Oa 66 (.len false (.t 65)), Oa 67 (.mv (.c (.int .i64 0)))]
abbrev qapr : List SOper := [Oa 68 (.bin .lss (.t 67) (.t 66))]
abbrev qali : List SOper := [Oa 69 (.iaddr 1 (.t 65) (.t 67)), Oa 70 (.load (.t 69)), Oa 8 (.mv (.t 70))]
abbrev qalh : List SOper := [Oa 71 (.mv (.t 8)), Oa 72 (.bin .lss (.t 71) (.c (.int .i64 1))), Oa 73 (.mv (.t 72)), Oe 74 (.mv (.t 8)) 73 false, Oe 75 (.bin .gtr (.t 74) (.c (.int .i64 48))) 73 false, Oa 76 (.pick (.t 73) (.c (.bool true)) (.t 75))]
abbrev qalg : List SOper := [Oa 6 (.mv (.c (.int .i64 6)))]
abbrev qalf : List SOper := [Oa 77 (.bin .add (.t 67) (.c (.int .i64 1))), Oa 67 (.mv (.t 77))]
def qag8 : SCode := (.seq (.reg false qapr [2, 3, 65, 66, 67, 68]) (.seq (.cond (.t 68) .skip (.exit 1)) (.seq (.block 2 (.seq (.reg false qali [2, 3, 8, 65, 66, 67]) (.seq (.reg false qalh [2, 3, 65, 66, 67, 76]) (.cond (.t 76) (.seq (.reg false qalg [6]) .ret) .skip)))) (.reg false qalf [2, 3, 65, 66, 67]))))
abbrev qale : List SOper := [Oa 78 (.faddr 2 (.t 3)), Oa 79 (.load (.t 78)), Oa 80 (.len false (.t 79)), Oa 81 (.mv (.c (.int .i64 0)))]
abbrev qald : List SOper := [Oa 82 (.bin .lss (.t 81) (.t 80))]
abbrev qalc : List SOper := [Oa 83 (.iaddr 1 (.t 79) (.t 81)), Oa 84 (.load (.t 83)), Oa 10 (.mv (.t 84))]
abbrev qalb : List SOper := [Oa 85 (.mv (.t 10)), Oa 86 (.bin .lss (.t 85) (.c (.int .i64 0))), Oa 87 (.mv (.t 86)), Oe 88 (.mv (.t 10)) 87 false, Oe 89 (.mv (.t 2)) 87 false, Oe 90 (.len false (.t 89)) 87 false, Oe 91 (.bin .geq (.t 88) (.t 90)) 87 false, Oa 92 (.pick (.t 87) (.c (.bool true)) (.t 91))]
abbrev qala : List SOper := [Oa 6 (.mv (.c (.int .i64 1)))]
abbrev qak9 : List SOper := [Oa 93 (.bin .add (.t 81) (.c (.int .i64 1))), Oa 81 (.mv (.t 93))]
def qag7 : SCode := (.seq (.reg false qald [2, 3, 79, 80, 81, 82]) (.seq (.cond (.t 82) .skip (.exit 3)) (.seq (.block 4 (.seq (.reg false qalc [2, 3, 10, 79, 80, 81]) (.seq (.reg false qalb [2, 3, 79, 80, 81, 92]) (.cond (.t 92) (.seq (.reg false qala [6]) .ret) .skip)))) (.reg false qak9 [2, 3, 79, 80, 81]))))
abbrev qak8 : List SOper := [Oa 94 (.loads 6 (.t 3)), Oa 95 (.mv (.t 2)), Oa 96 (.faddr 4 (.t 3)), Oa 97 (.load (.t 96)), Oa 98 (.faddr 5 (.t 3)), Oa 99 (.load (.t 98)), Oc 100 70 [(.t 94), (.t 95), (.t 97), (.t 99)], Oa 6 (.mv (.t 100))]
def c_tcheck : SCode := (.seq (.reg false qapz [1, 2, 3]) (.seq (.block 0 (.seq (.reg false qapy [1, 2, 3, 11]) (.cond (.t 11) (.seq (.reg false qapx [6]) .ret) (.seq (.reg false qapw [1, 2, 3, 25]) (.cond (.t 25) (.seq (.reg false qapv [6]) .ret) (.seq (.reg false qapu [1, 2, 3, 56]) (.cond (.t 56) (.seq (.reg false qapt [6]) .ret) .skip))))))) (.seq (.seq (.reg false qaps [2, 3, 65, 66, 67]) (.block 1 (.loop qag8))) (.seq (.seq (.reg false qale [2, 3, 79, 80, 81]) (.block 3 (.loop qag7))) (.seq (.reg false qak8 [6]) .ret)))))
theorem qaiu : comp Try.prog 101 ((Try.f54.body).getD .skip) = some c_tcheck.erase := by kernel_rfl
abbrev qaz9 : List SOper := [Oa 4 (.box 62 (.t 0)), Oa 8 (.mv (.c (.int .i64 0)))]
abbrev qaz8 : List SOper := [Oa 12 (.faddr 2 (.t 4)), Oa 13 (.load (.t 12)), Oa 14 (.mv (.t 2)), Oc 15 28 [(.t 13), (.t 14)], Oa 16 (.un .not (.t 15))]
abbrev qaz7 : List SOper := [Oa 8 (.mv (.c (.int .i64 5)))]
abbrev qaz6 : List SOper := [Oa 17 (.mv (.t 1)), Oa 18 (.mv (.t 2)), Oa 19 (.iaddr 2 (.t 17) (.t 18)), Oa 20 (.faddr 0 (.t 19)), Oa 21 (.load (.t 20)), Oa 9 (.mv (.t 21))]
abbrev qaz5 : List SOper := [Oa 22 (.mv (.t 3)), Oa 23 (.len false (.t 22)), Oa 24 (.mv (.t 9)), Oa 25 (.len false (.t 24)), Oa 26 (.bin .neq (.t 23) (.t 25))]
abbrev qaz4 : List SOper := [Oa 8 (.mv (.c (.int .i64 2)))]
abbrev qaz3 : List SOper := [Oa 27 (.mv (.t 3)), Oa 28 (.len false (.t 27)), Oa 29 (.mv (.c (.int .i64 0)))]
abbrev qaz2 : List SOper := [Oa 30 (.bin .lss (.t 29) (.t 28))]
abbrev qaz1 : List SOper := [Oa 31 (.mv (.t 29)), Oa 32 (.iaddr 1 (.t 27) (.t 29)), Oa 33 (.load (.t 32)), Oa 10 (.mv (.t 31)), Oa 11 (.mv (.t 33))]
abbrev qave : List SOper := [Oa 34 (.mv (.t 11)), Oa 35 (.mv (.t 9)), Oa 36 (.mv (.t 10)), Oa 37 (.iaddr 1 (.t 35) (.t 36)), Oa 38 (.load (.t 37)), Oc 39 50 [(.t 38)], Oa 40 (.bin .gtr (.t 34) (.t 39))]
abbrev qavd : List SOper := [Oa 8 (.mv (.c (.int .i64 6)))]
abbrev qavc : List SOper := [Oa 41 (.bin .add (.t 29) (.c (.int .i64 1))), Oa 29 (.mv (.t 41))]
def qanl : SCode := (.seq (.reg false qaz2 [9, 27, 28, 29, 30]) (.seq (.cond (.t 30) .skip (.exit 0)) (.seq (.block 1 (.seq (.reg false qaz1 [9, 10, 11, 27, 28, 29]) (.seq (.reg false qave [9, 27, 28, 29, 40]) (.cond (.t 40) (.seq (.reg false qavd [8]) .ret) .skip)))) (.reg false qavc [9, 27, 28, 29]))))
abbrev qavb : List SOper := [Oa 8 (.mv (.c (.int .i64 0)))]
def c_says : SCode := (.seq (.reg false qaz9 [1, 2, 3, 4]) (.seq (.seq (.reg false qaz8 [1, 2, 3, 16]) (.cond (.t 16) (.seq (.reg false qaz7 [8]) .ret) .skip)) (.seq (.reg false qaz6 [3, 9]) (.seq (.seq (.reg false qaz5 [3, 9, 26]) (.cond (.t 26) (.seq (.reg false qaz4 [8]) .ret) .skip)) (.seq (.seq (.reg false qaz3 [9, 27, 28, 29]) (.block 0 (.loop qanl))) (.seq (.reg false qavb [8]) .ret))))))
theorem qan9 : comp Try.prog 42 ((Try.f70.body).getD .skip) = some c_says.erase := by kernel_rfl
abbrev qajv : List SOper := [Oa 4 (.mv (.c (.bool false)))]
abbrev qaju : List SOper := [Oa 5 (.mv (.t 0)), Oa 6 (.mv (.t 1)), Oc 7 56 [(.t 5), (.t 6)], Oa 8 (.bin .geq (.t 7) (.c (.int .i64 0))), Oa 4 (.mv (.t 8))]
def c_contains : SCode := (.seq (.reg false qajv [0, 1]) (.seq (.reg false qaju [4]) .ret))
theorem qagk : comp Try.prog 9 ((Try.f28.body).getD .skip) = some c_contains.erase := by kernel_rfl
abbrev qawp : List SOper := [Oa 4 (.mv (.c (.int .i64 0)))]
abbrev qawo : List SOper := [Oa 6 (.mv (.t 0)), Oa 7 (.len false (.t 6)), Oa 8 (.mv (.c (.int .i64 0)))]
abbrev qawn : List SOper := [Oa 9 (.bin .lss (.t 8) (.t 7))]
abbrev qawm : List SOper := [Oa 10 (.mv (.t 8)), Oa 5 (.mv (.t 10))]
abbrev qawl : List SOper := [Oa 11 (.mv (.t 1)), Oa 12 (.mv (.t 0)), Oa 13 (.mv (.t 5)), Oa 14 (.iaddr 1 (.t 12) (.t 13)), Oa 15 (.load (.t 14)), Oa 16 (.bin .eql (.t 11) (.t 15))]
abbrev qawk : List SOper := [Oa 17 (.mv (.t 5)), Oa 4 (.mv (.t 17))]
abbrev qawj : List SOper := [Oa 18 (.bin .add (.t 8) (.c (.int .i64 1))), Oa 8 (.mv (.t 18))]
def qajn : SCode := (.seq (.reg false qawn [0, 1, 7, 8, 9]) (.seq (.cond (.t 9) .skip (.exit 0)) (.seq (.block 1 (.seq (.reg false qawm [0, 1, 5, 7, 8]) (.seq (.reg false qawl [0, 1, 5, 7, 8, 16]) (.cond (.t 16) (.seq (.reg false qawk [4]) .ret) .skip)))) (.reg false qawj [0, 1, 7, 8]))))
abbrev qawi : List SOper := [Oa 4 (.mv (.c (.int .i64 (-1))))]
def c_index : SCode := (.seq (.reg false qawp [0, 1]) (.seq (.seq (.reg false qawo [0, 1, 7, 8]) (.block 0 (.loop qajn))) (.seq (.reg false qawi [4]) .ret)))
theorem qak2 : comp Try.prog 19 ((Try.f56.body).getD .skip) = some c_index.erase := by kernel_rfl
end Go.Proofs.Ytbefmmajjfijnaa
namespace Go.Proofs.Ytbefmmajjfijnaa
set_option linter.all false
open Go.RowKit
attribute [local simp] qabl qabk qaav qaa9 qaaw qaa8 qabi qabj qaaq qab6 SOp.run SX.ev putd puts argS upds SOp.touch SSt.keep SSt.skip gets geth puth delh idOf SV.cells? setL qaeb qaec sbin eq0 eq1 eqL qadx qac0 qac1 qaa3 qabm qaai qabn qab7 qaao qaan FrzOk qabc qaay qaba qabb qaar qaax qabo qaaz qaat qabd qaas frzS frzH frz frz1 frz0 SlotsM ObjsM ObjM rn ren ren1 ren0 qaca qacx qacs qab9 qabp qac3 qac2 CoL qabe qaby dels adds idsH qabu
instance : PureF refc := ⟨fun _ _ => rfl, fun _ => rfl, fun _ => qab8 _ rfl⟩
instance : PureF qagg := ⟨fun _ _ => rfl, fun _ => rfl, fun _ => qab8 _ rfl⟩
instance : PureF qaj1 := ⟨fun _ _ => rfl, fun _ => rfl, fun _ => qab8 _ rfl⟩
instance : PureF qag3 := ⟨fun _ _ => rfl, fun _ => rfl, fun _ => qab8 _ rfl⟩
instance : PureF qade := ⟨fun _ _ => rfl, fun _ => rfl, fun _ => qab8 _ rfl⟩
instance : PureF opc := ⟨fun _ _ => rfl, fun _ => rfl, fun _ => qab8 _ rfl⟩
instance : PureF actc := ⟨fun _ _ => rfl, fun _ => rfl, fun _ => qab8 _ rfl⟩
instance : PureF tabc := ⟨fun _ _ => rfl, fun _ => rfl, fun _ => qab8 _ rfl⟩
instance : PureF qagu := ⟨fun _ _ => rfl, fun _ => rfl, fun _ => qab8 _ rfl⟩
attribute [local simp] qaj1 refc qagg qag3 qade opc actc tabc qagu qadj nums
theorem width_s (p : PlanD) (r : RefD) (args : List Int) : SCalls Try.prog 49 [.agg (qadj p), .agg (refc r), nums .i64 args] [] 0 (.int .i64 (qabv p r args)) [] := by
 refine qaau (N := 62) Try.func49 rfl rfl (by kernel_rfl) qakt (by simp) (by repeat' (first | exact trivial | refine And.intro ?_ ?_ | rfl | decide | exact PureR.ren _)) (by repeat' (first | exact trivial | refine And.intro ?_ ?_ | rfl | decide | exact PureR.ren _)) ?_
 rintro X hP hN hm
 unfold c_width
 repeat' (first | (with_reducible first | refine zA ?_ | refine qaae ?_) | ((with_reducible refine qaad ?_); (try rw [hP]); simp -implicitDefEqProofs [*]) | ((with_reducible refine qaaf ?_); (try simp -implicitDefEqProofs [*])) | ((with_reducible refine qaa4 ?_); (try simp only [qaa3, qaai, qaao])) | ((with_reducible refine qaab rfl (fun h => ?_) (fun h => ?_)) <;> have h' := h <;> (try simp at h') <;> (try subst h')) | ((with_reducible refine qaa6 (fun h => ?_) (fun h => ?_)) <;> have h' := h <;> (try simp at h') <;> (try subst h') <;> simp -implicitDefEqProofs [*]) | (with_reducible refine zM hm ?_) | fail)
 all_goals ((try simp only [qabv, qa2p, qa1i, headW, el]); (repeat' split) <;> (first | omega | (simp_all; done) | (simp_all; omega)))
theorem takes_s (op : Int) : SCalls Try.prog 71 [.int .i64 op] [] 0 (.int .i64 (qaci op)) [] := by
 refine qaau (N := 20) Try.func71 rfl rfl (by kernel_rfl) qakv (by simp) (by repeat' (first | exact trivial | refine And.intro ?_ ?_ | rfl | decide | exact PureR.ren _)) (by repeat' (first | exact trivial | refine And.intro ?_ ?_ | rfl | decide | exact PureR.ren _)) ?_
 rintro X hP hN hm
 unfold c_takes
 repeat' (first | (with_reducible first | refine zA ?_ | refine qaae ?_) | ((with_reducible refine qaad ?_); (try rw [hP]); simp -implicitDefEqProofs [*]) | ((with_reducible refine qaaf ?_); (try simp -implicitDefEqProofs [*])) | ((with_reducible refine qaa4 ?_); (try simp only [qaa3, qaai, qaao])) | ((with_reducible refine qaab rfl (fun h => ?_) (fun h => ?_)) <;> have h' := h <;> (try simp at h') <;> (try subst h')) | ((with_reducible refine qaa6 (fun h => ?_) (fun h => ?_)) <;> have h' := h <;> (try simp at h') <;> (try subst h') <;> simp -implicitDefEqProofs [*]) | (with_reducible refine zM hm ?_) | fail)
 all_goals (first | (simp [qaci, *]; done) | (simp_all [qaci]; done) | (simp_all [qaci]; omega))
def jc (p : PlanD) (a b : Int) : List SV := qadj p ++ [.int .i64 a, .int .i64 b]
def qabx (a b : Int) (is : Bool) (code at_ : Int) : Int × Int := if is = true ∧ a = 0 then (code, at_) else (a, b)
attribute [local simp] jc
theorem jfail_s (p : PlanD) (a b : Int) (is : Bool) (code at_ : Int) : SCalls Try.prog 21 [.ptr 0 0, .bool is, .int .i64 code, .int .i64 at_] [(0, .cells 80 (jc p a b))] 1 (.tup []) [(0, .cells 80 (jc p (qabx a b is code at_).1 (qabx a b is code at_).2))] := by
 refine qaau (N := 23) Try.func21 rfl rfl (by kernel_rfl) qak0 (by simp) (by repeat' (first | exact trivial | refine And.intro ?_ ?_ | rfl | decide | exact PureR.ren _)) (by repeat' (first | exact trivial | refine And.intro ?_ ?_ | rfl | decide | exact PureR.ren _)) ?_
 rintro X hP hN hm
 unfold c_jfail
 repeat' (first | (with_reducible refine zA ?_) | ((with_reducible refine qaad ?_); (try rw [hP]); simp -implicitDefEqProofs [*]) | ((with_reducible refine qaaf ?_); (try simp -implicitDefEqProofs [*])) | ((with_reducible refine qaab rfl (fun h => ?_) (fun h => ?_)) <;> have h' := h <;> (try simp at h') <;> (try subst h')) | ((with_reducible refine qaa6 (fun h => ?_) (fun h => ?_)) <;> have h' := h <;> (try simp at h') <;> (try subst h') <;> simp -implicitDefEqProofs [*]) | (refine qab4 hm rfl ?_ (fun σ => rfl)) | fail)
 all_goals (first | (simp [qabx, *]; done) | (simp_all [qabx]; done) | (simp_all [qabx]; omega))
theorem qaak (p : PlanD) (a b : Int) (is : Bool) (code at_ : Int) (id q : Nat) (h : id < q) : SCalls Try.prog 21 [.ptr id 0, .bool is, .int .i64 code, .int .i64 at_] [(id, .cells 80 (jc p a b))] q (.tup []) [(id, .cells 80 (jc p (qabx a b is code at_).1 (qabx a b is code at_).2))] :=
 qacf (jfail_s p a b is code at_) (fun _ => rfl) (fun _ => rfl) (fun _ => rfl) rfl (fun _ => rfl) rfl id q h
theorem qai0 (p : PlanD) (r : RefD) (args : List Int) (q : Nat) : SCalls Try.prog 49 [.agg (qadj p), .agg (refc r), nums .i64 args] [] q (.int .i64 (qabv p r args)) [] := qacq (width_s p r args) (fun _ => rfl) (fun _ => rfl) rfl q
theorem qae8 (p : PlanD) (r : RefD) (q : Nat) : SCalls Try.prog 49 [.agg (qadj p), .agg (refc r), .nilsl] [] q (.int .i64 (qabv p r [])) [] := qamt (qai0 p r [] q) ⟨Co.refl _, Co.refl _, Co.nilsl _, trivial⟩
theorem qatm (op : Int) (q : Nat) : SCalls Try.prog 71 [.int .i64 op] [] q (.int .i64 (qaci op)) [] := qacq (takes_s op) (fun _ => rfl) (fun _ => rfl) rfl q
theorem qayo (p : PlanD) (a b : Int) (r : RefD) (at_ : Int) : SCalls Try.prog 69 [.ptr 0 0, .agg (refc r), .int .i64 at_] [(0, .cells 80 (jc p a b))] 1 (.tup []) [(0, .cells 80 (jc p (qabx a b (!(decide (-1 ≤ r.h)) || qabv p r [] == 0) 1 at_).1 (qabx a b (!(decide (-1 ≤ r.h)) || qabv p r [] == 0) 1 at_).2))] := by
 refine qaau (N := 21) Try.func69 rfl rfl (by kernel_rfl) qah0 (by simp) (by repeat' (first | exact trivial | refine And.intro ?_ ?_ | rfl | decide | exact PureR.ren _)) (by repeat' (first | exact trivial | refine And.intro ?_ ?_ | rfl | decide | exact PureR.ren _)) ?_
 rintro X hP hN hm
 unfold c_jtarget
 repeat' (first | (with_reducible first | refine zA ?_ | refine zK ?_) | ((with_reducible first | refine qaad ?_ | refine qacm (by rw [hP]; exact qanx) ?_); (try rw [hP]); simp -implicitDefEqProofs [*]) | ((with_reducible refine qaa6 (fun h => ?_) (fun h => ?_)) <;> have h' := h <;> (try simp at h') <;> (try subst h') <;> simp -implicitDefEqProofs [*]) | ((first | refine qacl (qae8 p r _) ?_ | refine qaal (qaak p a b _ _ _ _ _ (by simp)) ⟨rfl, trivial⟩ ⟨rfl, trivial⟩ ?_); simp -implicitDefEqProofs [*]) | (refine qab4 hm rfl ?_ (fun σ => rfl)) | fail)
 all_goals (first | (simp [qabx, *]; done) | (simp_all [qabx]; done) | (simp_all [qabx]; omega))
theorem jhead_s (p : PlanD) (a b : Int) (hh at_ : Int) : SCalls Try.prog 27 [.ptr 0 0, .int .i64 hh, .int .i64 at_] [(0, .cells 80 (jc p a b))] 1 (.tup []) [(0, .cells 80 (jc p (qabx a b (!qadu p hh) 1 at_).1 (qabx a b (!qadu p hh) 1 at_).2))] := by
 refine qaau (N := 21) Try.func27 rfl rfl (by kernel_rfl) qakz (by simp) (by repeat' (first | exact trivial | refine And.intro ?_ ?_ | rfl | decide | exact PureR.ren _)) (by repeat' (first | exact trivial | refine And.intro ?_ ?_ | rfl | decide | exact PureR.ren _)) ?_
 rintro X hP hN hm
 unfold c_jhead
 repeat' (first | ((with_reducible refine qaad ?_); (try rw [hP]); simp -implicitDefEqProofs [*]) | ((with_reducible refine qaa6 (fun h => ?_) (fun h => ?_)) <;> have h' := h <;> (try simp at h') <;> (try subst h') <;> simp -implicitDefEqProofs [*]) | (refine qaal (qaak p a b _ _ _ _ _ (by simp)) ⟨rfl, trivial⟩ ⟨rfl, trivial⟩ ?_; simp -implicitDefEqProofs [*]) | (refine qab4 hm rfl ?_ (fun σ => rfl)) | fail)
 all_goals (first | (simp [qabx, qadu, *]; done) | (simp_all [qabx, qadu]; done) | (simp_all [qabx, qadu]; omega))
theorem qak5 (p : PlanD) (a b : Int) (r : RefD) (at_ : Int) (id q : Nat) (h : id < q) : SCalls Try.prog 69 [.ptr id 0, .agg (refc r), .int .i64 at_] [(id, .cells 80 (jc p a b))] q (.tup []) [(id, .cells 80 (jc p (qabx a b (!(decide (-1 ≤ r.h)) || qabv p r [] == 0) 1 at_).1 (qabx a b (!(decide (-1 ≤ r.h)) || qabv p r [] == 0) 1 at_).2))] :=
 qacf (qayo p a b r at_) (fun _ => rfl) (fun _ => rfl) (fun _ => rfl) rfl (fun _ => rfl) rfl id q h
theorem qaf6 (p : PlanD) (a b : Int) (hh at_ : Int) (id q : Nat) (h : id < q) : SCalls Try.prog 27 [.ptr id 0, .int .i64 hh, .int .i64 at_] [(id, .cells 80 (jc p a b))] q (.tup []) [(id, .cells 80 (jc p (qabx a b (!qadu p hh) 1 at_).1 (qabx a b (!qadu p hh) 1 at_).2))] :=
 qacf (jhead_s p a b hh at_) (fun _ => rfl) (fun _ => rfl) (fun _ => rfl) rfl (fun _ => rfl) rfl id q h
def qadc (a b : Int) (code at_ : Int) : Int × Int := qabx a b (decide (code ≠ 0)) code at_
theorem qaxq (g : Int) (b1 b2 : Bool) (E at_ : Int) : qadc 0 g (if b1 = true then 13 else if b2 = true then 1 else E) at_ = qadc (qabx (qabx 0 g b1 13 at_).1 (qabx 0 g b1 13 at_).2 b2 1 at_).1 (qabx (qabx 0 g b1 13 at_).1 (qabx 0 g b1 13 at_).2 b2 1 at_).2 E at_ := by
 cases b1 <;> cases b2 <;> simp [qadc, qabx]
set_option maxHeartbeats 2000000 in
theorem jtree_s (p : PlanD) (a b : Int) (l : List PushD) (args : List Int) (at_ : Int) (hl : l.length ≤ 1000000) : SCalls Try.prog 55 [.ptr 0 0, qach l, nums .i64 args, .int .i64 at_] [(0, .cells 80 (jc p a b))] 1 (.tup []) [(0, .cells 80 (jc p (qadc a b (qahz p l args) at_).1 (qadc a b (qahz p l args) at_).2))] := by
 refine qaau (N := 79) Try.func55 rfl rfl (by kernel_rfl) qakx (by simp) (by repeat' (first | exact trivial | refine And.intro ?_ ?_ | rfl | decide | exact PureR.ren _)) (by repeat' (first | exact trivial | refine And.intro ?_ ?_ | rfl | decide | exact PureR.ren _)) ?_
 rintro X hP hN hm
 unfold c_jtree
 have hz : ∀ c, qadc a b (qahz p l args) at_ = qadc (qabx a b (decide (8 < (l.length : Int))) 2 at_).1 (qabx a b (decide (8 < (l.length : Int))) 2 at_).2 c at_ ∨ l.length ≤ 8 := fun c => by
  by_cases h8 : l.length ≤ 8
  ·exact .inr h8
  ·left
   have e1 : qahz p l args = 2 := by unfold qahz; rw [if_pos (by omega)]
   have e2 : decide (8 < (l.length : Int)) = true := by simp; omega
   rw [e1, e2]
   unfold qadc qabx
   by_cases ha : a = 0 <;> simp [ha]
 have hz2 : qadc a b (qahz p l args) at_ = qadc (qabx a b (decide (8 < (l.length : Int))) 2 at_).1 (qabx a b (decide (8 < (l.length : Int))) 2 at_).2 (qagj p args l 0) at_ := by
  rcases hz (qagj p args l 0) with h | h
  ·exact h
  ·have e2 : decide (8 < (l.length : Int)) = false := by simp; omega
   have e1 : qahz p l args = qagj p args l 0 := by unfold qahz; rw [if_neg (by omega)]
   rw [e1, e2]; rfl
 clear hz
 have hfin : ∃ F, F = qadc a b (qahz p l args) at_ := ⟨_, rfl⟩
 obtain ⟨F, hF⟩ := hfin
 rw [← hF] at hz2 ⊢
 clear hF
 have hz3 := Lib.hid hz2
 clear hz2
 repeat' (first | (with_reducible refine zA ?_) | ((with_reducible refine qaad ?_); (try rw [hP]); simp -implicitDefEqProofs [qach, *]) | (refine qaal (qaak p a b _ _ _ _ _ (by simp)) ⟨rfl, trivial⟩ ⟨rfl, trivial⟩ ?_; simp -implicitDefEqProofs [qach, *]) | fail)
 refine qaaj (qaa5 (fun s (x : Nat × Int × Int × Int) => s.turn [(9, .int .i64 x.1), (8, .int .i64 x.2.1)] [(0, .cells 80 (jc p x.2.2.1 x.2.2.2))]) (fun x => x.1 ≤ l.length ∧ (-(x.1 : Int) ≤ x.2.1 ∧ x.2.1 ≤ 2 * x.1) ∧ F = qadc x.2.2.1 x.2.2.2 (qagj p args (l.drop x.1) x.2.1) at_) (fun x => l.length - x.1) (0, 0, _, _) ?_ ⟨by simp, by simp, hz3⟩ ?_)
 ·repeat' (first | ((with_reducible refine qaag [] hm ?_ ?_ ?_ ?_) <;> (try simp only [zT, puth, Nat.reduceEqDiff, reduceIte, Nat.reduceAdd])) | (with_reducible first | refine za ?_ ?_ | refine zb ?_ ?_ ?_ ?_) | (with_reducible first | exact qaaa | exact qaac) | ((with_reducible first | refine zga ?_ | refine zgb ?_); rfl) | ((with_reducible refine zgd ?_); (first | omega | (simp; done))) | (exact Co.refl _) | (exact CoL.refl _) | fail)
 rintro J hJ ⟨i, n, e, g⟩ ⟨h1, h2, h3⟩
 unfold qaja
 simp only [zT, puth, Nat.reduceEqDiff, reduceIte, Nat.reduceAdd] at h1 h2 h3 ⊢
 rcases Nat.lt_or_ge i l.length with hi | hi
 ·have hd : l.drop i = l[i] :: l.drop (i + 1) := List.drop_eq_getElem_cons hi
  rw [hd, qan1] at h3
  clear hd
  have tk : ∀ o, -1 ≤ qaci o ∧ qaci o ≤ 2 := fun o => by unfold qaci; repeat' split <;> omega
  have tw : ∀ o, IntKind.i64.wrap (1 - qaci o) = 1 - qaci o := fun o => by have := tk o; exact IntWalk.i64_in _ ⟨by omega, by omega⟩
  have tn : ∀ o, IntKind.i64.wrap (n + (1 - qaci o)) = n + (1 - qaci o) := fun o => by have := tk o; exact qaap (by omega) (by omega)
  have wi : IntKind.i64.wrap ((i : Int) + 1) = (i : Int) + 1 := qaap (by omega) (by omega)
  generalize hxx : l[i] = x at h3
  have tkx := tk x.op
  replace tk := Lib.hid tk
  replace h3 := Lib.hid h3
  by_cases he : e = 0
  ·subst he
   repeat' (first | (with_reducible first | refine zA ?_ | refine qaae ?_ | refine zK ?_) | ((with_reducible first | refine qaad ?_ | refine qacm (by rw [hP]; exact qanx) ?_); (try rw [hP]); simp -implicitDefEqProofs [*]) | ((with_reducible refine qaaf ?_); (try simp -implicitDefEqProofs [*])) | ((with_reducible refine qaab rfl (fun h => ?_) (fun h => ?_)) <;> have h' := h <;> (try simp at h') <;> (try subst h')) | ((with_reducible refine qaa6 (fun h => ?_) (fun h => ?_)) <;> have h' := h <;> (try simp at h') <;> (try subst h') <;> simp -implicitDefEqProofs [*]) | ((first | refine qaal (qaak p _ _ _ _ _ _ _ (by simp)) ⟨rfl, trivial⟩ ⟨rfl, trivial⟩ ?_ | refine qacl (qatm _ _) ?_ | refine qacl (qai0 p x.r args _) ?_); simp -implicitDefEqProofs [*]) | (with_reducible first | refine za ?_ ?_ | refine zb ?_ ?_ ?_ ?_) | (with_reducible first | exact qaaa | exact qaac) | ((with_reducible first | refine zga ?_ | refine zgb ?_); rfl) | ((with_reducible first | refine zgd ?_ | refine zge ?_); (first | omega | (simp; done))) | (exact Co.refl _) | (exact CoL.refl _) | (refine qacx ?_; first | omega | (simp_all; done)) | ((refine qaah hJ (i + 1, n + (1 - qaci x.op), ?_, ?_) ?_ ?_ ?_; rotate_left 2; (with_reducible refine qaag [] hm ?_ ?_ ?_ ?_) <;> (try simp only [zT, puth, Nat.reduceEqDiff, reduceIte, Nat.reduceAdd]))) | fail)
   all_goals (try dsimp only)
   all_goals (refine ⟨by omega, ⟨by omega, by omega⟩, ?_⟩; rw [h3.out])
   all_goals (refine (congrArg (fun c => qadc 0 g c at_) ?_).trans (qaxq g _ _ _ at_); generalize qagj p args (l.drop (i + 1)) (n + (1 - qaci x.op)) = E; clear tw tn; first | (simp [*]; done) | (clear h3; simp_all; done) | (clear h3; simp_all; omega) | (clear h3; simp_all; (repeat' split) <;> omega))
  ·have ke : (e == 0) = false := by simpa using he
   repeat' (first | (with_reducible refine zA ?_) | ((with_reducible refine qaad ?_); (try rw [hP]); simp -implicitDefEqProofs [*]) | ((with_reducible refine qaam ?_); (try simp -implicitDefEqProofs [*])) | ((with_reducible refine qaab rfl (fun h => ?_) (fun h => ?_)) <;> have h' := h <;> (try simp at h') <;> (try subst h')) | (refine qaal (qaak p _ _ _ _ _ _ _ (by simp)) ⟨rfl, trivial⟩ ⟨rfl, trivial⟩ ?_; simp -implicitDefEqProofs [*]) | (refine qab4 hm rfl ?_ (fun σ => rfl)) | fail)
   rw [h3.out]
   simp [qadc, qabx, he]
 ·obtain rfl : i = l.length := by omega
  rw [List.drop_length] at h3
  replace h3 := Lib.hid h3
  repeat' (first | (with_reducible refine zA ?_) | ((with_reducible refine qaad ?_); (try rw [hP]); simp -implicitDefEqProofs [*]) | ((with_reducible refine qaam ?_); (try simp -implicitDefEqProofs [*])) | ((with_reducible refine qaab rfl (fun h => ?_) (fun h => ?_)) <;> have h' := h <;> (try simp at h') <;> (try subst h')) | (refine qaal (qaak p _ _ _ _ _ _ _ (by simp)) ⟨rfl, trivial⟩ ⟨rfl, trivial⟩ ?_; simp -implicitDefEqProofs [*]) | (refine qab4 hm rfl ?_ (fun σ => rfl)) | fail)
  rw [h3.out, qas8]
  unfold qadc qabx
  by_cases hn : n = 1 <;> simp [hn]
end Go.Proofs.Ytbefmmajjfijnaa
namespace Go.Proofs.Ytbefmmajjfijnaa
set_option linter.all false
open Go.RowKit
attribute [local simp] qabl qabk qaav qaa9 qaaw qaa8 qabi qabj qaaq qab6 SOp.run SX.ev putd puts argS upds SOp.touch SSt.keep SSt.skip gets geth puth delh idOf SV.cells? setL qaeb qaec sbin eq0 eq1 eqL qadx qac0 qac1 qaa3 qabm qaai qabn qab7 qaao qaan FrzOk qabc qaay qaba qabb qaar qaax qabo qaaz qaat qabd qaas frzS frzH frz frz1 frz0 SlotsM ObjsM ObjM rn ren ren1 ren0 qaca qacx qacs qab9 qabp qac3 qac2 CoL qabe qaby dels adds idsH qabu
attribute [local simp] qaj1 refc qagg qag3 qade opc actc tabc qagu qadj nums jc
theorem qai1 (p : PlanD) (a b : Int) (l : List PushD) (args : List Int) (at_ : Int) (hl : l.length ≤ 1000000) (id q : Nat) (h : id < q) : SCalls Try.prog 55 [.ptr id 0, qach l, nums .i64 args, .int .i64 at_] [(id, .cells 80 (jc p a b))] q (.tup []) [(id, .cells 80 (jc p (qadc a b (qahz p l args) at_).1 (qadc a b (qahz p l args) at_).2))] :=
 qacf (jtree_s p a b l args at_ hl) (fun _ => rfl) (fun _ => rfl) (fun _ => rfl) rfl (fun _ => rfl) rfl id q h
theorem qaof (p : PlanD) (a b : Int) (l : List PushD) (at_ : Int) (hl : l.length ≤ 1000000) (id q : Nat) (h : id < q) : SCalls Try.prog 55 [.ptr id 0, qach l, .nilsl, .int .i64 at_] [(id, .cells 80 (jc p a b))] q (.tup []) [(id, .cells 80 (jc p (qadc a b (qahz p l []) at_).1 (qadc a b (qahz p l []) at_).2))] :=
 qamt (qai1 p a b l [] at_ hl id q h) ⟨Co.refl _, Co.refl _, Co.nilsl _, Co.refl _, trivial⟩
theorem qaf3 (a b : Int) (c : Bool) (code at_ : Int) (h : code ≠ 0) : qabx a b c code at_ = qadc a b (if c = true then code else 0) at_ := by
 cases c <;> simp [qabx, qadc, h]
theorem qagn (a b c d at_ : Int) : qadc (qadc a b c at_).1 (qadc a b c at_).2 d at_ = qadc a b (if c = 0 then d else c) at_ := by
 unfold qadc qabx
 by_cases hc : c = 0
 ·simp [hc]
 ·by_cases ha : a = 0 <;> simp [hc, ha]
def PW (p : PlanD) : Prop := ∀ r, 0 ≤ qabv p r [] ∧ qabv p r [] ≤ 48
theorem may_not (p : PlanD) (hp : PW p) (r : RefD) : (!(decide (-1 ≤ r.h)) || qabv p r [] == 0) = !mayBe p r := by
 have := hp r
 unfold mayBe
 rw [Bool.eq_iff_iff]; simp; omega
theorem jl (p : PlanD) {F G : Int × Int} (h : F = G) : jc p F.1 F.2 = jc p G.1 G.2 := by rw [h]
theorem jl2 (p : PlanD) {a b at_ : Int} {G : Int × Int} (h : qadc a b 0 at_ = G) : jc p a b = jc p G.1 G.2 := by
 rw [← h]; simp [qadc, qabx]
theorem then_c {a b at_ c d : Int} (h : c = d) : qadc a b c at_ = qadc a b d at_ := by rw [h]
theorem jop_s (p : PlanD) (hp : PW p) (a b : Int) (o : OpD) (args : List Int) (at_ : Int) (hl : o.e.length ≤ 1000000) : SCalls Try.prog 52 [.ptr 0 0, .agg (opc o), nums .i64 args, .int .i64 at_] [(0, .cells 80 (jc p a b))] 1 (.tup []) [(0, .cells 80 (jc p (qadc a b (qan3 p o args) at_).1 (qadc a b (qan3 p o args) at_).2))] := by
 refine qaau (N := 56) Try.func52 rfl rfl (by kernel_rfl) qath (by simp) (by repeat' (first | exact trivial | refine And.intro ?_ ?_ | rfl | decide | exact PureR.ren _)) (by repeat' (first | exact trivial | refine And.intro ?_ ?_ | rfl | decide | exact PureR.ren _)) ?_
 rintro X hP hN hm
 have c1 := fun a b q h => qak5 p a b o.r at_ 0 q h
 have c2 := fun a b q h => qai1 p a b o.e args at_ hl 0 q h
 have c3 := fun a b q h => qaf6 p a b o.head at_ 0 q h
 simp only [may_not p hp, qaf3 _ _ _ 1 _ (by decide : (1 : Int) ≠ 0)] at c1 c3
 replace c1 := Lib.hid c1
 replace c2 := Lib.hid c2
 replace c3 := Lib.hid c3
 unfold c_jop
 repeat' (first | (with_reducible first | refine zA ?_ | refine qaae ?_) | ((with_reducible refine qaad ?_); (try rw [hP]); simp -implicitDefEqProofs [qach, *]) | ((with_reducible refine qaaf ?_); (try simp -implicitDefEqProofs [qach, *])) | ((with_reducible refine qaab rfl (fun h => ?_) (fun h => ?_)) <;> have h' := h <;> (try simp at h') <;> (try subst h')) | ((first | refine qaal (c1.out _ _ _ (by simp)) ⟨rfl, trivial⟩ ⟨rfl, trivial⟩ ?_ | refine qaal (c2.out _ _ _ (by simp)) ⟨rfl, trivial⟩ ⟨rfl, trivial⟩ ?_ | refine qaal (c3.out _ _ _ (by simp)) ⟨rfl, trivial⟩ ⟨rfl, trivial⟩ ?_ | refine qaal (qaak p _ _ _ _ _ _ _ (by simp)) ⟨rfl, trivial⟩ ⟨rfl, trivial⟩ ?_); simp -implicitDefEqProofs [qach, *]) | (refine qab4 hm rfl ?_ (fun σ => rfl)) | fail)
 all_goals (first | refine jl p ?_ | refine jl2 p (at_ := at_) ?_)
 all_goals (try simp only [qaf3, qagn, ne_eq, Int.reduceEq, not_false_eq_true])
 all_goals (refine then_c ?_)
 all_goals (first | (simp [qan3, *]; done) | (simp_all [qan3]; done) | (simp [qan3, *]; cases mayBe p o.r <;> cases qadu p o.head <;> simp))
theorem jto_s (p : PlanD) (a b from_ to_ : Int) (hf : 0 ≤ from_ ∧ from_ ≤ 1000000) : SCalls Try.prog 51 [.ptr 0 0, .int .i64 from_, .int .i64 to_] [(0, .cells 80 (jc p a b))] 1 (.tup []) [(0, .cells 80 (jc p (qadc a b (qakh p from_ to_) (3000 + from_)).1 (qadc a b (qakh p from_ to_) (3000 + from_)).2))] := by
 refine qaau (N := 35) Try.func51 rfl rfl (by kernel_rfl) qatg (by simp) (by repeat' (first | exact trivial | refine And.intro ?_ ?_ | rfl | decide | exact PureR.ren _)) (by repeat' (first | exact trivial | refine And.intro ?_ ?_ | rfl | decide | exact PureR.ren _)) ?_
 rintro X hP hN hm
 have w : IntKind.i64.wrap (3000 + from_) = 3000 + from_ := qaap (by omega) (by omega)
 unfold c_jto
 repeat' (first | (with_reducible refine zA ?_) | ((with_reducible refine qaad ?_); (try rw [hP]); simp -implicitDefEqProofs [*]) | ((with_reducible refine qaaf ?_); (try simp -implicitDefEqProofs [*])) | ((with_reducible refine qaa4 ?_); (try simp only [qaa3, qaai, qaao])) | ((with_reducible refine qaab rfl (fun h => ?_) (fun h => ?_)) <;> have h' := h <;> (try simp at h') <;> (try subst h')) | ((with_reducible refine qaa6 (fun h => ?_) (fun h => ?_)) <;> have h' := h <;> (try simp at h') <;> (try subst h') <;> simp -implicitDefEqProofs [*]) | (refine qaal (qaak p _ _ _ _ _ _ _ (by simp)) ⟨rfl, trivial⟩ ⟨rfl, trivial⟩ ?_; simp -implicitDefEqProofs [*]) | (refine qab4 hm rfl ?_ (fun σ => rfl)) | fail)
 all_goals (first | refine jl p ?_ | refine jl2 p (at_ := 3000 + from_) ?_)
 all_goals (try simp only [qaf3, qagn, ne_eq, Int.reduceEq, not_false_eq_true])
 all_goals (refine then_c ?_)
 all_goals (first | (simp [qakh, *]; done) | (simp_all [qakh]; done) | (simp_all [qakh]; omega))
end Go.Proofs.Ytbefmmajjfijnaa
namespace Go.Proofs.Ytbefmmajjfijnaa
set_option linter.all false
open Go.RowKit
attribute [local simp] qabl qabk qaav qaa9 qaaw qaa8 qabi qabj qaaq qab6 SOp.run SX.ev putd puts argS upds SOp.touch SSt.keep SSt.skip gets geth puth delh idOf SV.cells? setL qaeb qaec sbin eq0 eq1 eqL qadx qac0 qac1 qaa3 qabm qaai qabn qab7 qaao qaan FrzOk qabc qaay qaba qabb qaar qaax qabo qaaz qaat qabd qaas frzS frzH frz frz1 frz0 SlotsM ObjsM ObjM rn ren ren1 ren0 qaca qacx qacs qab9 qabp qac3 qac2 CoL qabe qaby dels adds idsH qabu
attribute [local simp] qaj1 refc qagg qag3 qade opc actc tabc qagu qadj nums jc
theorem qah7 (a b c at_ : Int) : qadc a b c at_ = orF (a, b) (c, at_) := by
 unfold qadc qabx orF
 by_cases ha : a = 0 <;> by_cases hc : c = 0 <;> simp [ha, hc]
theorem qa38 (p : PlanD) (hp : PW p) (a b : Int) (o : OpD) (args : List Int) (at_ : Int) (hl : o.e.length ≤ 1000000) (id q : Nat) (h : id < q) : SCalls Try.prog 52 [.ptr id 0, .agg (opc o), nums .i64 args, .int .i64 at_] [(id, .cells 80 (jc p a b))] q (.tup []) [(id, .cells 80 (jc p (qadc a b (qan3 p o args) at_).1 (qadc a b (qan3 p o args) at_).2))] :=
 qacf (jop_s p hp a b o args at_ hl) (fun _ => rfl) (fun _ => rfl) (fun _ => rfl) rfl (fun _ => rfl) rfl id q h
theorem qatn (p : PlanD) (a b from_ to_ : Int) (hf : 0 ≤ from_ ∧ from_ ≤ 1000000) (id q : Nat) (h : id < q) : SCalls Try.prog 51 [.ptr id 0, .int .i64 from_, .int .i64 to_] [(id, .cells 80 (jc p a b))] q (.tup []) [(id, .cells 80 (jc p (qadc a b (qakh p from_ to_) (3000 + from_)).1 (qadc a b (qakh p from_ to_) (3000 + from_)).2))] :=
 qacf (jto_s p a b from_ to_ hf) (fun _ => rfl) (fun _ => rfl) (fun _ => rfl) rfl (fun _ => rfl) rfl id q h
structure SmallP (p : PlanD) : Prop where
 heads : p.heads.length ≤ 1000
 metas : p.meta_.length ≤ 1000
 states : p.states.length ≤ 1000
 acts : p.acts.length ≤ 1000
 tabs : p.tabs.length ≤ 1000
 nodes : p.nodes.length ≤ 1000
 outs : p.out.length ≤ 1000
 headW : ∀ h ∈ p.heads, h.w.length ≤ 1000
 cases_ : ∀ s ∈ p.states, s.cases_.length ≤ 1000
 actW : ∀ a ∈ p.acts, a.w.length ≤ 1000
 ops : ∀ a ∈ p.acts, a.ops.length ≤ 1000
 tree : ∀ a ∈ p.acts, ∀ o ∈ a.ops, o.e.length ≤ 1000
 keys : ∀ t ∈ p.tabs, t.keys.length ≤ 1000 ∧ t.acts.length ≤ 1000 ∧ t.args.length ≤ 1000
 node : ∀ n ∈ p.nodes, n.e.length ≤ 1000
theorem qacg (a b : Int) (c : Bool) (code r at_ : Int) (h : code ≠ 0) : orF (a, b) (if c = true then code else r, at_) = orF (qabx a b c code at_) (r, at_) := by
 unfold orF qabx
 cases c <;> by_cases ha : a = 0 <;> by_cases hr : r = 0 <;> simp [ha, hr, h]
theorem qamo (a b c r at_ : Int) : orF (a, b) (if c = 0 then r else c, at_) = orF (qadc a b c at_) (r, at_) := by
 rw [qah7]; unfold orF
 by_cases ha : a = 0 <;> by_cases hr : r = 0 <;> by_cases hc : c = 0 <;> simp [ha, hr, hc]
theorem qad9 (f : Int × Int) (c at_ : Int) (R : Int × Int) : orF f (if c ≠ 0 then (c, at_) else R) = orF (orF f (c, at_)) R := by
 unfold orF
 by_cases ha : f.1 = 0 <;> by_cases hr : R.1 = 0 <;> by_cases hc : c = 0 <;> simp [ha, hr, hc]
theorem qadp (a b : Int) (c : Bool) (at_ : Int) (R : Int × Int) : orF (a, b) (orF (qaxj c at_) R) = orF (qabx a b c 2 at_) R := by
 rw [← qado]
 congr 1
 unfold orF qabx qaxj
 cases c <;> by_cases ha : a = 0 <;> simp [ha]
theorem jacts_s (p : PlanD) (hp : PW p) (hs : SmallP p) (a b : Int) : SCalls Try.prog 24 [.ptr 0 0] [(0, .cells 80 (jc p a b))] 1 (.tup []) [(0, .cells 80 (jc p (orF (a, b) (qaxe p)).1 (orF (a, b) (qaxe p)).2))] := by
 refine qaau (N := 100) Try.func24 rfl rfl (by kernel_rfl) qak1 (by simp) (by repeat' (first | exact trivial | refine And.intro ?_ ?_ | rfl | decide | exact PureR.ren _)) (by repeat' (first | exact trivial | refine And.intro ?_ ?_ | rfl | decide | exact PureR.ren _)) ?_
 rintro X hP hN hm
 have hF : orF (a, b) (qaxe p) = orF (qabx a b (decide (8 < (p.acts.length : Int))) 2 (-4)) (rowF (fun _ a => actF p a) 4000 0 p.acts) := by
  unfold qaxe; rw [qadp]; congr 3; exact propext (by omega)
 generalize orF (a, b) (qaxe p) = F at hF
 replace hF := Lib.hid hF
 have hla := hs.acts
 unfold c_jacts
 repeat' (first | (with_reducible refine zA ?_) | ((with_reducible refine qaad ?_); (try rw [hP]); simp -implicitDefEqProofs [*]) | (refine qaal (qaak p _ _ _ _ _ _ _ (by simp)) ⟨rfl, trivial⟩ ⟨rfl, trivial⟩ ?_; simp -implicitDefEqProofs [*]) | fail)
 refine qaaj (qaa5 (fun s (x : Nat × Int × Int) => s.turn [(2, .int .i64 x.1)] [(0, .cells 80 (jc p x.2.1 x.2.2))]) (fun x => x.1 ≤ p.acts.length ∧ F = orF (x.2.1, x.2.2) (rowF (fun _ a => actF p a) 4000 x.1 (p.acts.drop x.1))) (fun x => p.acts.length - x.1) (0, _, _) ?_ ⟨by simp, hF⟩ ?_)
 ·repeat' (first | ((with_reducible refine qaag [] hm ?_ ?_ ?_ ?_) <;> (try simp only [zT, puth, Nat.reduceEqDiff, reduceIte, Nat.reduceAdd])) | (with_reducible first | refine za ?_ ?_ | refine zb ?_ ?_ ?_ ?_) | (with_reducible first | exact qaaa | exact qaac) | ((with_reducible first | refine zga ?_ | refine zgb ?_); rfl) | ((with_reducible refine zgd ?_); (first | omega | (simp; done))) | (exact Co.refl _) | (exact CoL.refl _) | fail)
 rintro J hJ ⟨i, e, g⟩ ⟨h1, h2⟩
 have hJo := hJ
 unfold qajk
 simp only [zT, puth, Nat.reduceEqDiff, reduceIte, Nat.reduceAdd] at h1 h2 ⊢
 rcases Nat.lt_or_ge i p.acts.length with hi | hi
 ·have hxm : p.acts[i] ∈ p.acts := List.getElem_mem hi
  have hw := hs.actW _ hxm
  have ho := hs.ops _ hxm
  have ht := hs.tree _ hxm
  rw [qadl _ _ hi] at h2
  generalize hxx : p.acts[i] = x at h2 hw ho ht
  by_cases he : e = 0
  ·subst he
   rw [qad9] at h2
   have wi : IntKind.i64.wrap ((i : Int) + 1) = (i : Int) + 1 := qaap (by omega) (by omega)
   have wa : IntKind.i64.wrap (4000 + (i : Int)) = 4000 + (i : Int) := qaap (by omega) (by omega)
   have hA : orF (0, g) (actF p x, 4000 + (i : Int)) = orF (qabx 0 g (decide (3 < (x.w.length : Int)) || decide (5 < (x.ops.length : Int))) 2 (4000 + i)) (if x.w.any wOut = true then 6 else qack (fun o => qan3 p o x.w) x.ops, 4000 + (i : Int)) := by
    rw [← qacg _ _ _ _ _ _ (by decide)]
    have hc : (decide (3 < (x.w.length : Int)) || decide (5 < (x.ops.length : Int))) = true ↔ (3 < x.w.length ∨ 5 < x.ops.length) := by rw [Bool.or_eq_true, decide_eq_true_eq, decide_eq_true_eq]; omega
    have : actF p x = if (decide (3 < (x.w.length : Int)) || decide (5 < (x.ops.length : Int))) = true then 2 else if x.w.any wOut = true then 6 else qack (fun o => qan3 p o x.w) x.ops := by
     unfold actF
     by_cases c1 : 3 < x.w.length ∨ 5 < x.ops.length
     ·rw [if_pos c1, if_pos (hc.2 c1)]
     ·rw [if_neg c1, if_neg (fun h => c1 (hc.1 h))]
    rw [this]
   generalize orF (0, g) (actF p x, 4000 + (i : Int)) = A at hA h2
   replace hA := Lib.hid hA
   replace h2 := Lib.hid h2
   replace ht := Lib.hid ht
   repeat' (first | (with_reducible first | refine zA ?_ | refine qaae ?_) | ((with_reducible refine qaad ?_); (try rw [hP]); simp -implicitDefEqProofs [*]) | ((with_reducible refine qaaf ?_); (try simp -implicitDefEqProofs [*])) | ((with_reducible refine qaab rfl (fun h => ?_) (fun h => ?_)) <;> have h' := h <;> (try simp at h') <;> (try subst h')) | ((with_reducible refine qaa6 (fun h => ?_) (fun h => ?_)) <;> have h' := h <;> (try simp at h') <;> (try subst h') <;> simp -implicitDefEqProofs [*]) | (refine qaal (qaak p _ _ _ _ _ _ _ (by simp)) ⟨rfl, trivial⟩ ⟨rfl, trivial⟩ ?_; simp -implicitDefEqProofs [*]) | fail)
   all_goals
    refine qaaj (qaa5 (fun s (y : Nat × Int × Int) => s.turn [(61, .int .i64 y.1)] [(0, .cells 80 (jc p y.2.1 y.2.2))]) (fun y => y.1 ≤ x.w.length ∧ A = orF (y.2.1, y.2.2) (if (x.w.drop y.1).any wOut = true then 6 else qack (fun o => qan3 p o x.w) x.ops, 4000 + (i : Int))) (fun y => x.w.length - y.1) (0, _, _) ?_ ⟨by simp, by have q := hA.out; simp only [*, Bool.true_or, Bool.false_or] at q; exact q⟩ ?_)
    ·repeat' (first | ((with_reducible refine qaag [] hm ?_ ?_ ?_ ?_) <;> (try simp only [zT, puth, Nat.reduceEqDiff, reduceIte, Nat.reduceAdd])) | (with_reducible first | refine za ?_ ?_ | refine zb ?_ ?_ ?_ ?_) | (with_reducible first | exact qaaa | exact qaac) | ((with_reducible first | refine zga ?_ | refine zgb ?_); rfl) | ((with_reducible refine zgd ?_); (first | omega | (simp; done))) | (exact Co.refl _) | (exact CoL.refl _) | fail)
    rintro J hJ ⟨j, e1, g1⟩ ⟨h3, h4⟩
    unfold qajm
    simp only [zT, puth, Nat.reduceEqDiff, reduceIte, Nat.reduceAdd] at h3 h4 ⊢
    replace h4 := Lib.hid h4
    rcases Nat.lt_or_ge j x.w.length with hj | hj
    ·have wj : IntKind.i64.wrap ((j : Int) + 1) = (j : Int) + 1 := qaap (by omega) (by omega)
     repeat' (first | (with_reducible first | refine zA ?_ | refine qaae ?_) | ((with_reducible refine qaad ?_); (try rw [hP]); simp -implicitDefEqProofs [*]) | ((with_reducible refine qaaf ?_); (try simp -implicitDefEqProofs [*])) | ((with_reducible refine qaab rfl (fun h => ?_) (fun h => ?_)) <;> have h' := h <;> (try simp at h') <;> (try subst h')) | ((with_reducible refine qaa6 (fun h => ?_) (fun h => ?_)) <;> have h' := h <;> (try simp at h') <;> (try subst h') <;> simp -implicitDefEqProofs [*]) | (refine qaal (qaak p _ _ _ _ _ _ _ (by simp)) ⟨rfl, trivial⟩ ⟨rfl, trivial⟩ ?_; simp -implicitDefEqProofs [*]) | (with_reducible first | refine za ?_ ?_ | refine zb ?_ ?_ ?_ ?_) | (with_reducible first | exact qaaa | exact qaac) | ((with_reducible first | refine zga ?_ | refine zgb ?_); rfl) | ((with_reducible first | refine zgd ?_ | refine zge ?_); (first | omega | (simp; done))) | (exact Co.refl _) | (exact CoL.refl _) | ((refine qaah hJ (j + 1, ?_, ?_) ?_ ?_ ?_; rotate_left 2; (with_reducible refine qaag [] hm ?_ ?_ ?_ ?_) <;> (try simp only [zT, puth, Nat.reduceEqDiff, reduceIte, Nat.reduceAdd]))) | fail)
     all_goals (try dsimp only)
     all_goals (refine ⟨by omega, ?_⟩; rw [h4.out, qadr _ hj]; refine Eq.trans ?_ (qacg e1 g1 _ 6 _ _ (by decide)); refine congrArg (fun c => orF (e1, g1) (c, 4000 + (i : Int))) ?_; cases (x.w.drop (j + 1)).any wOut <;> simp [wOut, *])
    ·obtain rfl : j = x.w.length := by omega
     have h5 : A = orF (e1, g1) (qack (fun o => qan3 p o x.w) (x.ops.drop 0), 4000 + (i : Int)) := by rw [h4.out, List.drop_length]; rfl
     replace h5 := Lib.hid h5
     repeat' (first | (with_reducible refine zA ?_) | ((with_reducible refine qaad ?_); (try rw [hP]); simp -implicitDefEqProofs [*]) | ((with_reducible refine qaam ?_); (try simp -implicitDefEqProofs [*])) | ((with_reducible refine qaab rfl (fun h => ?_) (fun h => ?_)) <;> have h' := h <;> (try simp at h') <;> (try subst h')) | fail)
     refine qaaj (qaa5 (fun s (y : Nat × Int × Int) => s.turn [(7, .int .i64 y.1)] [(0, .cells 80 (jc p y.2.1 y.2.2))]) (fun y => y.1 ≤ x.ops.length ∧ A = orF (y.2.1, y.2.2) (qack (fun o => qan3 p o x.w) (x.ops.drop y.1), 4000 + (i : Int))) (fun y => x.ops.length - y.1) (0, _, _) ?_ ⟨by simp, h5.out⟩ ?_)
     ·repeat' (first | ((with_reducible refine qaag [] hm ?_ ?_ ?_ ?_) <;> (try simp only [zT, puth, Nat.reduceEqDiff, reduceIte, Nat.reduceAdd])) | (with_reducible first | refine za ?_ ?_ | refine zb ?_ ?_ ?_ ?_) | (with_reducible first | exact qaaa | exact qaac) | ((with_reducible first | refine zga ?_ | refine zgb ?_); rfl) | ((with_reducible refine zgd ?_); (first | omega | (simp; done))) | (exact Co.refl _) | (exact CoL.refl _) | fail)
     rintro J hJ ⟨k, e2, g2⟩ ⟨h6, h7⟩
     unfold qajl
     simp only [zT, puth, Nat.reduceEqDiff, reduceIte, Nat.reduceAdd] at h6 h7 ⊢
     rcases Nat.lt_or_ge k x.ops.length with hk | hk
     ·have hom := ht.out x.ops[k] (List.getElem_mem hk)
      rw [qagy _ hk, qamo] at h7
      generalize hoo : x.ops[k] = o at h7 hom
      replace h7 := Lib.hid h7
      have wk1 : IntKind.i64.wrap ((k : Int) + 1) = (k : Int) + 1 := qaap (by omega) (by omega)
      by_cases he2 : e2 = 0
      ·subst he2
       repeat' (first | (with_reducible first | refine zA ?_ | refine qaft ?_ | refine zK ?_) | ((with_reducible first | refine qaad ?_ | refine qacm (by rw [hP]; exact qanx) ?_); (try rw [hP]); simp -implicitDefEqProofs [*]) | ((with_reducible refine qaaf ?_); (try simp -implicitDefEqProofs [*])) | ((with_reducible refine qaab rfl (fun h => ?_) (fun h => ?_)) <;> have h' := h <;> (try simp at h') <;> (try subst h')) | (refine qaal (qa38 p hp _ _ o x.w _ (by omega) _ _ (by simp)) ⟨rfl, trivial⟩ ⟨rfl, trivial⟩ ?_; simp -implicitDefEqProofs [*]) | (with_reducible first | refine za ?_ ?_ | refine zb ?_ ?_ ?_ ?_) | (with_reducible first | exact qaaa | exact qaac) | ((with_reducible first | refine zga ?_ | refine zgb ?_); rfl) | ((with_reducible first | refine zgd ?_ | refine zge ?_); (first | omega | (simp; done))) | (exact Co.refl _) | (exact CoL.refl _) | ((refine qaah hJ (k + 1, ?_, ?_) ?_ ?_ ?_; rotate_left 2; (with_reducible refine qaag [] hm ?_ ?_ ?_ ?_) <;> (try simp only [zT, puth, Nat.reduceEqDiff, reduceIte, Nat.reduceAdd]))) | fail)
       all_goals (try dsimp only)
       all_goals (refine ⟨by omega, ?_⟩; exact h7.out)
      ·have ke2 : (e2 == 0) = false := by simpa using he2
       repeat' (first | (with_reducible refine zA ?_) | ((with_reducible refine qaad ?_); (try rw [hP]); simp -implicitDefEqProofs [*]) | ((with_reducible refine qaam ?_); (try simp -implicitDefEqProofs [*])) | ((with_reducible refine qaab rfl (fun h => ?_) (fun h => ?_)) <;> have h' := h <;> (try simp at h') <;> (try subst h')) | (with_reducible first | refine za ?_ ?_ | refine zb ?_ ?_ ?_ ?_) | (with_reducible first | exact qaaa | exact qaac) | ((with_reducible first | refine zga ?_ | refine zgb ?_); rfl) | ((with_reducible first | refine zgd ?_ | refine zge ?_); (first | omega | (simp; done))) | (exact Co.refl _) | (exact CoL.refl _) | ((refine qaah hJo (i + 1, ?_, ?_) ?_ ?_ ?_; rotate_left 2; (with_reducible refine qaag [] hm ?_ ?_ ?_ ?_) <;> (try simp only [zT, puth, Nat.reduceEqDiff, reduceIte, Nat.reduceAdd]))) | fail)
       all_goals (try dsimp only)
       all_goals (refine ⟨by omega, ?_⟩; rw [h2.out]; congr 1; rw [h7.out, qah7, qado]; exact qafd he2 _)
     ·obtain rfl : k = x.ops.length := by omega
      rw [List.drop_length] at h7
      replace h7 := Lib.hid h7
      repeat' (first | (with_reducible refine zA ?_) | ((with_reducible refine qaad ?_); (try rw [hP]); simp -implicitDefEqProofs [*]) | ((with_reducible refine qaam ?_); (try simp -implicitDefEqProofs [*])) | ((with_reducible refine qaab rfl (fun h => ?_) (fun h => ?_)) <;> have h' := h <;> (try simp at h') <;> (try subst h')) | (with_reducible first | refine za ?_ ?_ | refine zb ?_ ?_ ?_ ?_) | (with_reducible first | exact qaaa | exact qaac) | ((with_reducible first | refine zga ?_ | refine zgb ?_); rfl) | ((with_reducible first | refine zgd ?_ | refine zge ?_); (first | omega | (simp; done))) | (exact Co.refl _) | (exact CoL.refl _) | ((refine qaah hJo (i + 1, ?_, ?_) ?_ ?_ ?_; rotate_left 2; (with_reducible refine qaag [] hm ?_ ?_ ?_ ?_) <;> (try simp only [zT, puth, Nat.reduceEqDiff, reduceIte, Nat.reduceAdd]))) | fail)
      all_goals (try dsimp only)
      all_goals (refine ⟨by omega, ?_⟩; rw [h2.out]; congr 1; rw [h7.out]; exact qace _ rfl)
  ·have ke : (e == 0) = false := by simpa using he
   replace h2 := Lib.hid h2
   repeat' (first | (with_reducible refine zA ?_) | ((with_reducible refine qaad ?_); (try rw [hP]); simp -implicitDefEqProofs [*]) | ((with_reducible refine qaam ?_); (try simp -implicitDefEqProofs [*])) | ((with_reducible refine qaab rfl (fun h => ?_) (fun h => ?_)) <;> have h' := h <;> (try simp at h') <;> (try subst h')) | (refine qab4 hm rfl ?_ (fun σ => rfl)) | fail)
   rw [h2.out, qafd he]
 ·obtain rfl : i = p.acts.length := by omega
  rw [List.drop_length] at h2
  replace h2 := Lib.hid h2
  repeat' (first | (with_reducible refine zA ?_) | ((with_reducible refine qaad ?_); (try rw [hP]); simp -implicitDefEqProofs [*]) | ((with_reducible refine qaam ?_); (try simp -implicitDefEqProofs [*])) | ((with_reducible refine qaab rfl (fun h => ?_) (fun h => ?_)) <;> have h' := h <;> (try simp at h') <;> (try subst h')) | (refine qab4 hm rfl ?_ (fun σ => rfl)) | fail)
  rw [h2.out, qace _ rfl]
end Go.Proofs.Ytbefmmajjfijnaa
namespace Go.Proofs.Ytbefmmajjfijnaa
set_option linter.all false
open Go.RowKit
attribute [local simp] qabl qabk qaav qaa9 qaaw qaa8 qabi qabj qaaq qab6 SOp.run SX.ev putd puts argS upds SOp.touch SSt.keep SSt.skip gets geth puth delh idOf SV.cells? setL qaeb qaec sbin eq0 eq1 eqL qadx qac0 qac1 qaa3 qabm qaai qabn qab7 qaao qaan FrzOk qabc qaay qaba qabb qaar qaax qabo qaaz qaat qabd qaas frzS frzH frz frz1 frz0 SlotsM ObjsM ObjM rn ren ren1 ren0 qaca qacx qacs qab9 qabp qac3 qac2 CoL qabe qaby dels adds idsH qabu
attribute [local simp] nums refc qagg qag3 qade opc actc tabc qagu qach qaj1 qadj
theorem fin_orw {X : Cx} {sl : Sl} {hp : Hp} {t nx id e z n : Nat} {es : List (List SV)} [PureR es] (hm : X.m = 0) (hv : gets sl t = .own id n) (h1 : geth hp id = some (.row e z es)) : QFun X [.tmp t] 0 (.own 0 n) [(0, .row e z es)] .ret ⟨sl, hp, nx⟩ := by
 have hw : Wk X ⟨sl, hp, nx⟩ ⟨[(t, .own 0 n)], [(0, .row e z es)], 1⟩ := by
  refine qaag [(0, id)] hm ⟨?_, trivial⟩ ⟨⟨_, h1, rfl, rfl, ?_⟩, trivial⟩ rfl (by simp)
  ·rw [hv]; exact Co.refl _
  ·rw [PureR.ren]; exact CoLL.refl _
 exact ⟨_, hw, by simp [qamv, resL, resV, one_, gets], ⟨rfl, trivial⟩, by simp⟩
section
variable {bs : List Int} {id q : Nat}
theorem qa11 (s : StateD) (hk : OkC s) (hl : (bs ++ qae0 s).length ≤ wMax) (hq : id < q) : SCalls Try.prog 31 [.ptr id 0, .agg [.int .i64 s.head, .int .i64 s.on.h, .int .i64 s.on.f, .view 3 (s.cases_.map qag3), .int .i64 s.els]] [(id, .abs (wA bs))] q (.tup []) [(id, .abs (wA (bs ++ qae0 s)))] := w_at (qa12 hk hl) (fun _ => rfl) hq
theorem wact_v (a : ActD) (hk : OkA a) (hl : (bs ++ actB a).length ≤ wMax) (hq : id < q) : SCalls Try.prog 32 [.ptr id 0, .agg [.view 1 (a.w.map fun x => [.int .i64 x]), .view 5 (a.ops.map opc)]] [(id, .abs (wA bs))] q (.tup []) [(id, .abs (wA (bs ++ actB a)))] := w_at (wact_s hk hl) (fun _ => rfl) hq
theorem wtab_v (t : TabD) (hk : ∀ u ∈ t.args, 0 ≤ u ∧ u < 18446744073709551616) (hl : (bs ++ tabB t).length ≤ wMax) (hq : id < q) : SCalls Try.prog 33 [.ptr id 0, .agg [.int .i64 t.kind, .view 2 (t.keys.map refc), .view 1 (t.acts.map fun x => [.int .i64 x]), .int .i64 t.cap, .int .i64 t.def_, .view 1 (t.args.map fun x => [.int .u64 x])]] [(id, .abs (wA bs))] q (.tup []) [(id, .abs (wA (bs ++ tabB t)))] := w_at (wtab_s hk hl) (fun _ => rfl) hq
theorem wnode_v (n : NodeD) (hk : OkT n.e) (hl : (bs ++ qakc n).length ≤ wMax) (hq : id < q) : SCalls Try.prog 34 [.ptr id 0, .agg [.int .i64 n.kind, .int .i64 n.n, .view 4 (n.e.map qagg), .int .i64 n.yes, .int .i64 n.no]] [(id, .abs (wA bs))] q (.tup []) [(id, .abs (wA (bs ++ qakc n)))] := w_at (wnode_s hk hl) (fun _ => rfl) hq
end
def headB (h : HeadD) : List Int := qaem h.w
def sec6 (p : PlanD) : List Int := p.nodes.flatMap qakc ++ qaem p.out
def sec5 (p : PlanD) : List Int := p.tabs.flatMap tabB ++ (qaa7 [(p.nodes.length : Int)] ++ sec6 p)
def sec4 (p : PlanD) : List Int := p.acts.flatMap actB ++ (qaa7 [(p.tabs.length : Int)] ++ sec5 p)
def sec3 (p : PlanD) : List Int := p.states.flatMap qae0 ++ (qaa7 [(p.acts.length : Int)] ++ sec4 p)
def sec2 (p : PlanD) : List Int := p.heads.flatMap headB ++ (qaem p.meta_ ++ (qaa7 [(p.states.length : Int)] ++ sec3 p))
def qacy (p : PlanD) : List Int := [83, 89, 1] ++ (qaa7 [(p.heads.length : Int)] ++ sec2 p)
structure WOk (p : PlanD) : Prop where
 st : ∀ s ∈ p.states, OkC s
 ac : ∀ a ∈ p.acts, OkA a
 tb : ∀ t ∈ p.tabs, ∀ u ∈ t.args, 0 ≤ u ∧ u < 18446744073709551616
 nd : ∀ n ∈ p.nodes, OkT n.e
set_option maxHeartbeats 16000000 in
theorem whole_s (p : PlanD) (hk : WOk p) (hs : SmallP p) (hl : (qacy p).length ≤ wMax) : SCalls Try.prog 13 [.agg (qadj p)] [] 0 (.own 0 (qacy p).length) [(0, .row 5 1 ((qacy p).map fun x => [.int .u8 x]))] := by
 refine qaau (N := 116) Try.func13 rfl rfl (by kernel_rfl) qaku (by simp) (by repeat' (first | exact trivial | refine And.intro ?_ ?_ | rfl | decide | exact PureR.ren _)) (by repeat' (first | exact trivial | refine And.intro ?_ ?_ | rfl | decide | exact PureR.ren _)) ?_
 rintro X hP hN hm
 unfold c_whole
 obtain ⟨F, hF⟩ : ∃ F, F = qacy p := ⟨_, rfl⟩
 rw [← hF] at hl ⊢
 have z1 := hs.heads
 have z2 := hs.states
 have z3 := hs.acts
 have z4 := hs.tabs
 have z5 := hs.nodes
 have L := hl
 rw [hF, qacy] at L
 simp only [List.length_append] at L
 have L1 : ([83, 89, 1] ++ qaa7 [(p.heads.length : Int)]).length ≤ wMax := by simp only [List.length_append]; omega
 have h2 : F = ([83, 89, 1] ++ qaa7 [(p.heads.length : Int)]) ++ sec2 p := by rw [hF, qacy, List.append_assoc]
 generalize hb0 : ([83, 89, 1] : List Int) = b0 at L1 h2
 replace hb0 := Lib.hid hb0
 replace h2 := Lib.hid h2
 replace hl := Lib.hid hl
 replace L1 := Lib.hid L1
 clear L hs hF
 repeat' (first | ((with_reducible refine qafs (c := .seq (.reg false qai3 [1, 3]) _) ?_)) | (with_reducible refine zA ?_) | ((with_reducible refine qaad ?_); (try rw [hP]); simp -implicitDefEqProofs [*]) | fail)
 constructor
 refine qaep (qaag (s' := ⟨[(1, .ptr 2 0), (3, .ptr 0 0)], wobj [83, 89, 1] ++ [(2, .cells 29 (qadj p))], 3⟩) [(0, 5), (1, 2), (2, 0)] hm ?_ ?_ rfl (by simp)) ?_
 ·exact ⟨Co.refl _, Co.refl _, trivial⟩
 ·exact ⟨⟨_, rfl, rfl, CoL.refl _⟩, ⟨_, rfl, rfl, rfl, CoLL.refl _⟩, ⟨_, rfl, rfl, CoL.refl _⟩, trivial⟩
 refine qaep (s' := ⟨[(1, .ptr 2 0), (3, .ptr 0 0)], [(0, .abs (wA [83, 89, 1])), (2, .cells 29 (qadj p))], 3⟩) (qa07 (hh := wobj [83, 89, 1]) (R := fun h => h = wobj [83, 89, 1]) rfl (by decide) rfl (fun σ h => qahg _ (h 1 (by decide))) (qa09 _) ⟨rfl, rfl, trivial⟩ rfl fun id o h ho => ?_) ?_
 ·simp only [geth, if_neg (Ne.symm h)] at ho
  split at ho
  ·rename_i e; subst e; exact ⟨ho, rfl⟩
  ·cases ho
 rw [hb0.out]
 repeat' (first | (with_reducible refine zA ?_) | ((with_reducible refine qaad ?_); (try rw [hP]); simp -implicitDefEqProofs [*]) | (refine qaal (qac6 L1.out (by simp) (by simp)) ⟨rfl, rfl, trivial⟩ ⟨rfl, rfl, trivial⟩ ?_; simp -implicitDefEqProofs [*]) | fail)
 refine qaaj (qaa5 (fun s (z : Nat × List Int) => s.turn [(27, .int .i64 z.1)] [(0, .abs (wA z.2))]) (fun z => z.1 ≤ p.heads.length ∧ F = z.2 ++ ((p.heads.drop z.1).flatMap headB ++ (qaem p.meta_ ++ (qaa7 [(p.states.length : Int)] ++ sec3 p)))) (fun z => p.heads.length - z.1) (0, b0 ++ qaa7 [(p.heads.length : Int)]) ?_ ⟨by simp, h2.out⟩ ?_)
 ·repeat' (first | ((with_reducible refine qaag [] hm ?_ ?_ ?_ ?_) <;> (try simp only [zT, puth, Nat.reduceEqDiff, reduceIte, Nat.reduceAdd])) | (with_reducible first | refine za ?_ ?_ | refine zb ?_ ?_ ?_ ?_ | refine zd ?_ ?_ ?_ ?_ | refine qaa0 ?_ ?_) | (with_reducible first | exact qaaa | exact qaac) | ((with_reducible first | refine zga ?_ | refine zgb ?_); rfl) | ((with_reducible refine zgd ?_); (first | omega | (simp; done))) | (exact Co.refl _) | (exact CoL.refl _) | (exact CoLL.refl _) | fail)
 rintro J hJ ⟨i, cur⟩ ⟨h1, h3⟩
 unfold qai8
 simp only [zT, puth, Nat.reduceEqDiff, reduceIte, Nat.reduceAdd] at h1 h3 ⊢
 clear h2 L1
 have L := hl.out
 rw [h3] at L
 simp only [List.length_append] at L
 rcases Nat.lt_or_ge i p.heads.length with hi | hi
 ·rw [List.drop_eq_getElem_cons hi, List.flatMap_cons] at h3 L
  generalize hxx : p.heads[i] = o at h3 L
  have wi : IntKind.i64.wrap ((i : Int) + 1) = (i : Int) + 1 := qaap (by omega) (by omega)
  rw [List.append_assoc, ← List.append_assoc] at h3
  simp only [List.length_append] at L
  have L1 : (cur ++ qaem o.w).length ≤ wMax := by rw [List.length_append]; unfold headB at L; omega
  replace h3 := Lib.hid h3
  replace L := Lib.hid L
  replace L1 := Lib.hid L1
  repeat' (first | (with_reducible first | refine zA ?_ | refine qaae ?_) | ((with_reducible refine qaad ?_); (try rw [hP]); simp -implicitDefEqProofs [*]) | ((with_reducible refine qaaf ?_); (try simp -implicitDefEqProofs [*])) | ((with_reducible refine qaab rfl (fun h => ?_) (fun h => ?_)) <;> have h' := h <;> (try simp at h') <;> (try subst h')) | (refine qaal (qah5 L1.out (by simp)) ⟨rfl, trivial⟩ ⟨rfl, trivial⟩ ?_; simp -implicitDefEqProofs [*]) | (with_reducible first | refine za ?_ ?_ | refine zb ?_ ?_ ?_ ?_ | refine zd ?_ ?_ ?_ ?_ | refine qaa0 ?_ ?_) | (with_reducible first | exact qaaa | exact qaac) | ((with_reducible first | refine zga ?_ | refine zgb ?_); rfl) | ((with_reducible first | refine zgd ?_ | refine zge ?_); (first | omega | (simp; done))) | (exact Co.refl _) | (exact CoL.refl _) | (exact CoLL.refl _) | ((refine qaah hJ (i + 1, ?_) ?_ ?_ ?_; rotate_left 1; (with_reducible refine qaag [] hm ?_ ?_ ?_ ?_) <;> (try simp only [zT, puth, Nat.reduceEqDiff, reduceIte, Nat.reduceAdd]))) | fail)
  all_goals exact ⟨hi, h3.out⟩
 obtain rfl : i = p.heads.length := by omega
 rw [List.drop_length, List.flatMap_nil, List.nil_append] at h3
 have M1 : (cur ++ qaem p.meta_).length ≤ wMax := by simp only [List.length_append]; omega
 have M2 : ((cur ++ qaem p.meta_) ++ qaa7 [(p.states.length : Int)]).length ≤ wMax := by simp only [List.length_append]; omega
 have h2 : F = (cur ++ (qaem p.meta_ ++ qaa7 [(p.states.length : Int)])) ++ sec3 p := by rw [h3]; simp only [List.append_assoc]
 rw [sec3] at h2
 replace h2 := Lib.hid h2
 replace L := Lib.hid L
 replace M1 := Lib.hid M1
 replace M2 := Lib.hid M2
 clear h3 h1 hi
 repeat' (first | (with_reducible refine zA ?_) | ((with_reducible refine qaad ?_); (try rw [hP]); simp -implicitDefEqProofs [*]) | ((with_reducible refine qaam ?_); (try simp -implicitDefEqProofs [*])) | ((with_reducible refine qaab rfl (fun h => ?_) (fun h => ?_)) <;> have h' := h <;> (try simp at h') <;> (try subst h')) | ((first | refine qaal (qah5 M1.out (by simp)) ⟨rfl, trivial⟩ ⟨rfl, trivial⟩ ?_ | refine qaal (qac6 M2.out (by simp) (by simp)) ⟨rfl, rfl, trivial⟩ ⟨rfl, rfl, trivial⟩ ?_); simp -implicitDefEqProofs [*]) | fail)
 clear M1 M2 L
 obtain ⟨cur1, e1⟩ : ∃ c, c = cur := ⟨_, rfl⟩
 subst e1
 refine qaaj (qaa5 (fun s (z : Nat × List Int) => s.turn [(49, .int .i64 z.1)] [(0, .abs (wA z.2))]) (fun z => z.1 ≤ p.states.length ∧ F = z.2 ++ ((p.states.drop z.1).flatMap qae0 ++ (qaa7 [(p.acts.length : Int)] ++ sec4 p))) (fun z => p.states.length - z.1) (0, cur1 ++ (qaem p.meta_ ++ qaa7 [(p.states.length : Int)])) ?_ ⟨by simp, h2.out⟩ ?_)
 ·repeat' (first | ((with_reducible refine qaag [] hm ?_ ?_ ?_ ?_) <;> (try simp only [zT, puth, Nat.reduceEqDiff, reduceIte, Nat.reduceAdd])) | (with_reducible first | refine za ?_ ?_ | refine zb ?_ ?_ ?_ ?_ | refine zd ?_ ?_ ?_ ?_ | refine qaa0 ?_ ?_) | (with_reducible first | exact qaaa | exact qaac) | ((with_reducible first | refine zga ?_ | refine zgb ?_); rfl) | ((with_reducible refine zgd ?_); (first | omega | (simp; done))) | (exact Co.refl _) | (exact CoL.refl _) | (exact CoLL.refl _) | fail)
 rintro J hJ ⟨i, cur⟩ ⟨h1, h3⟩
 unfold qai7
 simp only [zT, puth, Nat.reduceEqDiff, reduceIte, Nat.reduceAdd] at h1 h3 ⊢
 clear h2
 have L := hl.out
 rw [h3] at L
 simp only [List.length_append] at L
 rcases Nat.lt_or_ge i p.states.length with hi | hi
 ·rw [List.drop_eq_getElem_cons hi, List.flatMap_cons] at h3 L
  have hx := hk.st _ (List.getElem_mem hi)
  generalize hxx : p.states[i] = o at h3 L hx
  have wi : IntKind.i64.wrap ((i : Int) + 1) = (i : Int) + 1 := qaap (by omega) (by omega)
  rw [List.append_assoc, ← List.append_assoc] at h3
  simp only [List.length_append] at L
  have L1 : (cur ++ qae0 o).length ≤ wMax := by rw [List.length_append]; omega
  replace h3 := Lib.hid h3
  replace L := Lib.hid L
  replace L1 := Lib.hid L1
  replace hx := Lib.hid hx
  repeat' (first | (with_reducible first | refine zA ?_ | refine qaae ?_) | ((with_reducible refine qaad ?_); (try rw [hP]); simp -implicitDefEqProofs [*]) | ((with_reducible refine qaaf ?_); (try simp -implicitDefEqProofs [*])) | ((with_reducible refine qaab rfl (fun h => ?_) (fun h => ?_)) <;> have h' := h <;> (try simp at h') <;> (try subst h')) | (refine qaal (qa11 o hx.out L1.out (by simp)) ⟨rfl, trivial⟩ ⟨rfl, trivial⟩ ?_; simp -implicitDefEqProofs [*]) | (with_reducible first | refine za ?_ ?_ | refine zb ?_ ?_ ?_ ?_ | refine zd ?_ ?_ ?_ ?_ | refine qaa0 ?_ ?_) | (with_reducible first | exact qaaa | exact qaac) | ((with_reducible first | refine zga ?_ | refine zgb ?_); rfl) | ((with_reducible first | refine zgd ?_ | refine zge ?_); (first | omega | (simp; done))) | (exact Co.refl _) | (exact CoL.refl _) | (exact CoLL.refl _) | ((refine qaah hJ (i + 1, ?_) ?_ ?_ ?_; rotate_left 1; (with_reducible refine qaag [] hm ?_ ?_ ?_ ?_) <;> (try simp only [zT, puth, Nat.reduceEqDiff, reduceIte, Nat.reduceAdd]))) | fail)
  all_goals exact ⟨hi, h3.out⟩
 obtain rfl : i = p.states.length := by omega
 rw [List.drop_length, List.flatMap_nil, List.nil_append] at h3
 have M1 : (cur ++ qaa7 [(p.acts.length : Int)]).length ≤ wMax := by simp only [List.length_append]; omega
 have h2 : F = (cur ++ qaa7 [(p.acts.length : Int)]) ++ sec4 p := by rw [h3]; simp only [List.append_assoc]
 rw [sec4] at h2
 replace h2 := Lib.hid h2
 replace L := Lib.hid L
 replace M1 := Lib.hid M1
 clear h3 h1 hi
 repeat' (first | (with_reducible refine zA ?_) | ((with_reducible refine qaad ?_); (try rw [hP]); simp -implicitDefEqProofs [*]) | ((with_reducible refine qaam ?_); (try simp -implicitDefEqProofs [*])) | ((with_reducible refine qaab rfl (fun h => ?_) (fun h => ?_)) <;> have h' := h <;> (try simp at h') <;> (try subst h')) | (refine qaal (qac6 M1.out (by simp) (by simp)) ⟨rfl, rfl, trivial⟩ ⟨rfl, rfl, trivial⟩ ?_; simp -implicitDefEqProofs [*]) | fail)
 clear M1 L
 obtain ⟨cur2, e2⟩ : ∃ c, c = cur := ⟨_, rfl⟩
 subst e2
 refine qaaj (qaa5 (fun s (z : Nat × List Int) => s.turn [(66, .int .i64 z.1)] [(0, .abs (wA z.2))]) (fun z => z.1 ≤ p.acts.length ∧ F = z.2 ++ ((p.acts.drop z.1).flatMap actB ++ (qaa7 [(p.tabs.length : Int)] ++ sec5 p))) (fun z => p.acts.length - z.1) (0, cur2 ++ qaa7 [(p.acts.length : Int)]) ?_ ⟨by simp, h2.out⟩ ?_)
 ·repeat' (first | ((with_reducible refine qaag [] hm ?_ ?_ ?_ ?_) <;> (try simp only [zT, puth, Nat.reduceEqDiff, reduceIte, Nat.reduceAdd])) | (with_reducible first | refine za ?_ ?_ | refine zb ?_ ?_ ?_ ?_ | refine zd ?_ ?_ ?_ ?_ | refine qaa0 ?_ ?_) | (with_reducible first | exact qaaa | exact qaac) | ((with_reducible first | refine zga ?_ | refine zgb ?_); rfl) | ((with_reducible refine zgd ?_); (first | omega | (simp; done))) | (exact Co.refl _) | (exact CoL.refl _) | (exact CoLL.refl _) | fail)
 rintro J hJ ⟨i, cur⟩ ⟨h1, h3⟩
 unfold qai6
 simp only [zT, puth, Nat.reduceEqDiff, reduceIte, Nat.reduceAdd] at h1 h3 ⊢
 clear h2
 have L := hl.out
 rw [h3] at L
 simp only [List.length_append] at L
 rcases Nat.lt_or_ge i p.acts.length with hi | hi
 ·rw [List.drop_eq_getElem_cons hi, List.flatMap_cons] at h3 L
  have hx := hk.ac _ (List.getElem_mem hi)
  generalize hxx : p.acts[i] = o at h3 L hx
  have wi : IntKind.i64.wrap ((i : Int) + 1) = (i : Int) + 1 := qaap (by omega) (by omega)
  rw [List.append_assoc, ← List.append_assoc] at h3
  simp only [List.length_append] at L
  have L1 : (cur ++ actB o).length ≤ wMax := by rw [List.length_append]; omega
  replace h3 := Lib.hid h3
  replace L := Lib.hid L
  replace L1 := Lib.hid L1
  replace hx := Lib.hid hx
  repeat' (first | (with_reducible first | refine zA ?_ | refine qaae ?_) | ((with_reducible refine qaad ?_); (try rw [hP]); simp -implicitDefEqProofs [*]) | ((with_reducible refine qaaf ?_); (try simp -implicitDefEqProofs [*])) | ((with_reducible refine qaab rfl (fun h => ?_) (fun h => ?_)) <;> have h' := h <;> (try simp at h') <;> (try subst h')) | (refine qaal (wact_v o hx.out L1.out (by simp)) ⟨rfl, trivial⟩ ⟨rfl, trivial⟩ ?_; simp -implicitDefEqProofs [*]) | (with_reducible first | refine za ?_ ?_ | refine zb ?_ ?_ ?_ ?_ | refine zd ?_ ?_ ?_ ?_ | refine qaa0 ?_ ?_) | (with_reducible first | exact qaaa | exact qaac) | ((with_reducible first | refine zga ?_ | refine zgb ?_); rfl) | ((with_reducible first | refine zgd ?_ | refine zge ?_); (first | omega | (simp; done))) | (exact Co.refl _) | (exact CoL.refl _) | (exact CoLL.refl _) | ((refine qaah hJ (i + 1, ?_) ?_ ?_ ?_; rotate_left 1; (with_reducible refine qaag [] hm ?_ ?_ ?_ ?_) <;> (try simp only [zT, puth, Nat.reduceEqDiff, reduceIte, Nat.reduceAdd]))) | fail)
  all_goals exact ⟨hi, h3.out⟩
 obtain rfl : i = p.acts.length := by omega
 rw [List.drop_length, List.flatMap_nil, List.nil_append] at h3
 have M1 : (cur ++ qaa7 [(p.tabs.length : Int)]).length ≤ wMax := by simp only [List.length_append]; omega
 have h2 : F = (cur ++ qaa7 [(p.tabs.length : Int)]) ++ sec5 p := by rw [h3]; simp only [List.append_assoc]
 rw [sec5] at h2
 replace h2 := Lib.hid h2
 replace L := Lib.hid L
 replace M1 := Lib.hid M1
 clear h3 h1 hi
 repeat' (first | (with_reducible refine zA ?_) | ((with_reducible refine qaad ?_); (try rw [hP]); simp -implicitDefEqProofs [*]) | ((with_reducible refine qaam ?_); (try simp -implicitDefEqProofs [*])) | ((with_reducible refine qaab rfl (fun h => ?_) (fun h => ?_)) <;> have h' := h <;> (try simp at h') <;> (try subst h')) | (refine qaal (qac6 M1.out (by simp) (by simp)) ⟨rfl, rfl, trivial⟩ ⟨rfl, rfl, trivial⟩ ?_; simp -implicitDefEqProofs [*]) | fail)
 clear M1 L
 obtain ⟨cur3, e3⟩ : ∃ c, c = cur := ⟨_, rfl⟩
 subst e3
 refine qaaj (qaa5 (fun s (z : Nat × List Int) => s.turn [(83, .int .i64 z.1)] [(0, .abs (wA z.2))]) (fun z => z.1 ≤ p.tabs.length ∧ F = z.2 ++ ((p.tabs.drop z.1).flatMap tabB ++ (qaa7 [(p.nodes.length : Int)] ++ sec6 p))) (fun z => p.tabs.length - z.1) (0, cur3 ++ qaa7 [(p.tabs.length : Int)]) ?_ ⟨by simp, h2.out⟩ ?_)
 ·repeat' (first | ((with_reducible refine qaag [] hm ?_ ?_ ?_ ?_) <;> (try simp only [zT, puth, Nat.reduceEqDiff, reduceIte, Nat.reduceAdd])) | (with_reducible first | refine za ?_ ?_ | refine zb ?_ ?_ ?_ ?_ | refine zd ?_ ?_ ?_ ?_ | refine qaa0 ?_ ?_) | (with_reducible first | exact qaaa | exact qaac) | ((with_reducible first | refine zga ?_ | refine zgb ?_); rfl) | ((with_reducible refine zgd ?_); (first | omega | (simp; done))) | (exact Co.refl _) | (exact CoL.refl _) | (exact CoLL.refl _) | fail)
 rintro J hJ ⟨i, cur⟩ ⟨h1, h3⟩
 unfold qai5
 simp only [zT, puth, Nat.reduceEqDiff, reduceIte, Nat.reduceAdd] at h1 h3 ⊢
 clear h2
 have L := hl.out
 rw [h3] at L
 simp only [List.length_append] at L
 rcases Nat.lt_or_ge i p.tabs.length with hi | hi
 ·rw [List.drop_eq_getElem_cons hi, List.flatMap_cons] at h3 L
  have hx := hk.tb _ (List.getElem_mem hi)
  generalize hxx : p.tabs[i] = o at h3 L hx
  have wi : IntKind.i64.wrap ((i : Int) + 1) = (i : Int) + 1 := qaap (by omega) (by omega)
  rw [List.append_assoc, ← List.append_assoc] at h3
  simp only [List.length_append] at L
  have L1 : (cur ++ tabB o).length ≤ wMax := by rw [List.length_append]; omega
  replace h3 := Lib.hid h3
  replace L := Lib.hid L
  replace L1 := Lib.hid L1
  replace hx := Lib.hid hx
  repeat' (first | (with_reducible first | refine zA ?_ | refine qaae ?_) | ((with_reducible refine qaad ?_); (try rw [hP]); simp -implicitDefEqProofs [*]) | ((with_reducible refine qaaf ?_); (try simp -implicitDefEqProofs [*])) | ((with_reducible refine qaab rfl (fun h => ?_) (fun h => ?_)) <;> have h' := h <;> (try simp at h') <;> (try subst h')) | (refine qaal (wtab_v o hx.out L1.out (by simp)) ⟨rfl, trivial⟩ ⟨rfl, trivial⟩ ?_; simp -implicitDefEqProofs [*]) | (with_reducible first | refine za ?_ ?_ | refine zb ?_ ?_ ?_ ?_ | refine zd ?_ ?_ ?_ ?_ | refine qaa0 ?_ ?_) | (with_reducible first | exact qaaa | exact qaac) | ((with_reducible first | refine zga ?_ | refine zgb ?_); rfl) | ((with_reducible first | refine zgd ?_ | refine zge ?_); (first | omega | (simp; done))) | (exact Co.refl _) | (exact CoL.refl _) | (exact CoLL.refl _) | ((refine qaah hJ (i + 1, ?_) ?_ ?_ ?_; rotate_left 1; (with_reducible refine qaag [] hm ?_ ?_ ?_ ?_) <;> (try simp only [zT, puth, Nat.reduceEqDiff, reduceIte, Nat.reduceAdd]))) | fail)
  all_goals exact ⟨hi, h3.out⟩
 obtain rfl : i = p.tabs.length := by omega
 rw [List.drop_length, List.flatMap_nil, List.nil_append] at h3
 have M1 : (cur ++ qaa7 [(p.nodes.length : Int)]).length ≤ wMax := by simp only [List.length_append]; omega
 have h2 : F = (cur ++ qaa7 [(p.nodes.length : Int)]) ++ sec6 p := by rw [h3]; simp only [List.append_assoc]
 rw [sec6] at h2
 replace h2 := Lib.hid h2
 replace L := Lib.hid L
 replace M1 := Lib.hid M1
 clear h3 h1 hi
 repeat' (first | (with_reducible refine zA ?_) | ((with_reducible refine qaad ?_); (try rw [hP]); simp -implicitDefEqProofs [*]) | ((with_reducible refine qaam ?_); (try simp -implicitDefEqProofs [*])) | ((with_reducible refine qaab rfl (fun h => ?_) (fun h => ?_)) <;> have h' := h <;> (try simp at h') <;> (try subst h')) | (refine qaal (qac6 M1.out (by simp) (by simp)) ⟨rfl, rfl, trivial⟩ ⟨rfl, rfl, trivial⟩ ?_; simp -implicitDefEqProofs [*]) | fail)
 clear M1 L
 obtain ⟨cur4, e4⟩ : ∃ c, c = cur := ⟨_, rfl⟩
 subst e4
 refine qaaj (qaa5 (fun s (z : Nat × List Int) => s.turn [(100, .int .i64 z.1)] [(0, .abs (wA z.2))]) (fun z => z.1 ≤ p.nodes.length ∧ F = z.2 ++ ((p.nodes.drop z.1).flatMap qakc ++ qaem p.out)) (fun z => p.nodes.length - z.1) (0, cur4 ++ qaa7 [(p.nodes.length : Int)]) ?_ ⟨by simp, h2.out⟩ ?_)
 ·repeat' (first | ((with_reducible refine qaag [] hm ?_ ?_ ?_ ?_) <;> (try simp only [zT, puth, Nat.reduceEqDiff, reduceIte, Nat.reduceAdd])) | (with_reducible first | refine za ?_ ?_ | refine zb ?_ ?_ ?_ ?_ | refine zd ?_ ?_ ?_ ?_ | refine qaa0 ?_ ?_) | (with_reducible first | exact qaaa | exact qaac) | ((with_reducible first | refine zga ?_ | refine zgb ?_); rfl) | ((with_reducible refine zgd ?_); (first | omega | (simp; done))) | (exact Co.refl _) | (exact CoL.refl _) | (exact CoLL.refl _) | fail)
 rintro J hJ ⟨i, cur⟩ ⟨h1, h3⟩
 unfold qai4
 simp only [zT, puth, Nat.reduceEqDiff, reduceIte, Nat.reduceAdd] at h1 h3 ⊢
 clear h2
 have L := hl.out
 rw [h3] at L
 simp only [List.length_append] at L
 rcases Nat.lt_or_ge i p.nodes.length with hi | hi
 ·rw [List.drop_eq_getElem_cons hi, List.flatMap_cons] at h3 L
  have hx := hk.nd _ (List.getElem_mem hi)
  generalize hxx : p.nodes[i] = o at h3 L hx
  have wi : IntKind.i64.wrap ((i : Int) + 1) = (i : Int) + 1 := qaap (by omega) (by omega)
  rw [List.append_assoc, ← List.append_assoc] at h3
  simp only [List.length_append] at L
  have L1 : (cur ++ qakc o).length ≤ wMax := by rw [List.length_append]; omega
  replace h3 := Lib.hid h3
  replace L := Lib.hid L
  replace L1 := Lib.hid L1
  replace hx := Lib.hid hx
  repeat' (first | (with_reducible first | refine zA ?_ | refine qaae ?_) | ((with_reducible refine qaad ?_); (try rw [hP]); simp -implicitDefEqProofs [*]) | ((with_reducible refine qaaf ?_); (try simp -implicitDefEqProofs [*])) | ((with_reducible refine qaab rfl (fun h => ?_) (fun h => ?_)) <;> have h' := h <;> (try simp at h') <;> (try subst h')) | (refine qaal (wnode_v o hx.out L1.out (by simp)) ⟨rfl, trivial⟩ ⟨rfl, trivial⟩ ?_; simp -implicitDefEqProofs [*]) | (with_reducible first | refine za ?_ ?_ | refine zb ?_ ?_ ?_ ?_ | refine zd ?_ ?_ ?_ ?_ | refine qaa0 ?_ ?_) | (with_reducible first | exact qaaa | exact qaac) | ((with_reducible first | refine zga ?_ | refine zgb ?_); rfl) | ((with_reducible first | refine zgd ?_ | refine zge ?_); (first | omega | (simp; done))) | (exact Co.refl _) | (exact CoL.refl _) | (exact CoLL.refl _) | ((refine qaah hJ (i + 1, ?_) ?_ ?_ ?_; rotate_left 1; (with_reducible refine qaag [] hm ?_ ?_ ?_ ?_) <;> (try simp only [zT, puth, Nat.reduceEqDiff, reduceIte, Nat.reduceAdd]))) | fail)
  all_goals exact ⟨hi, h3.out⟩
 obtain rfl : i = p.nodes.length := by omega
 rw [List.drop_length, List.flatMap_nil, List.nil_append] at h3
 have M1 : (cur ++ qaem p.out).length ≤ wMax := by simp only [List.length_append]; omega
 replace h3 := Lib.hid h3
 replace L := Lib.hid L
 replace M1 := Lib.hid M1
 repeat' (first | ((with_reducible refine qafs (c := .seq (.reg false qag6 [2]) .ret) ?_)) | (with_reducible refine zA ?_) | ((with_reducible refine qaad ?_); (try rw [hP]); simp -implicitDefEqProofs [*]) | ((with_reducible refine qaam ?_); (try simp -implicitDefEqProofs [*])) | ((with_reducible refine qaab rfl (fun h => ?_) (fun h => ?_)) <;> have h' := h <;> (try simp at h') <;> (try subst h')) | (refine qaal (qah5 M1.out (by simp)) ⟨rfl, trivial⟩ ⟨rfl, trivial⟩ ?_; simp -implicitDefEqProofs [*]) | fail)
 constructor
 refine qaep (qaag (s' := ⟨[(3, .ptr 0 0)], [(0, .abs (wA F))], 1⟩) [] hm ⟨Co.refl _, trivial⟩ ⟨⟨_, rfl, by rw [h3.out]; rfl⟩, trivial⟩ rfl (by simp)) ?_
 refine qah8 (by omega) (by decide) (qamm F) fun hh h => ?_
 subst h
 unfold wobj
 clear h3 L M1 hl
 repeat' (first | (with_reducible refine zA ?_) | ((with_reducible refine qaad ?_); (try rw [hP]); simp -implicitDefEqProofs [*]) | ((with_reducible refine qaa4 ?_); (try simp only [qaa3, qaai, qaao])) | (exact fin_orw hm rfl rfl) | fail)
 all_goals trace_state
end Go.Proofs.Ytbefmmajjfijnaa
namespace Go.Proofs.Ytbefmmajjfijnaa
set_option linter.all false
open Go.RowKit
attribute [local simp] qabl qabk qaav qaa9 qaaw qaa8 qabi qabj qaaq qab6 SOp.run SX.ev putd puts argS upds SOp.touch SSt.keep SSt.skip gets geth puth delh idOf SV.cells? setL qaeb qaec sbin eq0 eq1 eqL qadx qac0 qac1 qaa3 qabm qaai qabn qab7 qaao qaan FrzOk qabc qaay qaba qabb qaar qaax qabo qaaz qaat qabd qaas frzS frzH frz frz1 frz0 SlotsM ObjsM ObjM rn ren ren1 ren0 qaca qacx qacs qab9 qabp qac3 qac2 CoL qabe qaby dels adds idsH qabu
attribute [local simp] nums
def crc1 (c : Int) : Int := bits .xor .u32 (c / 2 ^ min 1 IntKind.u32.bits) (bits .and .u32 3988292384 (IntKind.u32.wrap (-(bits .and .u32 c 1))))
def crcN : Nat → Int → Int
 | 0, c => c
 | n + 1, c => crcN n (crc1 c)
def crcB (c x : Int) : Int := crcN 8 (bits .xor .u32 c (IntKind.u32.wrap x))
def crcF (b : List Int) : Int := bits .xor .u32 (if IntKind.u32.signed = true then -1 else IntKind.u32.max) (b.foldl crcB 4294967295)
set_option maxHeartbeats 4000000 in
theorem ccrc_s (b : List Int) (hb : b.length ≤ 140737488355328) (q : Nat) : SCalls Try.prog 11 [nums .u8 b] [] q (.int .u32 (crcF b)) [] := by
 refine qacq ?_ (fun _ => rfl) (fun _ => rfl) rfl q
 refine qaau (N := 29) Try.func11 rfl rfl (by kernel_rfl) qaoc (by simp) (by repeat' (first | exact trivial | refine And.intro ?_ ?_ | rfl | decide | exact PureR.ren _)) (by repeat' (first | exact trivial | refine And.intro ?_ ?_ | rfl | decide | exact PureR.ren _)) ?_
 rintro X hP hN hm
 unfold c_csum
 have hF : b.foldl crcB 4294967295 = (b.drop 0).foldl crcB 4294967295 := rfl
 have hS : crcF b = bits .xor .u32 (if IntKind.u32.signed = true then -1 else IntKind.u32.max) (b.foldl crcB 4294967295) := rfl
 generalize crcF b = S at hS
 generalize b.foldl crcB 4294967295 = F at hF hS
 replace hF := Lib.hid hF
 replace hS := Lib.hid hS
 repeat' (first | (with_reducible refine zA ?_) | ((with_reducible refine qaad ?_); (try rw [hP]); simp -implicitDefEqProofs [*]) | fail)
 refine qaaj (qaa5 (fun s (z : Nat × Int) => s.turn [(3, .int .u32 z.2), (8, .int .i64 z.1)] []) (fun z => z.1 ≤ b.length ∧ F = (b.drop z.1).foldl crcB z.2) (fun z => b.length - z.1) (0, 4294967295) ?_ ⟨by simp, hF.out⟩ ?_)
 ·repeat' (first | ((with_reducible refine qaag [] hm ?_ ?_ ?_ ?_) <;> (try simp only [zT, puth, Nat.reduceEqDiff, reduceIte, Nat.reduceAdd])) | (with_reducible refine za ?_ ?_) | (with_reducible first | exact qaaa | exact qaac) | ((with_reducible refine zgb ?_); rfl) | ((with_reducible refine zgd ?_); (first | omega | (simp; done))) | (exact Co.refl _) | fail)
 rintro J hJ ⟨i, c⟩ ⟨h1, h2⟩
 unfold qanm
 simp only [zT, puth, Nat.reduceEqDiff, reduceIte, Nat.reduceAdd] at h1 h2 ⊢
 clear hF
 rcases Nat.lt_or_ge i b.length with hi | hi
 ·rw [List.drop_eq_getElem_cons hi, List.foldl_cons] at h2
  generalize hxx : b[i] = x at h2
  have wi : IntKind.i64.wrap ((i : Int) + 1) = (i : Int) + 1 := qaap (by omega) (by omega)
  have hJo := hJ
  replace h2 := Lib.hid h2
  repeat' (first | (with_reducible first | refine zA ?_ | refine qaae ?_) | ((with_reducible refine qaad ?_); (try rw [hP]); simp -implicitDefEqProofs [*]) | ((with_reducible refine qaaf ?_); (try simp -implicitDefEqProofs [*])) | ((with_reducible refine qaab rfl (fun h => ?_) (fun h => ?_)) <;> have h' := h <;> (try simp at h') <;> (try subst h')) | fail)
  refine qaaj (qaa5 (fun s (z : Nat × Int) => s.turn [(3, .int .u32 z.2), (16, .int .i64 z.1)] []) (fun z => z.1 ≤ 8 ∧ crcB c x = crcN (8 - z.1) z.2) (fun z => 8 - z.1) (0, bits .xor .u32 c (IntKind.u32.wrap x)) ?_ ⟨by simp, rfl⟩ ?_)
  ·repeat' (first | ((with_reducible refine qaag [] hm ?_ ?_ ?_ ?_) <;> (try simp only [zT, puth, Nat.reduceEqDiff, reduceIte, Nat.reduceAdd])) | (with_reducible refine za ?_ ?_) | (with_reducible first | exact qaaa | exact qaac) | ((with_reducible refine zgb ?_); rfl) | ((with_reducible refine zgd ?_); (first | omega | (simp; done))) | (exact Co.refl _) | fail)
  rintro J hJ ⟨j, d⟩ ⟨h3, h4⟩
  unfold qann
  simp only [zT, puth, Nat.reduceEqDiff, reduceIte, Nat.reduceAdd] at h3 h4 ⊢
  rcases Nat.lt_or_ge j 8 with hj | hj
  ·have e8 : 8 - j = (8 - (j + 1)) + 1 := by omega
   rw [e8, crcN] at h4
   have wj : IntKind.i64.wrap ((j : Int) + 1) = (j : Int) + 1 := qaap (by omega) (by omega)
   have kd : decide ((j : Int) < 8) = true := decide_eq_true (by omega)
   replace h4 := Lib.hid h4
   clear e8
   repeat' (first | (with_reducible first | refine zA ?_ | refine qaft ?_) | ((with_reducible refine qaad ?_); (try rw [hP]); simp -implicitDefEqProofs [*]) | ((with_reducible refine qaaf ?_); (try simp -implicitDefEqProofs [*])) | ((with_reducible refine qaab rfl (fun h => ?_) (fun h => ?_)) <;> have h' := h <;> (try simp at h') <;> (try subst h')) | (with_reducible refine za ?_ ?_) | (with_reducible first | exact qaaa | exact qaac) | ((with_reducible refine zgb ?_); rfl) | ((with_reducible first | refine zgd ?_ | refine zge ?_); (first | omega | (simp; done))) | (exact Co.refl _) | ((refine qaah hJ (j + 1, ?_) ?_ ?_ ?_; rotate_left 1; (with_reducible refine qaag [] hm ?_ ?_ ?_ ?_) <;> (try simp only [zT, puth, Nat.reduceEqDiff, reduceIte, Nat.reduceAdd]))) | fail)
   exact ⟨hj, h4.out⟩
  ·obtain rfl : j = 8 := by omega
   rw [show 8 - 8 = 0 from rfl, crcN] at h4
   replace h4 := Lib.hid h4
   repeat' (first | (with_reducible refine zA ?_) | ((with_reducible refine qaad ?_); (try rw [hP]); simp -implicitDefEqProofs [*]) | ((with_reducible refine qaam ?_); (try simp -implicitDefEqProofs [*])) | ((with_reducible refine qaab rfl (fun h => ?_) (fun h => ?_)) <;> have h' := h <;> (try simp at h') <;> (try subst h')) | (with_reducible refine za ?_ ?_) | (with_reducible first | exact qaaa | exact qaac) | ((with_reducible refine zgb ?_); rfl) | ((with_reducible first | refine zgd ?_ | refine zge ?_); (first | omega | (simp; done))) | (exact Co.refl _) | ((refine qaah hJo (i + 1, ?_) ?_ ?_ ?_; rotate_left 1; (with_reducible refine qaag [] hm ?_ ?_ ?_ ?_) <;> (try simp only [zT, puth, Nat.reduceEqDiff, reduceIte, Nat.reduceAdd]))) | fail)
   exact ⟨hi, by show F = ((b.drop (i + 1)).foldl crcB d); rw [← h4.out]; exact h2.out⟩
 ·obtain rfl : i = b.length := by omega
  rw [List.drop_length] at h2
  replace h2 := Lib.hid h2
  repeat' (first | (with_reducible refine zA ?_) | ((with_reducible refine qaad ?_); (try rw [hP]); simp -implicitDefEqProofs [*]) | ((with_reducible refine qaam ?_); (try simp -implicitDefEqProofs [*])) | ((with_reducible refine qaa4 ?_); (try simp only [qaa3, qaai, qaao])) | ((with_reducible refine qaab rfl (fun h => ?_) (fun h => ?_)) <;> have h' := h <;> (try simp at h') <;> (try subst h')) | (with_reducible refine zM hm ?_) | fail)
  rw [hS.out, h2.out]; rfl
end Go.Proofs.Ytbefmmajjfijnaa
namespace Go.Proofs.Ytbefmmajjfijnaa
set_option linter.all false
open Go.RowKit
def R32 (x : Int) : Prop := 0 ≤ x ∧ x < 4294967296
def R8 (x : Int) : Prop := 0 ≤ x ∧ x < 256
theorem R32.nat {x : Int} (h : R32 x) : ∃ n : Nat, n < 2 ^ 32 ∧ x = n := ⟨x.toNat, by have := h.1; have := h.2; omega, by have := h.1; omega⟩
theorem qafr {n : Nat} (h : n < 2 ^ 32) : IntKind.u32.wrap (n : Int) = n := by
 simp [IntKind.wrap, IntKind.bits, IntKind.signed]; omega
theorem qa10 {a b : Nat} (ha : a < 2 ^ 32) (hb : b < 2 ^ 32) : bits .xor .u32 (a : Int) (b : Int) = ((a ^^^ b : Nat) : Int) := by
 show IntKind.u32.wrap (((BitVec.ofInt 32 (a : Int)) ^^^ (BitVec.ofInt 32 (b : Int))).toNat : Int) = _
 rw [BitVec.ofInt_natCast, BitVec.ofInt_natCast, BitVec.toNat_xor, BitVec.toNat_ofNat, BitVec.toNat_ofNat, Nat.mod_eq_of_lt ha, Nat.mod_eq_of_lt hb]
 exact qafr (Nat.xor_lt_two_pow ha hb)
theorem or32 {a b : Nat} (ha : a < 2 ^ 32) (hb : b < 2 ^ 32) : bits .or .u32 (a : Int) (b : Int) = ((a ||| b : Nat) : Int) := by
 show IntKind.u32.wrap (((BitVec.ofInt 32 (a : Int)) ||| (BitVec.ofInt 32 (b : Int))).toNat : Int) = _
 rw [BitVec.ofInt_natCast, BitVec.ofInt_natCast, BitVec.toNat_or, BitVec.toNat_ofNat, BitVec.toNat_ofNat, Nat.mod_eq_of_lt ha, Nat.mod_eq_of_lt hb]
 exact qafr (Nat.or_lt_two_pow ha hb)
theorem and32 {a b : Nat} (ha : a < 2 ^ 32) (hb : b < 2 ^ 32) : bits .and .u32 (a : Int) (b : Int) = ((a &&& b : Nat) : Int) := by
 show IntKind.u32.wrap (((BitVec.ofInt 32 (a : Int)) &&& (BitVec.ofInt 32 (b : Int))).toNat : Int) = _
 rw [BitVec.ofInt_natCast, BitVec.ofInt_natCast, BitVec.toNat_and, BitVec.toNat_ofNat, BitVec.toNat_ofNat, Nat.mod_eq_of_lt ha, Nat.mod_eq_of_lt hb]
 exact qafr (Nat.and_lt_two_pow a hb)
theorem xor8 {a b : Nat} (ha : a < 2 ^ 8) (hb : b < 2 ^ 8) : bits .xor .u8 (a : Int) (b : Int) = ((a ^^^ b : Nat) : Int) := by
 show IntKind.u8.wrap (((BitVec.ofInt 8 (a : Int)) ^^^ (BitVec.ofInt 8 (b : Int))).toNat : Int) = _
 rw [BitVec.ofInt_natCast, BitVec.ofInt_natCast, BitVec.toNat_xor, BitVec.toNat_ofNat, BitVec.toNat_ofNat, Nat.mod_eq_of_lt ha, Nat.mod_eq_of_lt hb]
 have := Nat.xor_lt_two_pow ha hb
 simp [IntKind.wrap, IntKind.bits, IntKind.signed]; omega
def crcG (c : Nat) : Nat := (c / 2) ^^^ (if c % 2 = 1 then 3988292384 else 0)
theorem crcG_lt {c : Nat} (h : c < 2 ^ 32) : crcG c < 2 ^ 32 := by
 unfold crcG
 refine Nat.xor_lt_two_pow (by omega) ?_
 split <;> omega
theorem qakp {c : Nat} (h : c < 2 ^ 32) : crc1 (c : Int) = crcG c := by
 have e1 : bits .and .u32 (c : Int) 1 = ((c % 2 : Nat) : Int) := by
  have := and32 h (b := 1) (by omega)
  rw [Nat.and_one_is_mod] at this
  exact this
 have e2 : (c : Int) / 2 ^ min 1 IntKind.u32.bits = ((c / 2 : Nat) : Int) := by
  show (c : Int) / 2 ^ 1 = _
  rw [Int.pow_succ, Int.pow_zero]; omega
 unfold crc1 crcG
 rw [e1, e2]
 rcases Nat.mod_two_eq_zero_or_one c with h0 | h0
 ·rw [h0, show bits .and .u32 3988292384 (IntKind.u32.wrap (-((0 : Nat) : Int))) = ((0 : Nat) : Int) from by decide, qa10 (by omega) (by omega), if_neg (by omega)]
 ·rw [h0, show bits .and .u32 3988292384 (IntKind.u32.wrap (-((1 : Nat) : Int))) = ((3988292384 : Nat) : Int) from by decide, qa10 (by omega) (by omega), if_pos rfl]
theorem qaen {a b m : Nat} (h : a ^^^ m = b ^^^ m) : a = b := by
 have := congrArg (· ^^^ m) h
 simpa [Nat.xor_assoc] using this
theorem qa3x {c d : Nat} (hc : c < 2 ^ 32) (hd : d < 2 ^ 32) (h : crcG c = crcG d) : c = d := by
 unfold crcG at h
 have key : ∀ a b : Nat, a < 2 ^ 31 → b < 2 ^ 31 → a ^^^ 3988292384 = b ^^^ 0 → False := fun a b ha hb h => by
  have h1 : (a ^^^ b) = 3988292384 := by
   have := congrArg (· ^^^ a) h
   simp only [Nat.xor_zero] at this
   rw [Nat.xor_comm a, Nat.xor_assoc, Nat.xor_self, Nat.xor_zero] at this
   rw [Nat.xor_comm a b]; exact this.symm
  have h2 := Nat.xor_lt_two_pow ha hb
  omega
 rcases Nat.mod_two_eq_zero_or_one c with h0 | h0 <;> rcases Nat.mod_two_eq_zero_or_one d with h1 | h1
 ·rw [if_neg (by omega), if_neg (by omega)] at h
  have := qaen h; omega
 ·rw [if_neg (by omega), if_pos h1] at h
  exact (key _ _ (by omega) (by omega) h.symm).elim
 ·rw [if_pos h0, if_neg (by omega)] at h
  exact (key _ _ (by omega) (by omega) h).elim
 ·rw [if_pos h0, if_pos h1] at h
  have := qaen h; omega
theorem qako {c : Int} (h : R32 c) : R32 (crc1 c) := by
 obtain ⟨n, hn, rfl⟩ := h.nat
 rw [qakp hn]
 have := crcG_lt hn
 exact ⟨by omega, by omega⟩
theorem qa30 {c d : Int} (hc : R32 c) (hd : R32 d) (h : crc1 c = crc1 d) : c = d := by
 obtain ⟨n, hn, rfl⟩ := hc.nat
 obtain ⟨m, hm, rfl⟩ := hd.nat
 rw [qakp hn, qakp hm] at h
 rw [qa3x hn hm (by omega)]
theorem qate : ∀ (n : Nat) {c : Int}, R32 c → R32 (crcN n c)
 | 0, _, h => h
 | n + 1, _, h => qate n (qako h)
theorem qakn : ∀ (n : Nat) {c d : Int}, R32 c → R32 d → crcN n c = crcN n d → c = d
 | 0, _, _, _, _, h => h
 | n + 1, _, _, hc, hd, h => qa30 hc hd (qakn n (qako hc) (qako hd) h)
theorem qagl {c x : Int} (hc : R32 c) (hx : R32 x) : R32 (bits .xor .u32 c x) := by
 obtain ⟨n, hn, rfl⟩ := hc.nat
 obtain ⟨m, hm, rfl⟩ := hx.nat
 rw [qa10 hn hm]
 have := Nat.xor_lt_two_pow hn hm
 exact ⟨by omega, by omega⟩
theorem qa1y {c d x : Int} (hc : R32 c) (hd : R32 d) (hx : R32 x) (h : bits .xor .u32 c x = bits .xor .u32 d x) : c = d := by
 obtain ⟨n, hn, rfl⟩ := hc.nat
 obtain ⟨m, hm, rfl⟩ := hd.nat
 obtain ⟨k, hk, rfl⟩ := hx.nat
 rw [qa10 hn hk, qa10 hm hk] at h
 rw [qaen (m := k) (by omega : n ^^^ k = m ^^^ k)]
theorem qars {c x y : Int} (hc : R32 c) (hx : R32 x) (hy : R32 y) (h : bits .xor .u32 c x = bits .xor .u32 c y) : x = y := by
 obtain ⟨n, hn, rfl⟩ := hc.nat
 obtain ⟨m, hm, rfl⟩ := hx.nat
 obtain ⟨k, hk, rfl⟩ := hy.nat
 rw [qa10 hn hm, qa10 hn hk] at h
 have h1 : m ^^^ n = k ^^^ n := by rw [Nat.xor_comm m, Nat.xor_comm k]; omega
 rw [qaen h1]
theorem R8.to {x : Int} (h : R8 x) : R32 x := ⟨h.1, by have := h.2; omega⟩
theorem R8.wrap {x : Int} (h : R8 x) : IntKind.u32.wrap x = x := by
 obtain ⟨n, hn, rfl⟩ := h.to.nat
 exact qafr hn
theorem qaf4 {c x : Int} (hc : R32 c) (hx : R8 x) : R32 (crcB c x) := qate 8 (by rw [hx.wrap]; exact qagl hc hx.to)
theorem qayz {c d x : Int} (hc : R32 c) (hd : R32 d) (hx : R8 x) (h : crcB c x = crcB d x) : c = d := by
 unfold crcB at h
 rw [hx.wrap] at h
 exact qa1y hc hd hx.to (qakn 8 (qagl hc hx.to) (qagl hd hx.to) h)
theorem qayy {c x y : Int} (hc : R32 c) (hx : R8 x) (hy : R8 y) (h : crcB c x = crcB c y) : x = y := by
 unfold crcB at h
 rw [hx.wrap, hy.wrap] at h
 exact qars hc hx.to hy.to (qakn 8 (qagl hc hx.to) (qagl hc hy.to) h)
theorem qaf2 : ∀ (l : List Int) {c : Int}, R32 c → (∀ x ∈ l, R8 x) → R32 (l.foldl crcB c)
 | [], _, h, _ => h
 | x :: l, _, h, hl => qaf2 l (qaf4 h (hl x (by simp))) fun y hy => hl y (by simp [hy])
theorem qas0 : ∀ (l : List Int) {c d : Int}, R32 c → R32 d → (∀ x ∈ l, R8 x) → l.foldl crcB c = l.foldl crcB d → c = d
 | [], _, _, _, _, _, h => h
 | x :: l, _, _, hc, hd, hl, h => qayz hc hd (hl x (by simp)) (qas0 l (qaf4 hc (hl x (by simp))) (qaf4 hd (hl x (by simp))) (fun y hy => hl y (by simp [hy])) h)
theorem r_max : R32 (if IntKind.u32.signed = true then -1 else IntKind.u32.max) := by
 rw [if_neg (by decide)]; exact ⟨by decide, by decide⟩
theorem qamx : R32 4294967295 := ⟨by decide, by decide⟩
theorem qa3z {l : List Int} (hl : ∀ x ∈ l, R8 x) : R32 (crcF l) := qagl r_max (qaf2 l qamx hl)
theorem qa3y {l : List Int} (hl : ∀ x ∈ l, R8 x) {i : Nat} (hi : i < l.length) {y : Int} (hy : R8 y) (hne : y ≠ l[i]) : crcF (l.set i y) ≠ crcF l := fun h => by
 unfold crcF at h
 have h1 := qars r_max (qaf2 _ qamx fun x hx => (List.mem_or_eq_of_mem_set hx).elim (hl x) fun e => e ▸ hy) (qaf2 l qamx hl) h
 rw [List.set_eq_take_append_cons_drop, if_pos hi] at h1
 have h2 : l = l.take i ++ l[i] :: l.drop (i + 1) := by rw [← List.drop_eq_getElem_cons hi, List.take_append_drop]
 have h3 : l.foldl crcB 4294967295 = (l.take i ++ l[i] :: l.drop (i + 1)).foldl crcB 4294967295 := by rw [← h2]
 rw [h3, List.foldl_append, List.foldl_append, List.foldl_cons, List.foldl_cons] at h1
 have ht : R32 ((l.take i).foldl crcB 4294967295) := qaf2 _ qamx fun x hx => hl x (List.mem_of_mem_take hx)
 have hx := hl _ (List.getElem_mem hi)
 exact hne (qayy ht hy hx (qas0 _ (qaf4 ht hy) (qaf4 ht hx) (fun x hx => hl x (List.mem_of_mem_drop hx)) h1))
end Go.Proofs.Ytbefmmajjfijnaa
namespace Go.Proofs.Ytbefmmajjfijnaa
set_option linter.all false
open Go.RowKit
theorem u64_bv {x : Int} (h : 0 ≤ x ∧ x ≤ 18446744073709551615) : ∃ v : BitVec 64, x = (v.toNat : Int) := ⟨BitVec.ofNat 64 x.toNat, by rw [BitVec.toNat_ofNat, Nat.mod_eq_of_lt (by omega)]; omega⟩
theorem qano (v : BitVec 64) : BitVec.ofInt 64 (v.toNat : Int) = v := by
 rw [BitVec.ofInt_natCast]; simp
theorem qa1w (v : BitVec 64) : IntKind.u64.wrap (v.toNat : Int) = v.toNat := qa1b (by omega) (by have := v.isLt; omega)
theorem qa40 (v w : BitVec 64) : bits .and .u64 v.toNat w.toNat = ((v &&& w).toNat : Int) := by
 show IntKind.u64.wrap (((BitVec.ofInt 64 (v.toNat : Int)) &&& (BitVec.ofInt 64 (w.toNat : Int))).toNat : Int) = _
 rw [qano, qano, qa1w]
theorem qarn (v w : BitVec 64) : bits .andNot .u64 v.toNat w.toNat = ((v &&& ~~~w).toNat : Int) := by
 show IntKind.u64.wrap (((BitVec.ofInt 64 (v.toNat : Int)) &&& ~~~(BitVec.ofInt 64 (w.toNat : Int))).toNat : Int) = _
 rw [qano, qano, qa1w]
theorem bv_inj {v w : BitVec 64} : (v.toNat : Int) = w.toNat ↔ v = w := ⟨fun h => BitVec.eq_of_toNat_eq (by omega), fun h => by rw [h]⟩
theorem qarp {a b : Int} (ha : 0 ≤ a ∧ a ≤ 18446744073709551615) (hb : 0 ≤ b ∧ b ≤ 18446744073709551615) : bits .andNot .u64 a b = 0 ↔ bits .and .u64 a b = a := by
 obtain ⟨v, rfl⟩ := u64_bv ha
 obtain ⟨w, rfl⟩ := u64_bv hb
 rw [qarn, qa40, bv_inj]
 have e : (((v &&& ~~~w).toNat : Nat) : Int) = 0 ↔ v &&& ~~~w = 0#64 := by
  rw [show (0 : Int) = ((0#64).toNat : Int) by rfl, bv_inj]
 rw [e]
 constructor
 ·intro h
  ext i hi
  have := congrArg (fun z => z.getLsbD i) h
  simp [hi] at this ⊢
  exact this
 ·intro h
  ext i hi
  have := congrArg (fun z => z.getLsbD i) h
  simp [hi] at this ⊢
  exact this
end Go.Proofs.Ytbefmmajjfijnaa
namespace Go.Proofs.Ytbefmmajjfijnaa
set_option linter.all false
open Go.RowKit
attribute [local simp] qabl qabk qaav qaa9 qaaw qaa8 qabi qabj qaaq qab6 SOp.run SX.ev putd puts argS upds SOp.touch SSt.keep SSt.skip gets geth puth delh idOf SV.cells? setL qaeb qaec sbin eq0 eq1 eqL qadx qac0 qac1 qaa3 qabm qaai qabn qab7 qaao qaan FrzOk qabc qaay qaba qabb qaar qaax qabo qaaz qaat qabd qaas frzS frzH frz frz1 frz0 SlotsM ObjsM ObjM rn ren ren1 ren0 qaca qacx qacs qab9 qabp qac3 qac2 CoL qabe qaby dels adds idsH qabu
attribute [local simp] qaj1 refc qagg qag3 qade opc actc tabc qagu qadj nums jc
theorem qay2 (e g : Int) (B : Bool) (l rest E at_ : Int) : orF (e, g) (if (if (if B = true then 6 else l) = 0 then rest else (if B = true then 6 else l)) = 0 then E else (if (if B = true then 6 else l) = 0 then rest else (if B = true then 6 else l)), at_) = orF (qadc (qabx e g B 6 at_).1 (qabx e g B 6 at_).2 l at_) (if rest = 0 then E else rest, at_) := by
 unfold orF qadc qabx
 cases B <;> by_cases he : e = 0 <;> by_cases hl : l = 0 <;> by_cases hr : rest = 0 <;> simp [he, hl, hr]
theorem mask_s (w : Int) (hw : 0 ≤ w ∧ w ≤ 48) (q : Nat) : SCalls Try.prog 50 [.int .i64 w] [] q (.int .u64 (if w ≤ 64 then 2 ^ w.toNat - 1 else 0)) [] := by
 refine qaxw (Enters.of Try.func50 rfl rfl) (fun O w1 vs hO h => ?_) (fun σ => rfl) q
 obtain ⟨v, us, rfl, h1, h2⟩ := Reps.cons_inv h
 have := h2.nil_inv; subst this
 cases h1
 refine (qa45 w w1 (Fits.of_i64 (by omega) (by omega))).mono ?_
 rintro e w' ⟨rfl, rfl⟩
 refine ⟨_, rfl, .refl _ _, ?_⟩
 have : ones w = if w ≤ 64 then 2 ^ w.toNat - 1 else 0 := by
  unfold ones onesN
  by_cases h0 : 1 ≤ w
  ·rw [if_pos ⟨h0, by omega⟩, if_pos (by omega)]
  ·obtain rfl : w = 0 := by omega
   rfl
 rw [this]; exact .int
set_option maxHeartbeats 8000000 in
theorem qayp (p : PlanD) (hp : PW p) (hs : SmallP p) (hk : qah3 p) (a b : Int) : SCalls Try.prog 23 [.ptr 0 0] [(0, .cells 80 (jc p a b))] 1 (.tup []) [(0, .cells 80 (jc p (orF (a, b) (qad7 p)).1 (orF (a, b) (qad7 p)).2))] := by
 refine qaau (N := 130) Try.func23 rfl rfl (by kernel_rfl) qah1 (by simp) (by repeat' (first | exact trivial | refine And.intro ?_ ?_ | rfl | decide | exact PureR.ren _)) (by repeat' (first | exact trivial | refine And.intro ?_ ?_ | rfl | decide | exact PureR.ren _)) ?_
 rintro X hP hN hm
 have hF : orF (a, b) (qad7 p) = orF (qabx a b (decide ((p.states.length : Int) < 1) || decide (8 < (p.states.length : Int))) 2 (-3)) (rowF (fun i s => qaia p i s) 3000 0 p.states) := by
  unfold qad7; rw [qadp]; congr 4
  ·exact propext (by omega)
  ·exact propext (by omega)
 generalize orF (a, b) (qad7 p) = F at hF
 replace hF := Lib.hid hF
 have hla := hs.states
 unfold c_jstates
 have main : ∀ e0 g0, F = orF (e0, g0) (rowF (fun i s => qaia p i s) 3000 0 p.states) → SWp X (SCode.block 0 c_jstates_l2.loop) (QFun X [] 1 (SV.tup []) [(0, .cells 80 (jc p F.1 F.2))]) ⟨[(0, .ptr 0 0), (2, .int .i64 0)], [(0, .cells 80 (jc p e0 g0))], 1⟩ := by
  intro e0 g0 h0
  replace h0 := Lib.hid h0
  refine qaaj (qaa5 (fun s (x : Nat × Int × Int) => s.turn [(2, .int .i64 x.1)] [(0, .cells 80 (jc p x.2.1 x.2.2))]) (fun x => x.1 ≤ p.states.length ∧ F = orF (x.2.1, x.2.2) (rowF (fun i s => qaia p i s) 3000 x.1 (p.states.drop x.1))) (fun x => p.states.length - x.1) (0, _, _) ?_ ⟨by simp, h0.out⟩ ?_)
  ·repeat' (first | ((with_reducible refine qaag [] hm ?_ ?_ ?_ ?_) <;> (try simp only [zT, puth, Nat.reduceEqDiff, reduceIte, Nat.reduceAdd])) | (with_reducible first | refine za ?_ ?_ | refine zb ?_ ?_ ?_ ?_) | (with_reducible first | exact qaaa | exact qaac) | ((with_reducible first | refine zga ?_ | refine zgb ?_); rfl) | ((with_reducible refine zgd ?_); (first | omega | (simp; done))) | (exact Co.refl _) | (exact CoL.refl _) | fail)
  rintro J hJ ⟨i, e, g⟩ ⟨h1, h2⟩
  have hJo := hJ
  unfold c_jstates_l2
  simp only [zT, puth, Nat.reduceEqDiff, reduceIte, Nat.reduceAdd] at h1 h2 ⊢
  rcases Nat.lt_or_ge i p.states.length with hi | hi
  ·have hxm : p.states[i] ∈ p.states := List.getElem_mem hi
   have hc := hs.cases_ _ hxm
   rw [qadl _ _ hi] at h2
   generalize hxx : p.states[i] = x at h2 hc
   by_cases he : e = 0
   ·subst he
    rw [qad9] at h2
    have wi : IntKind.i64.wrap ((i : Int) + 1) = (i : Int) + 1 := qaap (by omega) (by omega)
    have wa : IntKind.i64.wrap (3000 + (i : Int)) = 3000 + (i : Int) := qaap (by omega) (by omega)
    have hst : qaia p i x = if (decide (x.head < -1) || decide ((p.heads.length : Int) ≤ x.head)) = true then 1 else if decide (4 < (x.cases_.length : Int)) = true then 2 else if (decide (0 < (x.cases_.length : Int)) && (qabv p x.on [] == 0)) = true then 1 else if qack (qatl p i (qabv p x.on [])) (x.cases_.drop 0) = 0 then qakh p i x.els else qack (qatl p i (qabv p x.on [])) (x.cases_.drop 0) := by
     unfold qaia
     rw [List.drop_zero]
     simp only [Bool.or_eq_true, Bool.and_eq_true, decide_eq_true_eq, beq_iff_eq, ne_eq, ite_not]
     have e1 : (4 < x.cases_.length) = (4 < (x.cases_.length : Int)) := propext (by omega)
     have e2 : (0 < x.cases_.length) = (0 < (x.cases_.length : Int)) := propext (by omega)
     simp only [e1, e2]
    have hA : orF (0, g) (qaia p i x, 3000 + (i : Int)) = orF (qabx (qabx (qabx 0 g (decide (x.head < -1) || decide ((p.heads.length : Int) ≤ x.head)) 1 (3000 + i)).1 (qabx 0 g (decide (x.head < -1) || decide ((p.heads.length : Int) ≤ x.head)) 1 (3000 + i)).2 (decide (4 < (x.cases_.length : Int))) 2 (3000 + i)).1 (qabx (qabx 0 g (decide (x.head < -1) || decide ((p.heads.length : Int) ≤ x.head)) 1 (3000 + i)).1 (qabx 0 g (decide (x.head < -1) || decide ((p.heads.length : Int) ≤ x.head)) 1 (3000 + i)).2 (decide (4 < (x.cases_.length : Int))) 2 (3000 + i)).2 (decide (0 < (x.cases_.length : Int)) && (qabv p x.on [] == 0)) 1 (3000 + i)) (if qack (qatl p i (qabv p x.on [])) (x.cases_.drop 0) = 0 then qakh p i x.els else qack (qatl p i (qabv p x.on [])) (x.cases_.drop 0), 3000 + (i : Int)) := by
     rw [hst, qacg _ _ _ _ _ _ (by decide)]
     refine (qacg _ _ _ _ _ _ (by decide)).trans ?_
     exact qacg _ _ _ _ _ _ (by decide)
    clear hst
    generalize orF (0, g) (qaia p i x, 3000 + (i : Int)) = A at hA h2
    have hW := hp x.on
    have hfit : ∀ c ∈ x.cases_, qa44 c := by rw [← hxx]; exact (hk.2.2.1 _ hxm).2.2.1
    replace hA := Lib.hid hA
    replace h2 := Lib.hid h2
    replace hfit := Lib.hid hfit
    have hms := mask_s (qabv p x.on []) hW
    generalize hww : qabv p x.on [] = W at hA hms hW
    replace hms := Lib.hid hms
    have kn : decide (0 < x.cases_.length) = decide (0 < (x.cases_.length : Int)) := decide_eq_decide.2 (by omega)
    cases k1 : decide (x.head < -1) <;> cases k3 : decide (0 < (x.cases_.length : Int)) <;> rw [k3] at kn
    all_goals
     repeat' (first | (with_reducible first | refine zA ?_ | refine qaae ?_ | refine zK ?_) | ((with_reducible first | refine qaad ?_ | refine qacm (by rw [hP]; exact qanx) ?_); (try rw [hP]); simp -implicitDefEqProofs [*]) | ((with_reducible refine qaaf ?_); (try simp -implicitDefEqProofs [*])) | ((with_reducible refine qaab rfl (fun h => ?_) (fun h => ?_)) <;> have h' := h <;> (try simp at h') <;> (try subst h')) | ((first | refine qaal (qaak p _ _ _ _ _ _ _ (by simp)) ⟨rfl, trivial⟩ ⟨rfl, trivial⟩ ?_ | refine qacl (qae8 p x.on _) ?_); simp -implicitDefEqProofs [*]) | fail)
     refine qaaj (qaa5 (fun s (y : Nat × Int × Int) => s.turn [(99, .int .i64 y.1)] [(0, .cells 80 (jc p y.2.1 y.2.2))]) (fun y => y.1 ≤ x.cases_.length ∧ A = orF (y.2.1, y.2.2) (if qack (qatl p i W) (x.cases_.drop y.1) = 0 then qakh p i x.els else qack (qatl p i W) (x.cases_.drop y.1), 3000 + (i : Int))) (fun y => x.cases_.length - y.1) (0, _, _) ?_ ⟨by simp, by have q := hA.out; simp only [k1, k3, Bool.true_or, Bool.false_or, Bool.true_and, Bool.false_and] at q; exact q⟩ ?_)
     ·repeat' (first | ((with_reducible refine qaag [] hm ?_ ?_ ?_ ?_) <;> (try simp only [zT, puth, Nat.reduceEqDiff, reduceIte, Nat.reduceAdd])) | (with_reducible first | refine za ?_ ?_ | refine zb ?_ ?_ ?_ ?_) | (with_reducible first | exact qaaa | exact qaac) | ((with_reducible first | refine zga ?_ | refine zgb ?_); rfl) | ((with_reducible refine zgd ?_); (first | omega | (simp; done))) | (exact Co.refl _) | (exact CoL.refl _) | fail)
     rintro J hJ ⟨j, e1, g1⟩ ⟨h3, h4⟩
     unfold qagb
     simp only [zT, puth, Nat.reduceEqDiff, reduceIte, Nat.reduceAdd] at h3 h4 ⊢
     rcases Nat.lt_or_ge j x.cases_.length with hj | hj
     ·have hf := hfit.out x.cases_[j] (List.getElem_mem hj)
      rw [qagy _ hj] at h4
      generalize hcc : x.cases_[j] = c at h4 hf
      obtain ⟨f1, f2, f3⟩ := hf
      have hz := qarp f1.u64 f2.u64
      replace hz := Lib.hid hz
      replace h4 := Lib.hid h4
      have wj : IntKind.i64.wrap ((j : Int) + 1) = (j : Int) + 1 := qaap (by omega) (by omega)
      repeat' (first | (with_reducible first | refine zA ?_ | refine qaae ?_ | refine zK ?_) | ((with_reducible first | refine qaad ?_ | refine qacm (by rw [hP]; exact qanx) ?_); (try rw [hP]); simp -implicitDefEqProofs [*]) | ((with_reducible refine qaaf ?_); (try simp -implicitDefEqProofs [*])) | ((with_reducible refine qaab rfl (fun h => ?_) (fun h => ?_)) <;> have h' := h <;> (try simp at h') <;> (try subst h')) | ((with_reducible refine qaa6 (fun h => ?_) (fun h => ?_)) <;> have h' := h <;> (try simp at h') <;> (try subst h') <;> simp -implicitDefEqProofs [*]) | ((first | refine qaal (qaak p _ _ _ _ _ _ _ (by simp)) ⟨rfl, trivial⟩ ⟨rfl, trivial⟩ ?_ | refine qacl (hms.out _) ?_ | refine qaal (qatn p _ _ _ _ ⟨by omega, by omega⟩ _ _ (by simp)) ⟨rfl, trivial⟩ ⟨rfl, trivial⟩ ?_); simp -implicitDefEqProofs [*]) | (with_reducible first | refine za ?_ ?_ | refine zb ?_ ?_ ?_ ?_) | (with_reducible first | exact qaaa | exact qaac) | ((with_reducible first | refine zga ?_ | refine zgb ?_); rfl) | ((with_reducible first | refine zgd ?_ | refine zge ?_); (first | omega | (simp; done))) | (exact Co.refl _) | (exact CoL.refl _) | ((refine qaah hJ (j + 1, ?_, ?_) ?_ ?_ ?_; rotate_left 2; (with_reducible refine qaag [] hm ?_ ?_ ?_ ?_) <;> (try simp only [zT, puth, Nat.reduceEqDiff, reduceIte, Nat.reduceAdd]))) | fail)
      all_goals (try dsimp only)
      all_goals (refine ⟨by omega, ?_⟩; rw [h4.out]; refine Eq.trans ?_ (qay2 e1 g1 _ (qakh p i c.to_) _ (qakh p i x.els) (3000 + (i : Int))); refine congrArg (fun z => orF (e1, g1) (if (if z = 0 then qack (qatl p i W) (x.cases_.drop (j + 1)) else z) = 0 then qakh p i x.els else (if z = 0 then qack (qatl p i W) (x.cases_.drop (j + 1)) else z), 3000 + (i : Int))) ?_; have z := hz.out; unfold qatl qaxo; simp [*])
     ·obtain rfl : j = x.cases_.length := by omega
      rw [List.drop_length] at h4
      replace h4 := Lib.hid h4
      repeat' (first | (with_reducible refine zA ?_) | ((with_reducible refine qaad ?_); (try rw [hP]); simp -implicitDefEqProofs [*]) | ((with_reducible refine qaam ?_); (try simp -implicitDefEqProofs [*])) | ((with_reducible refine qaab rfl (fun h => ?_) (fun h => ?_)) <;> have h' := h <;> (try simp at h') <;> (try subst h')) | (refine qaal (qatn p _ _ _ _ ⟨by omega, by omega⟩ _ _ (by simp)) ⟨rfl, trivial⟩ ⟨rfl, trivial⟩ ?_; simp -implicitDefEqProofs [*]) | (with_reducible first | refine za ?_ ?_ | refine zb ?_ ?_ ?_ ?_) | (with_reducible first | exact qaaa | exact qaac) | ((with_reducible first | refine zga ?_ | refine zgb ?_); rfl) | ((with_reducible first | refine zgd ?_ | refine zge ?_); (first | omega | (simp; done))) | (exact Co.refl _) | (exact CoL.refl _) | ((refine qaah hJo (i + 1, ?_, ?_) ?_ ?_ ?_; rotate_left 2; (with_reducible refine qaag [] hm ?_ ?_ ?_ ?_) <;> (try simp only [zT, puth, Nat.reduceEqDiff, reduceIte, Nat.reduceAdd]))) | fail)
      all_goals (try dsimp only)
      all_goals (refine ⟨by omega, ?_⟩; rw [h2.out]; congr 1; rw [h4.out]; unfold qack; rw [if_pos rfl]; exact (qah7 _ _ _ _).symm)
   ·have ke : (e == 0) = false := by simpa using he
    replace h2 := Lib.hid h2
    repeat' (first | (with_reducible refine zA ?_) | ((with_reducible refine qaad ?_); (try rw [hP]); simp -implicitDefEqProofs [*]) | ((with_reducible refine qaam ?_); (try simp -implicitDefEqProofs [*])) | ((with_reducible refine qaab rfl (fun h => ?_) (fun h => ?_)) <;> have h' := h <;> (try simp at h') <;> (try subst h')) | (refine qab4 hm rfl ?_ (fun σ => rfl)) | fail)
    rw [h2.out, qafd he]
  ·obtain rfl : i = p.states.length := by omega
   rw [List.drop_length] at h2
   replace h2 := Lib.hid h2
   repeat' (first | (with_reducible refine zA ?_) | ((with_reducible refine qaad ?_); (try rw [hP]); simp -implicitDefEqProofs [*]) | ((with_reducible refine qaam ?_); (try simp -implicitDefEqProofs [*])) | ((with_reducible refine qaab rfl (fun h => ?_) (fun h => ?_)) <;> have h' := h <;> (try simp at h') <;> (try subst h')) | (refine qab4 hm rfl ?_ (fun σ => rfl)) | fail)
   rw [h2.out, qace _ rfl]
 replace main := Lib.hid main
 by_cases h0 : p.states.length = 0
 ·repeat' (first | (with_reducible refine zA ?_) | ((with_reducible refine qaad ?_); (try rw [hP]); simp -implicitDefEqProofs [*]) | (refine qaal (qaak p _ _ _ _ _ _ _ (by simp)) ⟨rfl, trivial⟩ ⟨rfl, trivial⟩ ?_; simp -implicitDefEqProofs [*]) | fail)
  refine qaep ?_ (main.out (qabx a b true 2 (-3)).1 (qabx a b true 2 (-3)).2 ?_)
  ·repeat' (first | ((with_reducible refine qaag [] hm ?_ ?_ ?_ ?_) <;> (try simp only [zT, puth, Nat.reduceEqDiff, reduceIte, Nat.reduceAdd])) | (with_reducible first | refine za ?_ ?_ | refine zb ?_ ?_ ?_ ?_) | (with_reducible first | exact qaaa | exact qaac) | ((with_reducible first | refine zga ?_ | refine zgb ?_); rfl) | ((with_reducible refine zgd ?_); (first | omega | (simp; done))) | (exact Co.refl _) | (exact CoL.refl _) | fail)
  ·have q := hF.out
   rw [show decide ((p.states.length : Int) < 1) = true by rw [h0]; rfl, Bool.true_or] at q
   exact q
 ·have k0 : ((p.states.length : Int) == 0) = false := by simpa using h0
  have k1 : decide ((p.states.length : Int) < 1) = false := by simp; omega
  replace h0 := Lib.hid h0
  repeat' (first | (with_reducible refine zA ?_) | ((with_reducible refine qaad ?_); (try rw [hP]); simp -implicitDefEqProofs [*]) | (refine qaal (qaak p _ _ _ _ _ _ _ (by simp)) ⟨rfl, trivial⟩ ⟨rfl, trivial⟩ ?_; simp -implicitDefEqProofs [*]) | fail)
  refine qaep ?_ (main.out (qabx a b (decide (8 < (p.states.length : Int))) 2 (-3)).1 (qabx a b (decide (8 < (p.states.length : Int))) 2 (-3)).2 ?_)
  ·repeat' (first | ((with_reducible refine qaag [] hm ?_ ?_ ?_ ?_) <;> (try simp only [zT, puth, Nat.reduceEqDiff, reduceIte, Nat.reduceAdd])) | (with_reducible first | refine za ?_ ?_ | refine zb ?_ ?_ ?_ ?_) | (with_reducible first | exact qaaa | exact qaac) | ((with_reducible first | refine zga ?_ | refine zgb ?_); rfl) | ((with_reducible refine zgd ?_); (first | omega | (simp; done))) | (exact Co.refl _) | (exact CoL.refl _) | fail)
  ·have q := hF.out
   rw [k1, Bool.false_or] at q
   exact q
end Go.Proofs.Ytbefmmajjfijnaa
