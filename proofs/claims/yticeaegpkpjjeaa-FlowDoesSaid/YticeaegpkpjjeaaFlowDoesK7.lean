/-
  Texts joined: XWlkH XFlwG XFlwH XFlwI XFlwJ XFlwK XPlnU XPlnV XPlnW. No condition.
-/
import Derived.Test.YticeaegpkpjjeaaProg
import Derived.ProofKit
import Derived.WalkSpells
import Derived.RegionTactic
import Derived.BigRegion
import Derived.Deep.RegionLaw
import Derived.Test.YticeaegpkpjjeaaFlowDoesK6
namespace Go.Proofs.Yticeaegpkpjjeaa
set_option linter.all false
open Go.RowKit
attribute [local simp] qabg qabf qaas qaa3 qaat qaa2 qabd qabe qaan qabo SOp.run SX.ev putd puts argS upds SOp.touch SSt.keep SSt.skip gets geth puth delh idOf SV.cells? setL qac6 qac7 sbin eq0 eq1 eqL qac1 qab1 qab2 qaap qabh qaag qabi qabp qaai qaao FrzOk qaa7 qaa0 qaa5 qaa6 qaau qaaz qabl qaa1 qaaw qaa8 qaav frzS frzH frz frz1 frz0 SlotsM ObjsM ObjM rn ren ren1 ren0 qabt qab6 qab9 qabs qabm qaca qab8 CoL qaa9 qacb dels adds idsH qabx
attribute [local simp] qadr refc qael qaed qab7 opc actc tabc qady qacl nums wayc
instance : PureF wayc := ⟨fun _ _ => rfl, fun _ => rfl, fun _ => qab0 _ rfl⟩
theorem qatf (h : Int) (h0 : 0 ≤ h) (h1 : h < 64) (q : Nat) : SCalls Try.prog 97 [.int .i64 h] [] q (.int .u64 (bitB h).toNat) [] := by
 refine qabj ?_ (fun _ => rfl) (fun _ => rfl) rfl q
 refine qaax (N := 6) Try.func97 rfl rfl (by kernel_rfl) qats (by simp) (by repeat' (first | exact trivial | refine And.intro ?_ ?_ | rfl | decide | exact PureR.ren _)) (by repeat' (first | exact trivial | refine And.intro ?_ ?_ | rfl | decide | exact PureR.ren _)) ?_
 rintro X hP hN hm
 unfold c_rbit
 have e := qa49 h0 h1
 rw [Int.one_mul] at e
 have e2 : IntKind.u64.wrap h = h := qaj6 (by omega) (by omega)
 repeat' (first | (with_reducible refine zA ?_) | ((with_reducible refine qaac ?_); (try rw [hP]); simp -implicitDefEqProofs [*]) | ((with_reducible refine qaam ?_); (try simp only [qaap, qaag, qaai])) | (with_reducible refine zM hm ?_) | fail)
 all_goals rfl
set_option maxHeartbeats 4000000 in
theorem rways_s (p : PlanD) (hp : PlOk p) (q : Nat) : SCalls Try.prog 103 [.agg (qacl p)] [] q (.view 3 ((qa4y p).map wayc)) [] := by
 refine qabj ?_ (fun _ => rfl) (fun _ => rfl) rfl q
 refine qaax (N := 83) Try.func103 rfl rfl (by kernel_rfl) qan5 (by simp) (by repeat' (first | exact trivial | refine And.intro ?_ ?_ | rfl | decide | exact PureR.ren _)) (by repeat' (first | exact trivial | refine And.intro ?_ ?_ | rfl | decide | exact PureR.ren _)) ?_
 rintro X hP hN hm
 have hn := hp.states.2
 have hF : qa4y p = qaj5 p 257 [⟨0, 0, 0⟩] 0 := rfl
 generalize qa4y p = F at hF
 have hi0 := qajr hp
 have hph0 : phi p ([⟨0, 0, 0⟩].drop 0) < 257 := by have := hi0.fin; omega
 replace hF := Lib.hid hF
 replace hi0 := Lib.hid hi0
 replace hph0 := Lib.hid hph0
 unfold c_rways
 repeat' (first | (with_reducible refine zA ?_) | ((with_reducible refine qaac ?_); (try rw [hP]); simp -implicitDefEqProofs [*]) | fail)
 refine qaal (qabb (fun s (z : Nat × List WayD × Nat) => s.turn [(3, .own 3 z.2.1.length), (4, .int .i64 z.2.2)] [(3, .row 197 3 (z.2.1.map wayc))]) (fun z => InvW p z.2.1 z.2.2 ∧ phi p (z.2.1.drop z.2.2) < z.1 ∧ F = qaj5 p z.1 z.2.1 z.2.2) (fun z => z.1) (257, [⟨0, 0, 0⟩], 0) ?_ ⟨hi0.out, hph0.out, hF.out⟩ ?_)
 ·repeat' (first | ((with_reducible refine qaah [] hm ?_ ?_ ?_ ?_) <;> (try simp only [zT, puth, Nat.reduceEqDiff, reduceIte, Nat.reduceAdd])) | (with_reducible first | refine za ?_ ?_ | refine zb ?_ ?_ ?_ ?_ | refine zc ?_ ?_ ?_ ?_) | (with_reducible first | exact qaab | exact qaad) | ((with_reducible first | refine zga ?_ | refine zgb ?_); rfl) | ((with_reducible refine zgc ?_); (first | (with_reducible rfl) | rfl | (simp; done))) | ((with_reducible refine zgd ?_); (first | omega | (simp; done))) | (exact Co.refl _) | (exact CoL.refl _) | fail)
 rintro J hJ ⟨f, out, i⟩ ⟨hI, hf, hFz⟩
 have hJo := hJ
 unfold qalt
 simp only [zT, puth, Nat.reduceEqDiff, reduceIte, Nat.reduceAdd] at hI hf hFz ⊢
 clear hF hi0 hph0
 have hol := qbiu hI
 have hil := hI.le
 obtain ⟨f, rfl⟩ : ∃ f', f = f' + 1 := ⟨f - 1, by omega⟩
 have hmapl : (out.map wayc).length = out.length := by simp
 have wi : IntKind.i64.wrap ((i : Int) + 1) = (i : Int) + 1 := qaaq (by omega) (by omega)
 rcases Nat.lt_or_ge i out.length with hi | hi
 ·have hst := qa54 hp hI hi
  have hFs : F = qaj5 p f (out ++ qaj4 p out[i]) (i + 1) := by
   rw [hFz]; show (if h : i < out.length then _ else _) = _; rw [dif_pos hi]
  have hsw := hI.sound out[i] (List.getElem_mem hi)
  have hrin := rw_in hp _ _ _ hsw.2
  have hget : out[i]? = some out[i] := List.getElem?_eq_getElem hi
  clear hFz hI
  generalize hww : out[i] = w at hst hFs hsw hrin hget
  simp only at hrin
  by_cases hs : w.st = p.states.length
  ·have hnx : qaj4 p w = [] := by unfold qaj4; rw [dif_neg (by omega)]
   rw [hnx, List.append_nil] at hst hFs
   have ks : ((w.st : Int) == (p.states.length : Int)) = true := by rw [beq_iff_eq]; omega
   replace hs := Lib.hid hs
   replace hst := Lib.hid hst
   replace hFs := Lib.hid hFs
   replace hsw := Lib.hid hsw
   replace hp := Lib.hid hp
   repeat' (first | (with_reducible first | refine zA ?_ | refine qaae ?_) | ((with_reducible refine qaac ?_); (try rw [hP]); simp -implicitDefEqProofs [*]) | ((with_reducible first | refine qaaf ?_ | refine qaak ?_); (try simp -implicitDefEqProofs [*])) | ((with_reducible refine qaaa rfl (fun h => ?_) (fun h => ?_)) <;> have h' := h <;> (try simp at h') <;> (try subst h')) | (with_reducible first | refine za ?_ ?_ | refine zb ?_ ?_ ?_ ?_ | refine zc ?_ ?_ ?_ ?_) | (with_reducible first | exact qaab | exact qaad) | ((with_reducible first | refine zga ?_ | refine zgb ?_); rfl) | ((with_reducible refine zgc ?_); (first | (with_reducible rfl) | rfl | (simp; done))) | ((with_reducible first | refine zgd ?_ | refine zge ?_); (first | omega | (simp; done))) | (exact Co.refl _) | (exact CoL.refl _) | ((refine qaaj hJ (f, out, i + 1) ?_ ?_ ?_; (with_reducible refine qaah [] hm ?_ ?_ ?_ ?_) <;> (try simp only [zT, puth, Nat.reduceEqDiff, reduceIte, Nat.reduceAdd]))) | fail)
   all_goals (exact ⟨hst.out.1, by have := hst.out.2; dsimp only; omega, hFs.out⟩)
  ·have hsl : w.st < p.states.length := by have := hsw.1; omega
   have ks : ((w.st : Int) == (p.states.length : Int)) = false := by rw [beq_eq_false_iff_ne]; omega
   have ok := hp.ok w.st hsl
   have hh := ok.head
   have hh6 := hp.heads
   have hleads := fun q => qbjn p hp w.st hsl q
   have hpos := fun k hk => qaf7 hp hsl (k := k) hk
   have hnx : qaj4 p w = (qaib p p.states[w.st]).map (fun k => ⟨k.toNat, (qaru p p.states[w.st].head (w.taken, w.bytes)).1, (qaru p p.states[w.st].head (w.taken, w.bytes)).2⟩) := by unfold qaj4; rw [dif_pos hsl]
   have hll : (qaib p p.states[w.st]).length ≤ 5 := by
    have := qagi p.states.length (qac2 p.states[w.st]) []
    rw [qae1] at this
    have h4 := ok.cases_
    show (qadx _ _ _).length ≤ 5
    simp at this; omega
   clear ok
   generalize hxx : p.states[w.st] = x at hh hleads hpos hnx hll
   generalize qaib p x = l at hleads hpos hnx hll
   obtain ⟨⟨TK, BY⟩, hT⟩ : ∃ z, qaru p x.head (w.taken, w.bytes) = z := ⟨_, rfl⟩
   rw [hT] at hnx
   simp only at hnx
   rw [hnx] at hst hFs
   have tail : SWp X (SCode.seq (SCode.reg false qafa [1, 3, 4, 5, 9]) (SCode.seq (SCode.reg false qae9 [1, 3, 4, 5, 9, 10]) (SCode.block 2 (SCode.loop qaey)))) (qaj1 1 (QSeq X (SCode.reg false qaiw [1, 3, 4]) (qblt X J (f + 1) (qaj1 0 (QSeq X ((SCode.reg false qaiv [2]).seq SCode.ret) (QFun X [ResultVar.tmp 2] 0 (SV.view 3 (List.map wayc F)) []))))))
     ⟨[(1, .ptr 0 0), (3, .own 3 out.length), (4, .int .i64 i), (5, .ptr 14 0)], [(0, .cells 29 (qacl p)), (3, .row 197 3 (out.map wayc)), (14, .cells 197 [.int .i64 w.st, .int .u64 TK.toNat, .int .i64 BY])], 15⟩ := by
    replace hst := Lib.hid hst
    replace hFs := Lib.hid hFs
    replace hleads := Lib.hid hleads
    replace hpos := Lib.hid hpos
    replace hp := Lib.hid hp
    clear hnx hs hT hsw hww hget ks
    repeat' (first | (with_reducible refine zA ?_) | ((with_reducible refine qaac ?_); (try rw [hP]); simp -implicitDefEqProofs [*]) | (refine qaay (hleads.out _) ?_; simp -implicitDefEqProofs [*]) | fail)
    refine qaal (qabb (fun s (k : Nat) => s.turn [(3, .own 3 (out.length + k)), (10, .int .i64 k)] [(3, .row 197 3 ((out ++ (l.take k).map (fun k => (⟨k.toNat, TK, BY⟩ : WayD))).map wayc))]) (fun k => k ≤ l.length) (fun k => l.length - k) 0 ?_ (by simp) ?_)
    ·repeat' (first | ((with_reducible refine qaah [] hm ?_ ?_ ?_ ?_) <;> (try simp only [zT, puth, Nat.reduceEqDiff, reduceIte, Nat.reduceAdd])) | (with_reducible first | refine za ?_ ?_ | refine zb ?_ ?_ ?_ ?_ | refine zc ?_ ?_ ?_ ?_) | (with_reducible first | exact qaab | exact qaad) | ((with_reducible first | refine zga ?_ | refine zgb ?_); rfl) | ((with_reducible refine zgc ?_); (first | (with_reducible rfl) | rfl | (simp; done))) | ((with_reducible refine zgd ?_); (first | omega | (simp; done))) | (exact Co.refl _) | (exact CoL.refl _) | fail)
     all_goals simp
    rintro J hJ k hk
    unfold qaey
    simp only [zT, puth, Nat.reduceEqDiff, reduceIte, Nat.reduceAdd]
    have hlen2 : ((out ++ (l.take k).map (fun k => (⟨k.toNat, TK, BY⟩ : WayD))).map wayc).length = out.length + k := by simp; omega
    have hb2 : out.length + k + 1 ≤ maxLen := by unfold maxLen; omega
    rcases Nat.lt_or_ge k l.length with h2 | h2
    ·have wk2 : IntKind.i64.wrap ((k : Int) + 1) = (k : Int) + 1 := qaaq (by omega) (by omega)
     have hrow2 : (out ++ (l.take k).map (fun k => (⟨k.toNat, TK, BY⟩ : WayD))).map wayc ++ [[.int .i64 l[k], .int .u64 TK.toNat, .int .i64 BY]] = (out ++ (l.take (k + 1)).map (fun k => (⟨k.toNat, TK, BY⟩ : WayD))).map wayc := by
      have := hpos.out l[k] (List.getElem_mem h2)
      rw [List.take_succ_eq_append_getElem h2]
      simp only [List.map_append, List.append_assoc]
      congr 2
      show _ = [[SV.int .i64 ((l[k].toNat : Nat) : Int), _, _]]
      rw [show ((l[k].toNat : Nat) : Int) = l[k] by omega]
     generalize hy : l[k] = y at hrow2
     replace hrow2 := Lib.hid hrow2
     generalize hRR : (out ++ (l.take k).map (fun k => (⟨k.toNat, TK, BY⟩ : WayD))).map wayc = RR at hlen2 hrow2
     repeat' (first | (with_reducible first | refine zA ?_ | refine qaeh ?_ | refine zK ?_) | ((with_reducible first | refine qaac ?_ | refine qaa4 (by rw [hP]; exact qacr) ?_); (try rw [hP]); simp -implicitDefEqProofs [*]) | ((with_reducible refine qaaf ?_); (try simp -implicitDefEqProofs [*])) | ((with_reducible refine qaaa rfl (fun h => ?_) (fun h => ?_)) <;> have h' := h <;> (try simp at h') <;> (try subst h')) | ((with_reducible refine qabq ?_ ?_); (first | omega | (unfold maxLen; omega)); simp -implicitDefEqProofs [*]) | (with_reducible first | refine za ?_ ?_ | refine zb ?_ ?_ ?_ ?_ | refine zc ?_ ?_ ?_ ?_) | (with_reducible first | exact qaab | exact qaad) | ((with_reducible first | refine zga ?_ | refine zgb ?_); rfl) | ((with_reducible first | refine zgd ?_ | refine zge ?_); (first | omega | (simp; done))) | (exact Co.refl _) | (exact CoL.refl _) | ((refine qaaj hJ (k + 1) ?_ ?_ ?_; (with_reducible refine qaah [(3, ?_)] hm ?_ ?_ ?_ ?_) <;> (try simp only [zT, puth, Nat.reduceEqDiff, reduceIte, Nat.reduceAdd]))) | fail)
     all_goals (exact hrow2.out)
    ·obtain rfl : k = l.length := by omega
     rw [List.take_length]
     repeat' (first | (with_reducible refine zA ?_) | ((with_reducible refine qaac ?_); (try rw [hP]); simp -implicitDefEqProofs [*]) | ((with_reducible refine qaak ?_); (try simp -implicitDefEqProofs [*])) | ((with_reducible refine qaaa rfl (fun h => ?_) (fun h => ?_)) <;> have h' := h <;> (try simp at h') <;> (try subst h')) | (with_reducible first | refine za ?_ ?_ | refine zb ?_ ?_ ?_ ?_ | refine zc ?_ ?_ ?_ ?_) | (with_reducible first | exact qaab | exact qaad) | ((with_reducible first | refine zga ?_ | refine zgb ?_); rfl) | ((with_reducible refine zgc ?_); (first | (with_reducible rfl) | rfl | (simp; done))) | ((with_reducible first | refine zgd ?_ | refine zge ?_); (first | omega | (simp; done))) | (exact Co.refl _) | (exact CoL.refl _) | ((refine qaaj hJo (f, out ++ l.map (fun k => (⟨k.toNat, TK, BY⟩ : WayD)), i + 1) ?_ ?_ ?_; (with_reducible refine qaah [] hm ?_ ?_ ?_ ?_) <;> (try simp only [zT, puth, Nat.reduceEqDiff, reduceIte, Nat.reduceAdd]))) | fail)
     all_goals first | (rw [show (out ++ l.map (fun k => (⟨k.toNat, TK, BY⟩ : WayD))).length = out.length + l.length by simp]; exact Co.refl _) | (exact ⟨hst.out.1, by have := hst.out.2; dsimp only; omega, hFs.out⟩)
   replace tail := Lib.hid tail
   replace hst := Lib.hid hst
   replace hFs := Lib.hid hFs
   replace hsw := Lib.hid hsw
   replace hleads := Lib.hid hleads
   replace hpos := Lib.hid hpos
   clear hnx hs
   cases kh : decide (0 ≤ x.head)
   ·have hT2 : (w.taken, w.bytes) = (TK, BY) := by rw [← hT]; unfold qaru; rw [if_neg (of_decide_eq_false kh)]
    have hTK : w.taken = TK := (Prod.mk.inj hT2).1
    have hBY : w.bytes = BY := (Prod.mk.inj hT2).2
    replace hp := Lib.hid hp
    replace hT := Lib.hid hT
    clear hT2
    repeat' (first | ((with_reducible refine qacj (c := .seq (.reg false qafa [1, 3, 4, 5, 9]) (.seq (.reg false qae9 [1, 3, 4, 5, 9, 10]) (.block 2 (.loop qaey)))) ?_)) | (with_reducible first | refine zA ?_ | refine qaae ?_) | ((with_reducible refine qaac ?_); (try rw [hP]); simp -implicitDefEqProofs [*]) | ((with_reducible refine qaaf ?_); (try simp -implicitDefEqProofs [*])) | ((with_reducible refine qaaa rfl (fun h => ?_) (fun h => ?_)) <;> have h' := h <;> (try simp at h') <;> (try subst h')) | fail)
    constructor
    refine qacs ?_ tail.out
    repeat' (first | ((with_reducible refine qaah [] hm ?_ ?_ ?_ ?_) <;> (try simp only [zT, puth, Nat.reduceEqDiff, reduceIte, Nat.reduceAdd])) | (with_reducible first | refine za ?_ ?_ | refine zb ?_ ?_ ?_ ?_ | refine zc ?_ ?_ ?_ ?_) | (with_reducible first | exact qaab | exact qaad) | ((with_reducible first | refine zga ?_ | refine zgb ?_); rfl) | ((with_reducible refine zgc ?_); (first | (with_reducible rfl) | rfl | (simp; done))) | ((with_reducible refine zgd ?_); (first | omega | (simp; done))) | (exact Co.refl _) | (exact CoL.refl _) | fail)
   ·have hh0 := of_decide_eq_true kh
    have hS2 := qanq hp hh0 hh.2
    have hT2 : (w.taken ||| bitB x.head, w.bytes + qah7 p x.head) = (TK, BY) := by rw [← hT]; unfold qaru; rw [if_pos hh0]
    have hTK : w.taken ||| bitB x.head = TK := (Prod.mk.inj hT2).1
    have hBY : IntKind.i64.wrap (w.bytes + qah7 p x.head) = BY := by rw [← (Prod.mk.inj hT2).2]; exact qaaq (by omega) (by omega)
    have hlt : x.head.toNat < p.heads.length := by omega
    have hsz : headW p x.head = p.heads[x.head.toNat].w := by unfold headW; rw [List.getElem?_eq_getElem hlt]; rfl
    have hcs := fun q => qbie p.heads[x.head.toNat].w q
    rw [← hsz] at hcs
    unfold qam8 at hcs
    rw [show qary (headW p x.head) = qah7 p x.head from rfl] at hcs
    generalize qah7 p x.head = N at hBY hcs hT2
    have hbh := fun q => qatf x.head hh0 (by omega) q
    generalize hq1 : p.heads[x.head.toNat] = hd at hsz
    have hsz2 : hd.w = headW p x.head := hsz.symm
    generalize headW p x.head = ws at hcs hsz2
    clear hT2 hS2 hsz
    replace hT := Lib.hid hT
    replace hp := Lib.hid hp
    replace hcs := Lib.hid hcs
    replace hbh := Lib.hid hbh
    repeat' (first | ((with_reducible refine qacj (c := .seq (.reg false qafa [1, 3, 4, 5, 9]) (.seq (.reg false qae9 [1, 3, 4, 5, 9, 10]) (.block 2 (.loop qaey)))) ?_)) | (with_reducible first | refine zA ?_ | refine qaae ?_ | refine zK ?_) | ((with_reducible first | refine qaac ?_ | refine qaa4 (by rw [hP]; exact qacr) ?_); (try rw [hP]); simp -implicitDefEqProofs [-BitVec.toNat_and, -BitVec.toNat_or, qabu, *]) | ((with_reducible refine qaaf ?_); (try simp -implicitDefEqProofs [-BitVec.toNat_and, -BitVec.toNat_or, qabu, *])) | ((with_reducible refine qaaa rfl (fun h => ?_) (fun h => ?_)) <;> have h' := h <;> (try simp at h') <;> (try subst h')) | ((first | refine qaay (hcs.out _) ?_ | refine qaay (hbh.out _) ?_); simp -implicitDefEqProofs [-BitVec.toNat_and, -BitVec.toNat_or, qabu, *]) | fail)
    constructor
    refine qacs ?_ tail.out
    repeat' (first | ((with_reducible refine qaah [] hm ?_ ?_ ?_ ?_) <;> (try simp only [zT, puth, Nat.reduceEqDiff, reduceIte, Nat.reduceAdd])) | (with_reducible first | refine za ?_ ?_ | refine zb ?_ ?_ ?_ ?_ | refine zc ?_ ?_ ?_ ?_) | (with_reducible first | exact qaab | exact qaad) | ((with_reducible first | refine zga ?_ | refine zgb ?_); rfl) | ((with_reducible refine zgc ?_); (first | (with_reducible rfl) | rfl | (simp; done))) | ((with_reducible refine zgd ?_); (first | omega | (simp; done))) | (exact Co.refl _) | (exact CoL.refl _) | fail)
 ·have hie : i = out.length := by omega
  have hFe : F = out := by
   rw [hFz]; show (if h : i < out.length then _ else _) = _; rw [dif_neg (by omega)]
  subst hFe hie
  clear hFz
  replace hI := Lib.hid hI
  replace hp := Lib.hid hp
  repeat' (first | (with_reducible refine zA ?_) | ((with_reducible refine qaac ?_); (try rw [hP]); simp -implicitDefEqProofs [*]) | ((with_reducible refine qaak ?_); (try simp -implicitDefEqProofs [*])) | ((with_reducible refine qaam ?_); (try simp only [qaap, qaag, qaai])) | ((with_reducible refine qaaa rfl (fun h => ?_) (fun h => ?_)) <;> have h' := h <;> (try simp at h') <;> (try subst h')) | (refine qasn hm rfl rfl ?_ rfl) | fail)
  all_goals simp
end Go.Proofs.Yticeaegpkpjjeaa
namespace Go.Proofs.Yticeaegpkpjjeaa
set_option linter.all false
open Go.RowKit
attribute [local simp] qabg qabf qaas qaa3 qaat qaa2 qabd qabe qaan qabo SOp.run SX.ev putd puts argS upds SOp.touch SSt.keep SSt.skip gets geth puth delh idOf SV.cells? setL qac6 qac7 sbin eq0 eq1 eqL qac1 qab1 qab2 qaap qabh qaag qabi qabp qaai qaao FrzOk qaa7 qaa0 qaa5 qaa6 qaau qaaz qabl qaa1 qaaw qaa8 qaav frzS frzH frz frz1 frz0 SlotsM ObjsM ObjM rn ren ren1 ren0 qabt qab6 qab9 qabs qabm qaca qab8 CoL qaa9 qacb dels adds idsH qabx
attribute [local simp] qadr refc qael qaed qab7 opc actc tabc qady qacl nums
theorem qa6b (p : PlanD) (hs : SmallP p) (hk : qafw p) (q : Nat) : SCalls Try.prog 19 [.agg (qacl p)] [] q (.agg [.int .i64 (qahr p).1, .int .i64 (qahr p).2]) [] := by
 refine qabj ?_ (fun _ => rfl) (fun _ => rfl) rfl q
 refine qaax (N := 11) Try.func19 rfl rfl (by kernel_rfl) qak4 (by simp) (by repeat' (first | exact trivial | refine And.intro ?_ ?_ | rfl | decide | exact PureR.ren _)) (by repeat' (first | exact trivial | refine And.intro ?_ ?_ | rfl | decide | exact PureR.ren _)) ?_
 rintro X hP hN hm
 unfold c_fcheck
 have hc := fun q => flow_s p hs hk q
 generalize qahr p = F at hc
 generalize qag5 p = L at hc
 replace hc := Lib.hid hc
 repeat' (first | (with_reducible refine zA ?_) | ((with_reducible refine qaac ?_); (try rw [hP]); simp -implicitDefEqProofs [*]) | ((with_reducible refine qaam ?_); (try simp only [qaap, qaag, qaai])) | (refine qaay (hc.out _) ?_; simp -implicitDefEqProofs [*]) | (refine qag0 hm rfl rfl (by rw [hP]; exact qabn) (by rw [hP]; exact qabc) rfl (CoL.refl _) rfl (fun σ => rfl)) | fail)
theorem qa5g (r : RefD) (m : BitVec 64) (hr : r.h < 64) (q : Nat) : SCalls Try.prog 104 [.agg (refc r), .int .u64 m.toNat] [] q (.bool (qaeu r m)) [] := by
 refine qabj ?_ (fun _ => rfl) (fun _ => rfl) rfl q
 refine qaax (N := 16) Try.func104 rfl rfl (by kernel_rfl) qaod (by simp) (by repeat' (first | exact trivial | refine And.intro ?_ ?_ | rfl | decide | exact PureR.ren _)) (by repeat' (first | exact trivial | refine And.intro ?_ ?_ | rfl | decide | exact PureR.ren _)) ?_
 rintro X hP hN hm
 unfold c_rgone
 cases kh : decide (0 ≤ r.h)
 ·have hg : qaeu r m = false := by unfold qaeu; rw [kh]; rfl
  rw [hg]
  repeat' (first | (with_reducible refine zA ?_) | ((with_reducible refine qaac ?_); (try rw [hP]); simp -implicitDefEqProofs [*]) | ((with_reducible refine qaam ?_); (try simp only [qaap, qaag, qaai])) | (with_reducible refine zN hm ?_) | fail)
  all_goals rfl
 ·have h0 := of_decide_eq_true kh
  have hg : qaeu r m = (m &&& bitB r.h == 0) := by unfold qaeu; rw [kh]; rfl
  rw [hg]
  have hb := fun q => qatf r.h h0 hr q
  replace hb := Lib.hid hb
  replace h0 := Lib.hid h0
  repeat' (first | (with_reducible refine zA ?_) | ((with_reducible refine qaac ?_); (try rw [hP]); simp -implicitDefEqProofs [-BitVec.toNat_and, qaba, qacn, *]) | ((with_reducible refine qaam ?_); (try simp only [qaap, qaag, qaai])) | (refine qaay (hb.out _) ?_; simp -implicitDefEqProofs [-BitVec.toNat_and, qaba, qacn, *]) | (with_reducible refine zN hm ?_) | fail)
  all_goals rfl
theorem qa5e (p : PlanD) (t : List PushD) (m : BitVec 64) (ht : ExOk p t) (h6 : p.heads.length ≤ 6) (hl : t.length ≤ 1000) (q : Nat) : SCalls Try.prog 106 [qab5 t, .int .u64 m.toNat] [] q (.bool (qad7 t m)) [] := by
 refine qabj ?_ (fun _ => rfl) (fun _ => rfl) rfl q
 refine qaax (N := 27) Try.func106 rfl rfl (by kernel_rfl) qakw (by simp) (by repeat' (first | exact trivial | refine And.intro ?_ ?_ | rfl | decide | exact PureR.ren _)) (by repeat' (first | exact trivial | refine And.intro ?_ ?_ | rfl | decide | exact PureR.ren _)) ?_
 rintro X hP hN hm
 unfold c_rtgone
 have hF : qad7 t m = ((t.drop 0).any fun x => decide (x.op = 2) && qaeu x.r m) := rfl
 generalize qad7 t m = F at hF
 replace hF := Lib.hid hF
 replace ht := Lib.hid ht
 repeat' (first | (with_reducible refine zA ?_) | ((with_reducible refine qaac ?_); (try rw [hP]); simp -implicitDefEqProofs [qab5, *]) | fail)
 refine qaal (qabb (fun s (i : Nat) => s.turn [(5, .int .i64 i)] []) (fun i => i ≤ t.length ∧ F = ((t.drop i).any fun x => decide (x.op = 2) && qaeu x.r m)) (fun i => t.length - i) 0 ?_ ⟨by simp, hF.out⟩ ?_)
 ·repeat' (first | ((with_reducible refine qaah [] hm ?_ ?_ ?_ ?_) <;> (try simp only [zT, puth, Nat.reduceEqDiff, reduceIte, Nat.reduceAdd])) | (with_reducible refine za ?_ ?_) | (with_reducible first | exact qaab | exact qaad) | ((with_reducible refine zgb ?_); rfl) | ((with_reducible refine zgd ?_); (first | omega | (simp; done))) | (exact Co.refl _) | fail)
 rintro J hJ i ⟨h1, h2⟩
 unfold qaiy
 simp only [zT, puth, Nat.reduceEqDiff, reduceIte, Nat.reduceAdd]
 clear hF
 rcases Nat.lt_or_ge i t.length with hi | hi
 ·have hx := ht.out t[i] (List.getElem_mem hi)
  rw [qadc _ hi] at h2
  generalize hxx : t[i] = x at hx h2
  have wi : IntKind.i64.wrap ((i : Int) + 1) = (i : Int) + 1 := qaaq (by omega) (by omega)
  cases ko : (x.op == 2)
  ·have k2 : decide (x.op = 2) = false := by simpa using ko
   rw [k2, Bool.false_and, Bool.false_or] at h2
   replace h2 := Lib.hid h2
   replace hx := Lib.hid hx
   repeat' (first | (with_reducible first | refine zA ?_ | refine qaae ?_) | ((with_reducible refine qaac ?_); (try rw [hP]); simp -implicitDefEqProofs [*]) | ((with_reducible refine qaaf ?_); (try simp -implicitDefEqProofs [*])) | ((with_reducible refine qaaa rfl (fun h => ?_) (fun h => ?_)) <;> have h' := h <;> (try simp at h') <;> (try subst h')) | (with_reducible refine za ?_ ?_) | (with_reducible first | exact qaab | exact qaad) | ((with_reducible refine zgb ?_); rfl) | ((with_reducible first | refine zgd ?_ | refine zge ?_); (first | omega | (simp; done))) | (exact Co.refl _) | ((refine qaaj hJ (i + 1) ?_ ?_ ?_; (with_reducible refine qaah [] hm ?_ ?_ ?_ ?_) <;> (try simp only [zT, puth, Nat.reduceEqDiff, reduceIte, Nat.reduceAdd]))) | fail)
   all_goals (exact ⟨by omega, h2.out⟩)
  ·have k2 : decide (x.op = 2) = true := by simpa using ko
   rw [k2, Bool.true_and] at h2
   have hxh := hx (of_decide_eq_true k2)
   have hr := fun q => qa5g x.r m (by omega) q
   cases kg : qaeu x.r m
   all_goals
    rw [kg] at h2 hr
    try rw [Bool.false_or] at h2
    replace h2 := Lib.hid h2
    replace hx := Lib.hid hx
    replace hr := Lib.hid hr
    repeat' (first | (with_reducible first | refine zA ?_ | refine qaae ?_) | ((with_reducible refine qaac ?_); (try rw [hP]); simp -implicitDefEqProofs [*]) | ((with_reducible refine qaaf ?_); (try simp -implicitDefEqProofs [*])) | ((with_reducible refine qaam ?_); (try simp only [qaap, qaag, qaai])) | ((with_reducible refine qaaa rfl (fun h => ?_) (fun h => ?_)) <;> have h' := h <;> (try simp at h') <;> (try subst h')) | (refine qaay (hr.out _) ?_; simp -implicitDefEqProofs [*]) | (with_reducible refine zN hm ?_) | (with_reducible refine za ?_ ?_) | (with_reducible first | exact qaab | exact qaad) | ((with_reducible refine zgb ?_); rfl) | ((with_reducible first | refine zgd ?_ | refine zge ?_); (first | omega | (simp; done))) | (exact Co.refl _) | ((refine qaaj hJ (i + 1) ?_ ?_ ?_; (with_reducible refine qaah [] hm ?_ ?_ ?_ ?_) <;> (try simp only [zT, puth, Nat.reduceEqDiff, reduceIte, Nat.reduceAdd]))) | fail)
   all_goals first | (exact ⟨by omega, h2.out⟩) | (have h3 := h2.out; rw [Bool.true_or] at h3; rw [h3]; done) | trace_state
 ·obtain rfl : i = t.length := by omega
  rw [List.drop_length] at h2
  have h3 : F = false := h2
  subst h3
  clear h2
  repeat' (first | (with_reducible refine zA ?_) | ((with_reducible refine qaac ?_); (try rw [hP]); simp -implicitDefEqProofs [*]) | ((with_reducible refine qaak ?_); (try simp -implicitDefEqProofs [*])) | ((with_reducible refine qaam ?_); (try simp only [qaap, qaag, qaai])) | ((with_reducible refine qaaa rfl (fun h => ?_) (fun h => ?_)) <;> have h' := h <;> (try simp at h') <;> (try subst h')) | (with_reducible refine zN hm ?_) | fail)
  all_goals rfl
end Go.Proofs.Yticeaegpkpjjeaa
namespace Go.Proofs.Yticeaegpkpjjeaa
set_option linter.all false
open Go.RowKit
attribute [local simp] qabg qabf qaas qaa3 qaat qaa2 qabd qabe qaan qabo SOp.run SX.ev putd puts argS upds SOp.touch SSt.keep SSt.skip gets geth puth delh idOf SV.cells? setL qac6 qac7 sbin eq0 eq1 eqL qac1 qab1 qab2 qaap qabh qaag qabi qabp qaai qaao FrzOk qaa7 qaa0 qaa5 qaa6 qaau qaaz qabl qaa1 qaaw qaa8 qaav frzS frzH frz frz1 frz0 SlotsM ObjsM ObjM rn ren ren1 ren0 qabt qab6 qab9 qabs qabm qaca qab8 CoL qaa9 qacb dels adds idsH qabx
attribute [local simp] qadr refc qael qaed qab7 opc actc tabc qady qacl nums
theorem fin_tt {X : Cx} {sl : Sl} {hp : Hp} {t u nx : Nat} {v w : SV} (hm : X.m = 0) (hne : t ≠ u) (hv : gets sl t = v) (hw : gets sl u = w) (hN : NoN v) (hM : NoN w) : QFun X [.tmp t, .tmp u] 0 (.tup [v, w]) [] .ret ⟨sl, hp, nx⟩ := by
 refine ⟨⟨[(t, v), (u, w)], [], 0⟩, qad3 [] hm rfl (Nat.zero_le _) ⟨?_, ?_, trivial⟩ trivial, by simp [qar3, resL, resV, one_, gets, hne, hne.symm], trivial, by simp⟩
 ·show Co (gets sl t) (ren _ v)
  rw [hv, hN]; exact Co.refl _
 ·show Co (gets sl u) (ren _ w)
  rw [hw, hM]; exact Co.refl _
theorem qasl {X : Cx} {sl : Sl} {hp : Hp} {t u y nx : Nat} {v w z : SV} (hm : X.m = 0) (h1 : t ≠ u) (h2 : t ≠ y) (h3 : u ≠ y) (hv : gets sl t = v) (hw : gets sl u = w) (hz : gets sl y = z) (hN : NoN v) (hM : NoN w) (hO : NoN z) : QFun X [.tmp t, .tmp u, .tmp y] 0 (.tup [v, w, z]) [] .ret ⟨sl, hp, nx⟩ := by
 refine ⟨⟨[(t, v), (u, w), (y, z)], [], 0⟩, qad3 [] hm rfl (Nat.zero_le _) ⟨?_, ?_, ?_, trivial⟩ trivial, by simp [qar3, resL, resV, one_, gets, h1, h1.symm, h2, h2.symm, h3, h3.symm], trivial, by simp⟩
 ·show Co (gets sl t) (ren _ v)
  rw [hv, hN]; exact Co.refl _
 ·show Co (gets sl u) (ren _ w)
  rw [hw, hM]; exact Co.refl _
 ·show Co (gets sl y) (ren _ z)
  rw [hz, hO]; exact Co.refl _
theorem qagw (m b : BitVec 64) : IntKind.u64.wrap ((m.toNat : Int) - ((m &&& b).toNat : Int)) = ((m &&& ~~~b).toNat : Int) := by
 have hz : (m &&& b) &&& (m &&& ~~~b) = 0#64 := by
  ext i hi
  simp only [BitVec.getElem_and, BitVec.getElem_not, BitVec.getElem_zero]
  cases m[i] <;> cases b[i] <;> rfl
 have ho : (m &&& b) ||| (m &&& ~~~b) = m := by
  ext i hi
  simp only [BitVec.getElem_or, BitVec.getElem_and, BitVec.getElem_not]
  cases m[i] <;> cases b[i] <;> rfl
 have ha := BitVec.toNat_add_of_and_eq_zero hz
 rw [BitVec.add_eq_or_of_and_eq_zero _ _ hz, ho] at ha
 have e : (m.toNat : Int) - ((m &&& b).toNat : Int) = ((m &&& ~~~b).toNat : Int) := by omega
 rw [e]
 exact qaj6 (by omega) (by have := (m &&& ~~~b).isLt; omega)
set_option maxHeartbeats 4000000 in
theorem qbij (p : PlanD) (k : Nat) (hk : k < p.acts.length) (hal : p.acts.length ≤ 1000) (hops : ∀ o ∈ p.acts[k].ops, OpOk p o) (h6 : p.heads.length ≤ 6) (hol : p.acts[k].ops.length ≤ 1000) (htl : ∀ o ∈ p.acts[k].ops, o.e.length ≤ 1000) (m : BitVec 64) (q : Nat) :
  SCalls Try.prog 105 [.agg (qacl p), .int .i64 k, .int .u64 m.toNat] [] q (.tup [.int .u64 (opsM p.acts[k].ops m).toNat, .bool (qac4 p.acts[k].ops m)]) [] := by
 refine qabj ?_ (fun _ => rfl) (fun _ => rfl) rfl q
 refine qaax (N := 92) Try.func105 rfl rfl (by kernel_rfl) qaoi (by simp) (by repeat' (first | exact trivial | refine And.intro ?_ ?_ | rfl | decide | exact PureR.ren _)) (by repeat' (first | exact trivial | refine And.intro ?_ ?_ | rfl | decide | exact PureR.ren _)) ?_
 rintro X hP hN hm
 unfold c_rbact
 have hF : qac4 p.acts[k].ops m = (false || qac4 (p.acts[k].ops.drop 0) m) := rfl
 have hM : opsM p.acts[k].ops m = opsM (p.acts[k].ops.drop 0) m := rfl
 generalize qac4 p.acts[k].ops m = F at hF
 generalize opsM p.acts[k].ops m = M at hM
 generalize hxx : p.acts[k] = x at hF hM hops hol htl
 generalize hyy : x.ops = ops at hF hM hops hol htl
 replace hF := Lib.hid hF
 replace hM := Lib.hid hM
 replace hops := Lib.hid hops
 replace htl := Lib.hid htl
 repeat' (first | (with_reducible refine zA ?_) | ((with_reducible refine qaac ?_); (try rw [hP]); simp -implicitDefEqProofs [*]) | fail)
 refine qaal (qabb (fun s (z : Nat × Bool × BitVec 64) => s.turn [(2, .int .u64 z.2.2.toNat), (8, .bool z.2.1), (9, .int .i64 z.1)] []) (fun z => z.1 ≤ ops.length ∧ F = (z.2.1 || qac4 (ops.drop z.1) z.2.2) ∧ M = opsM (ops.drop z.1) z.2.2) (fun z => ops.length - z.1) (0, false, m) ?_ ⟨by simp, hF.out, hM.out⟩ ?_)
 ·repeat' (first | ((with_reducible refine qaah [] hm ?_ ?_ ?_ ?_) <;> (try simp only [zT, puth, Nat.reduceEqDiff, reduceIte, Nat.reduceAdd])) | (with_reducible first | refine za ?_ ?_ | refine zb ?_ ?_ ?_ ?_) | (with_reducible first | exact qaab | exact qaad) | ((with_reducible first | refine zga ?_ | refine zgb ?_); rfl) | ((with_reducible refine zgd ?_); (first | omega | (simp; done))) | (exact Co.refl _) | (exact CoL.refl _) | fail)
 rintro J hJ ⟨i, bb, mm⟩ ⟨h1, h2, h3⟩
 unfold qal7
 simp only [zT, puth, Nat.reduceEqDiff, reduceIte, Nat.reduceAdd] at h1 h2 h3 ⊢
 clear hF hM
 rcases Nat.lt_or_ge i ops.length with hi | hi
 ·have ok := hops.out ops[i] (List.getElem_mem hi)
  have hel := htl.out ops[i] (List.getElem_mem hi)
  rw [List.drop_eq_getElem_cons hi] at h2 h3
  generalize hoo : ops[i] = o at ok hel h2 h3
  have h2' : F = ((bb || qacq o mm) || qac4 (ops.drop (i + 1)) (qafz o mm)) := by rw [h2, Bool.or_assoc]; rfl
  have h3' : M = opsM (ops.drop (i + 1)) (qafz o mm) := h3
  clear h2 h3
  have wi : IntKind.i64.wrap ((i : Int) + 1) = (i : Int) + 1 := qaaq (by omega) (by omega)
  have kinds : o.kind = 1 ∨ o.kind = 2 ∨ o.kind = 3 ∨ o.kind = 4 ∨ o.kind = 5 ∨ o.kind = 6 := by have := ok.kind; omega
  have htree := fun hx q => qa5e p o.e mm hx h6 hel q
  have href := fun hx q => qa5g o.r mm hx q
  have hbit := fun h0 h1 q => qatf o.head h0 h1 q
  have okr := ok.ref
  have oke := ok.ex
  have okh := ok.head
  clear ok
  replace htree := Lib.hid htree
  replace href := Lib.hid href
  replace hbit := Lib.hid hbit
  rcases kinds with kk | kk | kk | kk | kk | kk
  ·have hb : qacq o mm = (qad7 o.e mm || qaeu o.r mm) := by unfold qacq; rw [if_pos kk]
   have hd : qafz o mm = mm := by unfold qafz; rw [if_neg (by omega), if_neg (by omega)]
   have k1 : (o.kind == 1) = true := by simpa using kk
   rw [hd, hb] at h2'
   rw [hd] at h3'
   have hte := fun q => htree.out (oke (.inl kk)) q
   have hre := fun q => href.out (by have := okr (.inl kk); omega) q
   generalize qad7 o.e mm = G1 at h2' hte
   generalize qaeu o.r mm = G2 at h2' hre
   clear kk okr oke okh hb hd
   replace h3' := Lib.hid h3'
   replace hte := Lib.hid hte
   replace hre := Lib.hid hre
   cases bb <;> cases G1
   all_goals
    replace h2' := Lib.hid h2'
    repeat' (first | (with_reducible first | refine zA ?_ | refine qaae ?_) | ((with_reducible refine qaac ?_); (try rw [hP]); simp -implicitDefEqProofs [*]) | ((with_reducible refine qaaf ?_); (try simp -implicitDefEqProofs [*])) | ((with_reducible refine qaaa rfl (fun h => ?_) (fun h => ?_)) <;> have h' := h <;> (try simp at h') <;> (try subst h')) | ((first | refine qaay (hte.out _) ?_ | refine qaay (hre.out _) ?_); simp -implicitDefEqProofs [*]) | (with_reducible first | refine za ?_ ?_ | refine zb ?_ ?_ ?_ ?_) | (with_reducible first | exact qaab | exact qaad) | ((with_reducible first | refine zga ?_ | refine zgb ?_); rfl) | ((with_reducible first | refine zgd ?_ | refine zge ?_); (first | omega | (simp; done))) | (exact Co.refl _) | (exact CoL.refl _) | ((refine qaaj hJ (i + 1, ?_, mm) ?_ ?_ ?_; rotate_left 1; (with_reducible refine qaah [] hm ?_ ?_ ?_ ?_) <;> (try simp only [zT, puth, Nat.reduceEqDiff, reduceIte, Nat.reduceAdd]))) | fail)
    all_goals (try dsimp only)
    all_goals (exact ⟨by omega, h2'.out, h3'.out⟩)
  ·have hb : qacq o mm = false := by unfold qacq; rw [if_neg (by omega), if_neg (by omega), if_neg (by omega)]
   have hd : qafz o mm = mm ||| bitB o.head := by unfold qafz; rw [if_pos kk]
   have k1 : (o.kind == 1) = false := by rw [kk]; rfl
   have k5 : (o.kind == 5) = false := by rw [kk]; rfl
   have k6 : (o.kind == 6) = false := by rw [kk]; rfl
   have k2 : (o.kind == 2) = true := by simpa using kk
   have hh := okh (.inl kk)
   rw [hd, hb, Bool.or_false] at h2'
   rw [hd] at h3'
   have hbi := fun q => hbit.out hh.1 (by omega) q
   obtain ⟨MM, hMM⟩ : ∃ MM, mm ||| bitB o.head = MM := ⟨_, rfl⟩
   rw [hMM] at h2' h3'
   clear kk okr oke okh hb hd
   replace h2' := Lib.hid h2'
   replace h3' := Lib.hid h3'
   replace hbi := Lib.hid hbi
   repeat' (first | (with_reducible first | refine zA ?_ | refine qaae ?_) | ((with_reducible refine qaac ?_); (try rw [hP]); simp -implicitDefEqProofs [-BitVec.toNat_or, qabu, *]) | ((with_reducible refine qaaf ?_); (try simp -implicitDefEqProofs [-BitVec.toNat_or, qabu, *])) | ((with_reducible refine qaaa rfl (fun h => ?_) (fun h => ?_)) <;> have h' := h <;> (try simp at h') <;> (try subst h')) | (refine qaay (hbi.out _) ?_; simp -implicitDefEqProofs [-BitVec.toNat_or, qabu, *]) | (with_reducible first | refine za ?_ ?_ | refine zb ?_ ?_ ?_ ?_) | (with_reducible first | exact qaab | exact qaad) | ((with_reducible first | refine zga ?_ | refine zgb ?_); rfl) | ((with_reducible first | refine zgd ?_ | refine zge ?_); (first | omega | (simp; done))) | (exact Co.refl _) | (exact CoL.refl _) | ((refine qaaj hJ (i + 1, bb, MM) ?_ ?_ ?_; (with_reducible refine qaah [] hm ?_ ?_ ?_ ?_) <;> (try simp only [zT, puth, Nat.reduceEqDiff, reduceIte, Nat.reduceAdd]))) | fail)
   all_goals (try dsimp only)
   all_goals (exact ⟨by omega, h2'.out, h3'.out⟩)
  ·have hb : qacq o mm = false := by unfold qacq; rw [if_neg (by omega), if_neg (by omega), if_neg (by omega)]
   have hd : qafz o mm = mm &&& ~~~(bitB o.head) := by unfold qafz; rw [if_neg (by omega), if_pos kk]
   have k1 : (o.kind == 1) = false := by rw [kk]; rfl
   have k5 : (o.kind == 5) = false := by rw [kk]; rfl
   have k6 : (o.kind == 6) = false := by rw [kk]; rfl
   have k2 : (o.kind == 2) = false := by rw [kk]; rfl
   have k3 : (o.kind == 3) = true := by simpa using kk
   have hh := okh (.inr (.inl kk))
   rw [hd, hb, Bool.or_false] at h2'
   rw [hd] at h3'
   have hbi := fun q => hbit.out hh.1 (by omega) q
   clear kk okr oke okh hb hd
   replace h2' := Lib.hid h2'
   replace h3' := Lib.hid h3'
   replace hbi := Lib.hid hbi
   repeat' (first | (with_reducible first | refine zA ?_ | refine qaae ?_) | ((with_reducible refine qaac ?_); (try rw [hP]); simp -implicitDefEqProofs [-BitVec.toNat_and, -BitVec.toNat_not, qaba, qagw, *]) | ((with_reducible refine qaaf ?_); (try simp -implicitDefEqProofs [-BitVec.toNat_and, -BitVec.toNat_not, qaba, qagw, *])) | ((with_reducible refine qaaa rfl (fun h => ?_) (fun h => ?_)) <;> have h' := h <;> (try simp at h') <;> (try subst h')) | (refine qaay (hbi.out _) ?_; simp -implicitDefEqProofs [-BitVec.toNat_and, -BitVec.toNat_not, qaba, qagw, *]) | (with_reducible first | refine za ?_ ?_ | refine zb ?_ ?_ ?_ ?_) | (with_reducible first | exact qaab | exact qaad) | ((with_reducible first | refine zga ?_ | refine zgb ?_); rfl) | ((with_reducible first | refine zgd ?_ | refine zge ?_); (first | omega | (simp; done))) | (exact Co.refl _) | (exact CoL.refl _) | ((refine qaaj hJ (i + 1, bb, mm &&& ~~~(bitB o.head)) ?_ ?_ ?_; (with_reducible refine qaah [] hm ?_ ?_ ?_ ?_) <;> (try simp only [zT, puth, Nat.reduceEqDiff, reduceIte, Nat.reduceAdd]))) | fail)
   all_goals (try dsimp only)
   all_goals (exact ⟨by omega, h2'.out, h3'.out⟩)
  ·have hb : qacq o mm = false := by unfold qacq; rw [if_neg (by omega), if_neg (by omega), if_neg (by omega)]
   have hd : qafz o mm = mm := by unfold qafz; rw [if_neg (by omega), if_neg (by omega)]
   have k1 : (o.kind == 1) = false := by rw [kk]; rfl
   have k2 : (o.kind == 2) = false := by rw [kk]; rfl
   have k3 : (o.kind == 3) = false := by rw [kk]; rfl
   have k5 : (o.kind == 5) = false := by rw [kk]; rfl
   have k6 : (o.kind == 6) = false := by rw [kk]; rfl
   rw [hd, hb, Bool.or_false] at h2'
   rw [hd] at h3'
   clear kk okr oke okh hb hd
   replace h2' := Lib.hid h2'
   replace h3' := Lib.hid h3'
   repeat' (first | (with_reducible first | refine zA ?_ | refine qaae ?_) | ((with_reducible refine qaac ?_); (try rw [hP]); simp -implicitDefEqProofs [*]) | ((with_reducible refine qaaf ?_); (try simp -implicitDefEqProofs [*])) | ((with_reducible refine qaaa rfl (fun h => ?_) (fun h => ?_)) <;> have h' := h <;> (try simp at h') <;> (try subst h')) | (with_reducible first | refine za ?_ ?_ | refine zb ?_ ?_ ?_ ?_) | (with_reducible first | exact qaab | exact qaad) | ((with_reducible first | refine zga ?_ | refine zgb ?_); rfl) | ((with_reducible first | refine zgd ?_ | refine zge ?_); (first | omega | (simp; done))) | (exact Co.refl _) | (exact CoL.refl _) | ((refine qaaj hJ (i + 1, bb, mm) ?_ ?_ ?_; (with_reducible refine qaah [] hm ?_ ?_ ?_ ?_) <;> (try simp only [zT, puth, Nat.reduceEqDiff, reduceIte, Nat.reduceAdd]))) | fail)
   all_goals (try dsimp only)
   all_goals (exact ⟨by omega, h2'.out, h3'.out⟩)
  ·have hb : qacq o mm = qad7 o.e mm := by unfold qacq; rw [if_neg (by omega), if_pos kk]
   have hd : qafz o mm = mm := by unfold qafz; rw [if_neg (by omega), if_neg (by omega)]
   have k1 : (o.kind == 1) = false := by rw [kk]; rfl
   have k5 : (o.kind == 5) = true := by simpa using kk
   rw [hd, hb] at h2'
   rw [hd] at h3'
   have hte := fun q => htree.out (oke (.inr kk)) q
   generalize qad7 o.e mm = G1 at h2' hte
   clear kk okr oke okh hb hd
   replace h3' := Lib.hid h3'
   replace hte := Lib.hid hte
   cases bb
   all_goals
    replace h2' := Lib.hid h2'
    repeat' (first | (with_reducible first | refine zA ?_ | refine qaae ?_) | ((with_reducible refine qaac ?_); (try rw [hP]); simp -implicitDefEqProofs [*]) | ((with_reducible refine qaaf ?_); (try simp -implicitDefEqProofs [*])) | ((with_reducible refine qaaa rfl (fun h => ?_) (fun h => ?_)) <;> have h' := h <;> (try simp at h') <;> (try subst h')) | (refine qaay (hte.out _) ?_; simp -implicitDefEqProofs [*]) | (with_reducible first | refine za ?_ ?_ | refine zb ?_ ?_ ?_ ?_) | (with_reducible first | exact qaab | exact qaad) | ((with_reducible first | refine zga ?_ | refine zgb ?_); rfl) | ((with_reducible first | refine zgd ?_ | refine zge ?_); (first | omega | (simp; done))) | (exact Co.refl _) | (exact CoL.refl _) | ((refine qaaj hJ (i + 1, ?_, mm) ?_ ?_ ?_; rotate_left 1; (with_reducible refine qaah [] hm ?_ ?_ ?_ ?_) <;> (try simp only [zT, puth, Nat.reduceEqDiff, reduceIte, Nat.reduceAdd]))) | fail)
    all_goals (try dsimp only)
    all_goals (exact ⟨by omega, h2'.out, h3'.out⟩)
  ·have hb : qacq o mm = ((mm &&& bitB o.head == 0) || qaeu o.r mm) := by unfold qacq; rw [if_neg (by omega), if_neg (by omega), if_pos kk]
   have hd : qafz o mm = mm := by unfold qafz; rw [if_neg (by omega), if_neg (by omega)]
   have k1 : (o.kind == 1) = false := by rw [kk]; rfl
   have k5 : (o.kind == 5) = false := by rw [kk]; rfl
   have k6 : (o.kind == 6) = true := by simpa using kk
   have hh := okh (.inr (.inr kk))
   rw [hd, hb] at h2'
   rw [hd] at h3'
   have hbi := fun q => hbit.out hh.1 (by omega) q
   have hre := fun q => href.out (by have := okr (.inr kk); omega) q
   generalize qaeu o.r mm = G2 at h2' hre
   clear kk okr oke okh hb hd
   replace h3' := Lib.hid h3'
   replace hbi := Lib.hid hbi
   replace hre := Lib.hid hre
   cases hg : (mm &&& bitB o.head == 0#64) <;> cases bb
   all_goals
    replace h2' := Lib.hid h2'
    repeat' (first | (with_reducible first | refine zA ?_ | refine qaae ?_) | ((with_reducible refine qaac ?_); (try rw [hP]); simp -implicitDefEqProofs [-BitVec.toNat_and, qaba, qacn, *]) | ((with_reducible refine qaaf ?_); (try simp -implicitDefEqProofs [-BitVec.toNat_and, qaba, qacn, *])) | ((with_reducible refine qaaa rfl (fun h => ?_) (fun h => ?_)) <;> have h' := h <;> (try simp at h') <;> (try subst h')) | ((first | refine qaay (hbi.out _) ?_ | refine qaay (hre.out _) ?_); simp -implicitDefEqProofs [-BitVec.toNat_and, qaba, qacn, *]) | (with_reducible first | refine za ?_ ?_ | refine zb ?_ ?_ ?_ ?_) | (with_reducible first | exact qaab | exact qaad) | ((with_reducible first | refine zga ?_ | refine zgb ?_); rfl) | ((with_reducible first | refine zgd ?_ | refine zge ?_); (first | omega | (simp; done))) | (exact Co.refl _) | (exact CoL.refl _) | ((refine qaaj hJ (i + 1, ?_, mm) ?_ ?_ ?_; rotate_left 1; (with_reducible refine qaah [] hm ?_ ?_ ?_ ?_) <;> (try simp only [zT, puth, Nat.reduceEqDiff, reduceIte, Nat.reduceAdd]))) | fail)
    all_goals (try dsimp only)
    all_goals first | (exact ⟨by omega, h2'.out, h3'.out⟩) | (exact ⟨by omega, by have := h2'.out; simpa [hg] using this, h3'.out⟩) | trace_state
 ·obtain rfl : i = ops.length := by omega
  rw [List.drop_length] at h2 h3
  have h4 : F = bb := by rw [h2]; exact Bool.or_false _
  have h5 : M = mm := h3
  subst h4
  subst h5
  clear h2 h3
  repeat' (first | (with_reducible refine zA ?_) | ((with_reducible refine qaac ?_); (try rw [hP]); simp -implicitDefEqProofs [*]) | ((with_reducible refine qaak ?_); (try simp -implicitDefEqProofs [*])) | ((with_reducible refine qaam ?_); (try simp only [qaap, qaag, qaai])) | ((with_reducible refine qaaa rfl (fun h => ?_) (fun h => ?_)) <;> have h' := h <;> (try simp at h') <;> (try subst h')) | (refine fin_tt hm (by decide) rfl rfl (fun _ => rfl) (fun _ => rfl)) | fail)
end Go.Proofs.Yticeaegpkpjjeaa
namespace Go.Proofs.Yticeaegpkpjjeaa
set_option linter.all false
open Go.RowKit
attribute [local simp] qabg qabf qaas qaa3 qaat qaa2 qabd qabe qaan qabo SOp.run SX.ev putd puts argS upds SOp.touch SSt.keep SSt.skip gets geth puth delh idOf SV.cells? setL qac6 qac7 sbin eq0 eq1 eqL qac1 qab1 qab2 qaap qabh qaag qabi qabp qaai qaao FrzOk qaa7 qaa0 qaa5 qaa6 qaau qaaz qabl qaa1 qaaw qaa8 qaav frzS frzH frz frz1 frz0 SlotsM ObjsM ObjM rn ren ren1 ren0 qabt qab6 qab9 qabs qabm qaca qab8 CoL qaa9 qacb dels adds idsH qabx
attribute [local simp] qadr refc qael qaed qab7 opc actc tabc qady qacl nums
set_option maxHeartbeats 4000000 in
theorem qa5k (p : PlanD) (hf : FOk p) (hp : PlOk p) (hs : SmallP p) (i : Nat) (hi : i < p.nodes.length) (m : BitVec 64) (q : Nat) :
  SCalls Try.prog 57 [.agg (qacl p), .int .i64 i, .int .u64 m.toNat] [] q (.tup [.int .u64 (qacp p p.nodes[i] m).toNat, .int .u64 (qadv p.nodes[i] m).toNat, .bool (qacx p p.nodes[i] m)]) [] := by
 refine qabj ?_ (fun _ => rfl) (fun _ => rfl) rfl q
 refine qaax (N := 112) Try.func57 rfl rfl (by kernel_rfl) qak1 (by simp) (by repeat' (first | exact trivial | refine And.intro ?_ ?_ | rfl | decide | exact PureR.ren _)) (by repeat' (first | exact trivial | refine And.intro ?_ ?_ | rfl | decide | exact PureR.ren _)) ?_
 rintro X hP hN hm
 unfold c_rbnode
 have hns := hs.nodes
 have hac0 := hs.acts
 have h6 : p.heads.length ≤ 6 := hp.heads
 have ok := hf.nodes i hi
 have hnt := hs.node _ (List.getElem_mem hi)
 have hkind := ok.kind
 generalize hxx : p.nodes[i] = x at ok hnt hkind
 rcases hkind with kk | kk | kk | kk
 ·have hnn := ok.tab kk
  have hlt : x.n.toNat < p.tabs.length := by omega
  have hto : qbi9 p x.n = p.tabs[x.n.toNat] := by unfold qbi9; rw [List.getElem?_eq_getElem hlt]; rfl
  have hB : qacx p x m = ((false || (p.tabs[x.n.toNat].keys.drop 0).any (fun r => qaeu r m)) || (p.tabs[x.n.toNat].acts.drop 0).any (fun a => qac4 (qac9 p a) m)) := by unfold qacx; rw [if_pos kk, hto]; rfl
  have hY : qacp p x m = yesT p m (p.tabs[x.n.toNat].acts.drop 0) allB := by unfold qacp; rw [if_pos kk, hto]; rfl
  have hN2 : qadv x m = m := by unfold qadv; rw [if_neg (by omega)]
  have hkeys := hf.keys _ (List.getElem_mem hlt)
  have htac := hf.tacts _ (List.getElem_mem hlt)
  have hkl := hs.keys _ (List.getElem_mem hlt)
  rw [hB, hY, hN2]
  obtain ⟨E1, hE1⟩ : ∃ z, z = (false || (p.tabs[x.n.toNat].keys.drop 0).any (fun r => qaeu r m)) := ⟨_, rfl⟩
  rw [← hE1]
  obtain ⟨F, hF⟩ : ∃ F, F = (E1 || (p.tabs[x.n.toNat].acts.drop 0).any (fun a => qac4 (qac9 p a) m)) := ⟨_, rfl⟩
  rw [← hF]
  obtain ⟨YY, hYY⟩ : ∃ YY, YY = yesT p m (p.tabs[x.n.toNat].acts.drop 0) allB := ⟨_, rfl⟩
  rw [← hYY]
  have k1 : (x.kind == 1) = true := by simpa using kk
  have hre := fun r hr q => qa5g r m hr q
  have hao : ∀ k : Int, ∀ h0 : 0 ≤ k ∧ k < p.acts.length, qac9 p k = (p.acts[k.toNat]'(by omega)).ops := fun k h0 => by unfold qac9; rw [List.getElem?_eq_getElem (by omega)]; rfl
  have hac : ∀ (k : Int) (h0 : 0 ≤ k ∧ k < p.acts.length) (q : Nat), SCalls Try.prog 105 [.agg (qacl p), .int .i64 k, .int .u64 m.toNat] [] q (.tup [.int .u64 (opsM (qac9 p k) m).toNat, .bool (qac4 (qac9 p k) m)]) [] := fun k h0 q => by
   have := qbij p k.toNat (by omega) (by omega) (hf.ops _ (List.getElem_mem (by omega))) h6 (hs.ops _ (List.getElem_mem (by omega))) (hs.tree _ (List.getElem_mem (by omega))) m q
   rw [show ((k.toNat : Nat) : Int) = k by omega] at this
   rw [hao k h0]; exact this
  generalize htt : p.tabs[x.n.toNat] = t at hE1 hF hYY hkeys htac hkl
  have n0 := hnn.1
  have n1 := hnn.2
  clear hB kk hnn hto hY hN2
  replace ok := Lib.hid ok
  replace hf := Lib.hid hf
  replace hp := Lib.hid hp
  replace hs := Lib.hid hs
  replace hre := Lib.hid hre
  replace hac := Lib.hid hac
  replace hao := Lib.hid hao
  replace hkeys := Lib.hid hkeys
  replace htac := Lib.hid htac
  replace hE1 := Lib.hid hE1
  replace hF := Lib.hid hF
  replace hYY := Lib.hid hYY
  repeat' (first | (with_reducible first | refine zA ?_ | refine qaae ?_) | ((with_reducible refine qaac ?_); (try rw [hP]); simp -implicitDefEqProofs [*]) | ((with_reducible refine qaaa rfl (fun h => ?_) (fun h => ?_)) <;> have h' := h <;> (try simp at h') <;> (try subst h')) | fail)
  refine qaal (qabb (fun s (z : Nat × Bool) => s.turn [(11, .bool z.2), (12, .int .i64 z.1)] []) (fun z => z.1 ≤ t.keys.length ∧ E1 = (z.2 || (t.keys.drop z.1).any (fun r => qaeu r m))) (fun z => t.keys.length - z.1) (0, false) ?_ ⟨by simp, hE1.out⟩ ?_)
  ·repeat' (first | ((with_reducible refine qaah [] hm ?_ ?_ ?_ ?_) <;> (try simp only [zT, puth, Nat.reduceEqDiff, reduceIte, Nat.reduceAdd])) | (with_reducible first | refine za ?_ ?_ | refine zb ?_ ?_ ?_ ?_) | (with_reducible first | exact qaab | exact qaad) | ((with_reducible first | refine zga ?_ | refine zgb ?_); rfl) | ((with_reducible refine zgd ?_); (first | omega | (simp; done))) | (exact Co.refl _) | (exact CoL.refl _) | fail)
  rintro J hJ ⟨j, bb⟩ ⟨h1, h2⟩
  unfold qai3
  simp only [zT, puth, Nat.reduceEqDiff, reduceIte, Nat.reduceAdd] at h1 h2 ⊢
  clear hE1
  rcases Nat.lt_or_ge j t.keys.length with hj | hj
  ·have hx := hkeys.out t.keys[j] (List.getElem_mem hj)
   rw [qadc _ hj, ← Bool.or_assoc] at h2
   generalize hrr : t.keys[j] = r at hx h2
   have wj : IntKind.i64.wrap ((j : Int) + 1) = (j : Int) + 1 := qaaq (by omega) (by omega)
   have hr2 := fun q => hre.out r (by omega) q
   generalize qaeu r m = G at h2 hr2
   replace hr2 := Lib.hid hr2
   cases bb
   all_goals
    replace h2 := Lib.hid h2
    repeat' (first | (with_reducible first | refine zA ?_ | refine qaeh ?_) | ((with_reducible refine qaac ?_); (try rw [hP]); simp -implicitDefEqProofs [*]) | ((with_reducible refine qaaf ?_); (try simp -implicitDefEqProofs [*])) | ((with_reducible refine qaaa rfl (fun h => ?_) (fun h => ?_)) <;> have h' := h <;> (try simp at h') <;> (try subst h')) | (refine qaay (hr2.out _) ?_; simp -implicitDefEqProofs [*]) | (with_reducible first | refine za ?_ ?_ | refine zb ?_ ?_ ?_ ?_) | (with_reducible first | exact qaab | exact qaad) | ((with_reducible first | refine zga ?_ | refine zgb ?_); rfl) | ((with_reducible first | refine zgd ?_ | refine zge ?_); (first | omega | (simp; done))) | (exact Co.refl _) | (exact CoL.refl _) | ((refine qaaj hJ (j + 1, ?_) ?_ ?_ ?_; rotate_left 1; (with_reducible refine qaah [] hm ?_ ?_ ?_ ?_) <;> (try simp only [zT, puth, Nat.reduceEqDiff, reduceIte, Nat.reduceAdd]))) | fail)
    all_goals (try dsimp only)
    all_goals first | (exact ⟨by omega, h2.out⟩) | trace_state
  ·obtain rfl : j = t.keys.length := by omega
   rw [List.drop_length] at h2
   have h3 : E1 = bb := by rw [h2]; exact Bool.or_false _
   subst h3
   clear h2 hJ
   repeat' (first | (with_reducible refine zA ?_) | ((with_reducible refine qaac ?_); (try rw [hP]); simp -implicitDefEqProofs [*]) | ((with_reducible refine qaak ?_); (try simp -implicitDefEqProofs [*])) | ((with_reducible refine qaaa rfl (fun h => ?_) (fun h => ?_)) <;> have h' := h <;> (try simp at h') <;> (try subst h')) | fail)
   refine qaal (qabb (fun s (z : Nat × Bool × BitVec 64) => s.turn [(11, .bool z.2.1), (13, .int .u64 z.2.2.toNat), (14, .int .i64 z.1)] []) (fun z => z.1 ≤ t.acts.length ∧ F = (z.2.1 || (t.acts.drop z.1).any (fun a => qac4 (qac9 p a) m)) ∧ YY = yesT p m (t.acts.drop z.1) z.2.2) (fun z => t.acts.length - z.1) (0, E1, allB) ?_ ⟨by simp, hF.out, hYY.out⟩ ?_)
   ·repeat' (first | ((with_reducible refine qaah [] hm ?_ ?_ ?_ ?_) <;> (try simp only [zT, puth, Nat.reduceEqDiff, reduceIte, Nat.reduceAdd])) | (with_reducible first | refine za ?_ ?_ | refine zb ?_ ?_ ?_ ?_) | (with_reducible first | exact qaab | exact qaad) | ((with_reducible first | refine zga ?_ | refine zgb ?_); rfl) | ((with_reducible refine zgd ?_); (first | omega | (simp; done))) | (exact Co.refl _) | (exact CoL.refl _) | fail)
    all_goals trace_state
   rintro J hJ ⟨j, bb, y⟩ ⟨h1, h2, h4⟩
   unfold qai2
   simp only [zT, puth, Nat.reduceEqDiff, reduceIte, Nat.reduceAdd] at h1 h2 h4 ⊢
   clear hF hYY
   rcases Nat.lt_or_ge j t.acts.length with hj | hj
   ·have hx := htac.out t.acts[j] (List.getElem_mem hj)
    rw [List.drop_eq_getElem_cons hj] at h2 h4
    generalize hrr : t.acts[j] = k at hx h2 h4
    have h2' : F = ((bb || qac4 (qac9 p k) m) || (t.acts.drop (j + 1)).any (fun a => qac4 (qac9 p a) m)) := by rw [h2, Bool.or_assoc]; rfl
    have h4' : YY = yesT p m (t.acts.drop (j + 1)) (y &&& opsM (qac9 p k) m) := h4
    have wj : IntKind.i64.wrap ((j : Int) + 1) = (j : Int) + 1 := qaaq (by omega) (by omega)
    have hr2 := fun q => hac.out k hx q
    obtain ⟨YN, hYN⟩ : ∃ YN, y &&& opsM (qac9 p k) m = YN := ⟨_, rfl⟩
    rw [hYN] at h4'
    generalize qac4 (qac9 p k) m = G at h2' hr2
    generalize opsM (qac9 p k) m = O at hYN hr2
    clear h2 h4
    replace h4' := Lib.hid h4'
    replace hr2 := Lib.hid hr2
    cases bb
    all_goals
     replace h2' := Lib.hid h2'
     repeat' (first | (with_reducible first | refine zA ?_ | refine qaae ?_ | refine zK ?_) | ((with_reducible first | refine qaac ?_ | refine qaa4 (by rw [hP]; exact qacr) ?_); (try rw [hP]); simp -implicitDefEqProofs [-BitVec.toNat_and, qaba, *]) | ((with_reducible refine qaaf ?_); (try simp -implicitDefEqProofs [-BitVec.toNat_and, qaba, *])) | ((with_reducible refine qaaa rfl (fun h => ?_) (fun h => ?_)) <;> have h' := h <;> (try simp at h') <;> (try subst h')) | (refine qaay (hr2.out _) ?_; simp -implicitDefEqProofs [-BitVec.toNat_and, qaba, *]) | (with_reducible first | refine za ?_ ?_ | refine zb ?_ ?_ ?_ ?_) | (with_reducible first | exact qaab | exact qaad) | ((with_reducible first | refine zga ?_ | refine zgb ?_); rfl) | ((with_reducible first | refine zgd ?_ | refine zge ?_); (first | omega | (simp; done))) | (exact Co.refl _) | (exact CoL.refl _) | ((refine qaaj hJ (j + 1, ?_, YN) ?_ ?_ ?_; rotate_left 1; (with_reducible refine qaah [] hm ?_ ?_ ?_ ?_) <;> (try simp only [zT, puth, Nat.reduceEqDiff, reduceIte, Nat.reduceAdd]))) | fail)
     all_goals (try dsimp only)
     all_goals first | (exact ⟨by omega, h2'.out, h4'.out⟩) | trace_state
   ·obtain rfl : j = t.acts.length := by omega
    rw [List.drop_length] at h2 h4
    have h3 : F = bb := by rw [h2]; exact Bool.or_false _
    have h5 : YY = y := h4
    subst h3 h5
    clear h2 h4
    repeat' (first | (with_reducible refine zA ?_) | ((with_reducible refine qaac ?_); (try rw [hP]); simp -implicitDefEqProofs [*]) | ((with_reducible refine qaak ?_); (try simp -implicitDefEqProofs [*])) | ((with_reducible refine qaam ?_); (try simp only [qaap, qaag, qaai])) | ((with_reducible refine qaaa rfl (fun h => ?_) (fun h => ?_)) <;> have h' := h <;> (try simp at h') <;> (try subst h')) | (refine qasl hm (by decide) (by decide) (by decide) rfl rfl rfl (fun _ => rfl) (fun _ => rfl) (fun _ => rfl)) | fail)
 ·have hnn := ok.act kk
  have hlt : x.n.toNat < p.acts.length := by omega
  have hao : qac9 p x.n = p.acts[x.n.toNat].ops := by unfold qac9; rw [List.getElem?_eq_getElem hlt]; rfl
  have hB : qacx p x m = qac4 p.acts[x.n.toNat].ops m := by unfold qacx; rw [if_neg (by omega), if_pos kk, hao]
  have hY : qacp p x m = opsM p.acts[x.n.toNat].ops m := by unfold qacp; rw [if_neg (by omega), if_pos kk, hao]
  have hN2 : qadv x m = m := by unfold qadv; rw [if_neg (by omega)]
  have hact := fun q => qbij p x.n.toNat hlt (by omega) (hf.ops _ (List.getElem_mem hlt)) h6 (hs.ops _ (List.getElem_mem hlt)) (hs.tree _ (List.getElem_mem hlt)) m q
  rw [show ((x.n.toNat : Nat) : Int) = x.n by omega] at hact
  rw [hB, hY, hN2]
  have k1 : (x.kind == 1) = false := by rw [kk]; rfl
  have k2 : (x.kind == 2) = true := by simpa using kk
  generalize qac4 p.acts[x.n.toNat].ops m = B at hact
  generalize opsM p.acts[x.n.toNat].ops m = YY at hact
  clear hB hao kk hnn hY hN2
  replace ok := Lib.hid ok
  replace hf := Lib.hid hf
  replace hp := Lib.hid hp
  replace hs := Lib.hid hs
  replace hact := Lib.hid hact
  repeat' (first | (with_reducible first | refine zA ?_ | refine qaae ?_) | ((with_reducible refine qaac ?_); (try rw [hP]); simp -implicitDefEqProofs [*]) | ((with_reducible refine qaam ?_); (try simp only [qaap, qaag, qaai])) | ((with_reducible refine qaaa rfl (fun h => ?_) (fun h => ?_)) <;> have h' := h <;> (try simp at h') <;> (try subst h')) | (refine qaay (hact.out _) ?_; simp -implicitDefEqProofs [*]) | (refine qasl hm (by decide) (by decide) (by decide) rfl rfl rfl (fun _ => rfl) (fun _ => rfl) (fun _ => rfl)) | fail)
 ·have hB : qacx p x m = qad7 x.e m := by unfold qacx; rw [if_neg (by omega), if_neg (by omega), if_pos kk]
  have hY : qacp p x m = m := by unfold qacp; rw [if_neg (by omega), if_neg (by omega), if_pos kk]
  have hN2 : qadv x m = m := by unfold qadv; rw [if_neg (by omega)]
  have htr := fun q => qa5e p x.e m (ok.ex kk) h6 hnt q
  rw [hB, hY, hN2]
  have k1 : (x.kind == 1) = false := by rw [kk]; rfl
  have k2 : (x.kind == 2) = false := by rw [kk]; rfl
  have k3 : (x.kind == 3) = true := by simpa using kk
  generalize qad7 x.e m = B at htr
  clear hB kk hY hN2
  replace ok := Lib.hid ok
  replace hf := Lib.hid hf
  replace hp := Lib.hid hp
  replace hs := Lib.hid hs
  replace htr := Lib.hid htr
  repeat' (first | (with_reducible first | refine zA ?_ | refine qaae ?_) | ((with_reducible refine qaac ?_); (try rw [hP]); simp -implicitDefEqProofs [*]) | ((with_reducible refine qaam ?_); (try simp only [qaap, qaag, qaai])) | ((with_reducible refine qaaa rfl (fun h => ?_) (fun h => ?_)) <;> have h' := h <;> (try simp at h') <;> (try subst h')) | (refine qaay (htr.out _) ?_; simp -implicitDefEqProofs [*]) | (refine qasl hm (by decide) (by decide) (by decide) rfl rfl rfl (fun _ => rfl) (fun _ => rfl) (fun _ => rfl)) | fail)
 ·have hnn := ok.head kk
  have hB : qacx p x m = false := by unfold qacx; rw [if_neg (by omega), if_neg (by omega), if_neg (by omega)]
  have hY : qacp p x m = m ||| bitB x.n := by unfold qacp; rw [if_neg (by omega), if_neg (by omega), if_neg (by omega)]
  have hN2 : qadv x m = m &&& ~~~(bitB x.n) := by unfold qadv; rw [if_pos kk]
  have hbi := fun q => qatf x.n hnn.1 (by omega) q
  rw [hB, hY, hN2]
  have k1 : (x.kind == 1) = false := by rw [kk]; rfl
  have k2 : (x.kind == 2) = false := by rw [kk]; rfl
  have k3 : (x.kind == 3) = false := by rw [kk]; rfl
  clear hB kk hY hN2
  replace ok := Lib.hid ok
  replace hf := Lib.hid hf
  replace hp := Lib.hid hp
  replace hs := Lib.hid hs
  replace hbi := Lib.hid hbi
  repeat' (first | (with_reducible first | refine zA ?_ | refine qaae ?_ | refine zK ?_) | ((with_reducible first | refine qaac ?_ | refine qaa4 (by rw [hP]; exact qacr) ?_); (try rw [hP]); simp -implicitDefEqProofs [-BitVec.toNat_or, -BitVec.toNat_and, -BitVec.toNat_not, qabu, qaba, qagw, *]) | ((with_reducible refine qaaf ?_); (try simp -implicitDefEqProofs [-BitVec.toNat_or, -BitVec.toNat_and, -BitVec.toNat_not, qabu, qaba, qagw, *])) | ((with_reducible refine qaam ?_); (try simp only [qaap, qaag, qaai])) | ((with_reducible refine qaaa rfl (fun h => ?_) (fun h => ?_)) <;> have h' := h <;> (try simp at h') <;> (try subst h')) | (refine qaay (hbi.out _) ?_; simp -implicitDefEqProofs [-BitVec.toNat_or, -BitVec.toNat_and, -BitVec.toNat_not, qabu, qaba, qagw, *]) | (refine qasl hm (by decide) (by decide) (by decide) rfl rfl rfl (fun _ => rfl) (fun _ => rfl) (fun _ => rfl)) | fail)
end Go.Proofs.Yticeaegpkpjjeaa
namespace Go.Proofs.Yticeaegpkpjjeaa
set_option linter.all false
open Go.RowKit
attribute [local simp] qabg qabf qaas qaa3 qaat qaa2 qabd qabe qaan qabo SOp.run SX.ev putd puts argS upds SOp.touch SSt.keep SSt.skip gets geth puth delh idOf SV.cells? setL qac6 qac7 sbin eq0 eq1 eqL qac1 qab1 qab2 qaap qabh qaag qabi qabp qaai qaao FrzOk qaa7 qaa0 qaa5 qaa6 qaau qaaz qabl qaa1 qaaw qaa8 qaav frzS frzH frz frz1 frz0 SlotsM ObjsM ObjM rn ren ren1 ren0 qabt qab6 qab9 qabs qabm qaca qab8 CoL qaa9 qacb dels adds idsH qabx
attribute [local simp] qadr refc qael qaed qab7 opc actc tabc qady qacl nums
def qahh (p : PlanD) (s : BitVec 64) (i j : Nat) : BitVec 64 := (atGo p s j).getD i allB
theorem qa42 {p : PlanD} (hf : FOk p) (s : BitVec 64) {i j : Nat} (hi : i ≤ p.nodes.length) (hj : j < i) : qahh p s i (j + 1) = if qahh p s j j = allB then qahh p s i j else qa50 p (p.nodes[j]'(by omega)) (qahh p s j j) i (qahh p s i j) := by
 have hlt : j < p.nodes.length := by omega
 have ok := hf.nodes j hlt
 unfold qahh
 rw [qahf p s hlt]
 by_cases ha : (atGo p s j).getD j allB = allB
 ·rw [if_pos ha]; unfold qa5x; rw [if_pos ha]
 ·rw [if_neg ha]
  exact qa5w (by rw [qado]; omega) (by have := ok.yes; omega) (fun ht => by have := ok.no ht; omega) ha
theorem sureG_0 (p : PlanD) (s : BitVec 64) : qahh p s 0 0 = s := rfl
theorem sureG_s (p : PlanD) (s : BitVec 64) (i : Nat) (hi : i + 1 ≤ p.nodes.length) : qahh p s (i + 1) 0 = allB := by
 unfold qahh atGo
 rw [List.getD_eq_getElem?_getD, List.getElem?_set_ne (by omega), List.getElem?_replicate, if_pos (by omega)]; rfl
theorem qbe3 (S : BitVec 64) : ((S.toNat : Int) == 18446744073709551615) = (S == 18446744073709551615#64) := by
 rw [Bool.eq_iff_iff, beq_iff_eq, beq_iff_eq]
 constructor
 ·intro h
  have h2 : S.toNat = 18446744073709551615 := by omega
  apply BitVec.eq_of_toNat_eq
  rw [h2]; rfl
 ·intro h
  rw [h]; rfl
set_option maxHeartbeats 4000000 in
theorem rsure_s (p : PlanD) (hf : FOk p) (hp : PlOk p) (hs : SmallP p) (s : BitVec 64) (i : Nat) : i ≤ p.nodes.length → ∀ q, SCalls Try.prog 56 [.agg (qacl p), .int .u64 s.toNat, .int .i64 i] [] q (.int .u64 (qahh p s i i).toNat) [] := by
 induction i using Nat.strongRecOn with
 | ind i ih =>
 intro hi q
 refine qabj ?_ (fun _ => rfl) (fun _ => rfl) rfl q
 refine qaax (N := 82) Try.func56 rfl rfl (by kernel_rfl) qan7 (by simp) (by repeat' (first | exact trivial | refine And.intro ?_ ?_ | rfl | decide | exact PureR.ren _)) (by repeat' (first | exact trivial | refine And.intro ?_ ?_ | rfl | decide | exact PureR.ren _)) ?_
 rintro X hP hN hm
 unfold c_rsure
 have hns := hs.nodes
 by_cases h0 : i = 0
 ·subst h0
  rw [sureG_0]
  replace ih := Lib.hid ih
  replace hf := Lib.hid hf
  replace hp := Lib.hid hp
  replace hs := Lib.hid hs
  repeat' (first | (with_reducible refine zA ?_) | ((with_reducible refine qaac ?_); (try rw [hP]); simp -implicitDefEqProofs [*]) | ((with_reducible refine qaam ?_); (try simp only [qaap, qaag, qaai])) | ((with_reducible refine qaaa rfl (fun h => ?_) (fun h => ?_)) <;> have h' := h <;> (try simp at h') <;> (try subst h')) | (with_reducible refine zM hm ?_) | fail)
  all_goals rfl
 obtain ⟨i', rfl⟩ : ∃ i', i = i' + 1 := ⟨i - 1, by omega⟩
 have hst := sureG_s p s i' hi
 generalize hii : i' + 1 = i at *
 have k0 : ((i : Int) == 0) = false := by simp; omega
 obtain ⟨F, hF⟩ : ∃ F, F = qahh p s i i := ⟨_, rfl⟩
 rw [← hF]
 have hrn := fun j hj m q => qa5k p hf hp hs j hj m q
 have hstep := fun j (hj : j < i) => qa42 hf s hi hj
 replace ih := Lib.hid ih
 replace hf := Lib.hid hf
 replace hp := Lib.hid hp
 replace hs := Lib.hid hs
 replace hF := Lib.hid hF
 replace hrn := Lib.hid hrn
 replace hstep := Lib.hid hstep
 replace hst := Lib.hid hst
 repeat' (first | (with_reducible refine zA ?_) | ((with_reducible refine qaac ?_); (try rw [hP]); simp -implicitDefEqProofs [*]) | ((with_reducible refine qaaf ?_); (try simp -implicitDefEqProofs [*])) | ((with_reducible refine qaaa rfl (fun h => ?_) (fun h => ?_)) <;> have h' := h <;> (try simp at h') <;> (try subst h')) | fail)
 refine qaal (qabb (fun st (z : Nat × BitVec 64) => st.turn [(7, .int .u64 z.2.toNat), (8, .int .i64 z.1)] []) (fun z => z.1 ≤ i ∧ z.2 = qahh p s i z.1) (fun z => i - z.1) (0, allB) ?_ ⟨by simp, hst.out.symm⟩ ?_)
 ·repeat' (first | ((with_reducible refine qaah [] hm ?_ ?_ ?_ ?_) <;> (try simp only [zT, puth, Nat.reduceEqDiff, reduceIte, Nat.reduceAdd])) | (with_reducible first | refine za ?_ ?_ | refine zb ?_ ?_ ?_ ?_) | (with_reducible first | exact qaab | exact qaad) | ((with_reducible first | refine zga ?_ | refine zgb ?_); rfl) | ((with_reducible refine zgd ?_); (first | omega | (simp; done))) | (exact Co.refl _) | (exact CoL.refl _) | fail)
  all_goals rfl
 rintro J hJ ⟨j, g⟩ ⟨h1, h2⟩
 unfold qalw
 simp only [zT, puth, Nat.reduceEqDiff, reduceIte, Nat.reduceAdd] at h1 h2 ⊢
 rcases Nat.lt_or_ge j i with hj | hj
 ·have hlt : j < p.nodes.length := by omega
  have wj : IntKind.i64.wrap ((j : Int) + 1) = (j : Int) + 1 := qaaq (by omega) (by omega)
  have hs1 := hstep.out j hj
  have hc := fun q => ih.out j hj (by omega) q
  have hr := fun q => hrn.out j hlt (qahh p s j j) q
  generalize qahh p s j j = S at hs1 hc hr
  rw [← h2] at hs1
  generalize hxx : p.nodes[j] = x at hs1 hr
  have hle : qa50 p x S i g = if x.yes = i then (if twoB x && decide (x.no = i) then (g &&& qacp p x S) &&& qadv x S else g &&& qacp p x S) else if twoB x && decide (x.no = i) then g &&& qadv x S else g := rfl
  have ht : twoB x = (decide (x.kind = 3) || decide (x.kind = 4)) := rfl
  rw [hle, ht] at hs1
  generalize qacp p x S = Y at hs1 hr
  generalize qadv x S = N at hs1 hr
  generalize qacx p x S = B at hr
  clear hle ht
  generalize hG : qahh p s i (j + 1) = G' at hs1
  obtain ⟨A1, hA1⟩ : ∃ A, g &&& Y = A := ⟨_, rfl⟩
  obtain ⟨A2, hA2⟩ : ∃ A, A1 &&& N = A := ⟨_, rfl⟩
  obtain ⟨A3, hA3⟩ : ∃ A, g &&& N = A := ⟨_, rfl⟩
  rw [hA1, hA2, hA3] at hs1
  replace hc := Lib.hid hc
  replace hr := Lib.hid hr
  replace hG := Lib.hid hG
  clear h2
  cases k3 : (x.kind == 3) <;> cases k4 : (x.kind == 4) <;> cases ky : (x.yes == (i : Int)) <;> cases kn : (x.no == (i : Int)) <;> cases ks : (S == 18446744073709551615#64)
  all_goals
   have hs2 : G' = _ := hs1
   simp only [show (x.kind = 3) ↔ ((x.kind == 3) = true) by simp, show (x.kind = 4) ↔ ((x.kind == 4) = true) by simp, show (x.yes = (i : Int)) ↔ ((x.yes == (i : Int)) = true) by simp, show (x.no = (i : Int)) ↔ ((x.no == (i : Int)) = true) by simp, show (S = allB) ↔ ((S == 18446744073709551615#64) = true) by simp [allB], k3, k4, ky, kn, ks, decide_true, decide_false, Bool.or_false, Bool.or_true, Bool.false_or, Bool.true_or, Bool.and_false, Bool.and_true, Bool.false_and, Bool.true_and, if_true, if_false, Bool.false_eq_true] at hs2
   clear hs1
   replace hs2 := Lib.hid hs2
   have ky' : (x.yes != (i : Int)) = !(x.yes == (i : Int)) := rfl
   have kn' : (x.no != (i : Int)) = !(x.no == (i : Int)) := rfl
   have ks' := qbe3 S
   rw [ks] at ks'
   rw [ky] at ky'
   rw [kn] at kn'
   repeat' (first | (with_reducible first | refine zA ?_ | refine qaae ?_) | ((with_reducible refine qaac ?_); (try rw [hP]); simp -implicitDefEqProofs [-BitVec.toNat_and, qaba, *]) | ((with_reducible first | refine qaaf ?_ | refine qaak ?_); (try simp -implicitDefEqProofs [-BitVec.toNat_and, qaba, *])) | ((with_reducible refine qaaa rfl (fun h => ?_) (fun h => ?_)) <;> have h' := h <;> (try simp at h') <;> (try subst h')) | ((first | refine qaay (hc.out _) ?_ | refine qaay (hr.out _) ?_); simp -implicitDefEqProofs [-BitVec.toNat_and, qaba, *]) | (with_reducible first | refine za ?_ ?_ | refine zb ?_ ?_ ?_ ?_) | (with_reducible first | exact qaab | exact qaad) | ((with_reducible first | refine zga ?_ | refine zgb ?_); rfl) | ((with_reducible first | refine zgd ?_ | refine zge ?_); (first | omega | (simp; done))) | (exact Co.refl _) | (exact CoL.refl _) | ((refine qaaj hJ (j + 1, ?_) ?_ ?_ ?_; rotate_left 1; (with_reducible refine qaah [] hm ?_ ?_ ?_ ?_) <;> (try simp only [zT, puth, Nat.reduceEqDiff, reduceIte, Nat.reduceAdd]))) | fail)
   all_goals (try dsimp only)
   all_goals first | (exact ⟨by omega, by rw [hG.out]; exact hs2.out.symm⟩) | trace_state
 ·obtain rfl : j = i := by omega
  have h3 : F = g := by rw [hF.out, h2]
  subst h3
  clear h2
  repeat' (first | (with_reducible refine zA ?_) | ((with_reducible refine qaac ?_); (try rw [hP]); simp -implicitDefEqProofs [*]) | ((with_reducible refine qaak ?_); (try simp -implicitDefEqProofs [*])) | ((with_reducible refine qaam ?_); (try simp only [qaap, qaag, qaai])) | ((with_reducible refine qaaa rfl (fun h => ?_) (fun h => ?_)) <;> have h' := h <;> (try simp at h') <;> (try subst h')) | (with_reducible refine zM hm ?_) | fail)
  all_goals rfl
end Go.Proofs.Yticeaegpkpjjeaa
namespace Go.Proofs.Yticeaegpkpjjeaa
set_option linter.all false
open Go.RowKit
attribute [local simp] qabg qabf qaas qaa3 qaat qaa2 qabd qabe qaan qabo SOp.run SX.ev putd puts argS upds SOp.touch SSt.keep SSt.skip gets geth puth delh idOf SV.cells? setL qac6 qac7 sbin eq0 eq1 eqL qac1 qab1 qab2 qaap qabh qaag qabi qabp qaai qaao FrzOk qaa7 qaa0 qaa5 qaa6 qaau qaaz qabl qaa1 qaaw qaa8 qaav frzS frzH frz frz1 frz0 SlotsM ObjsM ObjM rn ren ren1 ren0 qabt qab6 qab9 qabs qabm qaca qab8 CoL qaa9 qacb dels adds idsH qabx
theorem row_at {p : PlanD} (hf : FOk p) (s : BitVec 64) {m : Nat} (hm : m ≤ p.nodes.length) : (atGo p s p.nodes.length)[m]'(by rw [qado]; omega) = qahh p s m m := by
 have h := qbi1 hf s (i := m) p.nodes.length hm (Nat.le_refl _)
 rw [List.getD_eq_getElem?_getD, List.getElem?_eq_getElem (by rw [qado]; omega)] at h
 exact h
theorem qbjm {p : PlanD} (hf : FOk p) (s : BitVec 64) {m : Nat} (hm : m ≤ p.nodes.length) : (atGo p s p.nodes.length).take (m + 1) = (atGo p s p.nodes.length).take m ++ [qahh p s m m] := by
 rw [← row_at hf s hm]
 exact (List.take_append_getElem (by rw [qado]; omega)).symm
theorem row_all (p : PlanD) (s : BitVec 64) : (atGo p s p.nodes.length).take (p.nodes.length + 1) = atGo p s p.nodes.length := List.take_of_length_le (by rw [qado]; exact Nat.le_refl _)
end Go.Proofs.Yticeaegpkpjjeaa
namespace Go.Proofs.Yticeaegpkpjjeaa
set_option linter.all false
open Go.RowKit
attribute [local simp] qabg qabf qaas qaa3 qaat qaa2 qabd qabe qaan qabo SOp.run SX.ev putd puts argS upds SOp.touch SSt.keep SSt.skip gets geth puth delh idOf SV.cells? setL qac6 qac7 sbin eq0 eq1 eqL qac1 qab1 qab2 qaap qabh qaag qabi qabp qaai qaao FrzOk qaa7 qaa0 qaa5 qaa6 qaau qaaz qabl qaa1 qaaw qaa8 qaav frzS frzH frz frz1 frz0 SlotsM ObjsM ObjM rn ren ren1 ren0 qabt qab6 qab9 qabs qabm qaca qab8 CoL qaa9 qacb dels adds idsH qabx
attribute [local simp] qadr refc qael qaed qab7 opc actc tabc qady qacl nums
set_option maxHeartbeats 4000000 in
theorem ract_s (p : PlanD) (a : ActD) (h1 : a.w.length ≤ 1000000) (h2 : a.ops.length ≤ 1000000) (h3 : ∀ o ∈ a.ops, o.e.length ≤ 1000000) (q : Nat) : SCalls Try.prog 134 [.agg (qacl p), .agg (actc a)] [] q (.int .i64 (actF p a)) [] := by
 refine qabj ?_ (fun _ => rfl) (fun _ => rfl) rfl q
 refine qaax (N := 58) Try.func134 rfl rfl (by kernel_rfl) qatt (by simp) (by repeat' (first | exact trivial | refine And.intro ?_ ?_ | rfl | decide | exact PureR.ren _)) (by repeat' (first | exact trivial | refine And.intro ?_ ?_ | rfl | decide | exact PureR.ren _)) ?_
 rintro X hP hN hm
 unfold c_ract
 by_cases g1 : 3 < a.w.length ∨ 5 < a.ops.length
 ·have hz : actF p a = 2 := by unfold actF; rw [if_pos g1]
  rw [hz]
  replace g1 := Lib.hid g1
  repeat' (first | (with_reducible refine zA ?_) | ((with_reducible refine qaac ?_); (try rw [hP]); simp -implicitDefEqProofs [*]) | ((with_reducible refine qaaf ?_); (try simp -implicitDefEqProofs [*])) | ((with_reducible refine qaam ?_); (try simp only [qaap, qaag, qaai])) | ((with_reducible refine qaaa rfl (fun h => ?_) (fun h => ?_)) <;> have h' := h <;> (try simp at h') <;> (try subst h')) | ((with_reducible refine qaar (fun h => ?_) (fun h => ?_)) <;> have h' := h <;> (try simp at h') <;> (try subst h') <;> simp -implicitDefEqProofs [*]) | (with_reducible refine zM hm ?_) | fail)
  all_goals (first | rfl | (exfalso; have q := g1.out; omega))
 have hF : actF p a = if (a.w.drop 0).any wOut = true then 6 else qack (fun o => qahe p o a.w) (a.ops.drop 0) := by unfold actF; rw [if_neg g1]; rfl
 generalize actF p a = F at hF
 have l3 : decide (3 < (a.w.length : Int)) = false := by rw [decide_eq_false_iff_not]; omega
 have l5 : decide (5 < (a.ops.length : Int)) = false := by rw [decide_eq_false_iff_not]; omega
 clear g1
 replace hF := Lib.hid hF
 replace h3 := Lib.hid h3
 repeat' (first | (with_reducible refine zA ?_) | ((with_reducible refine qaac ?_); (try rw [hP]); simp -implicitDefEqProofs [*]) | ((with_reducible refine qaaf ?_); (try simp -implicitDefEqProofs [*])) | ((with_reducible refine qaaa rfl (fun h => ?_) (fun h => ?_)) <;> have h' := h <;> (try simp at h') <;> (try subst h')) | fail)
 refine qaal (qabb (fun s (i : Nat) => s.turn [(5, .int .i64 i)] []) (fun i => i ≤ a.w.length ∧ F = if (a.w.drop i).any wOut = true then 6 else qack (fun o => qahe p o a.w) (a.ops.drop 0)) (fun i => a.w.length - i) 0 ?_ ⟨by simp, hF.out⟩ ?_)
 ·repeat' (first | ((with_reducible refine qaah [] hm ?_ ?_ ?_ ?_) <;> (try simp only [zT, puth, Nat.reduceEqDiff, reduceIte, Nat.reduceAdd])) | (with_reducible first | refine za ?_ ?_ | refine zb ?_ ?_ ?_ ?_) | (with_reducible first | exact qaab | exact qaad) | ((with_reducible first | refine zga ?_ | refine zgb ?_); rfl) | ((with_reducible refine zgd ?_); (first | omega | (simp; done))) | (exact Co.refl _) | (exact CoL.refl _) | fail)
 rintro J hJ i ⟨h5, h6⟩
 unfold qasx
 simp only [zT, puth, Nat.reduceEqDiff, reduceIte, Nat.reduceAdd] at h5 h6 ⊢
 rcases Nat.lt_or_ge i a.w.length with hi | hi
 ·rw [qadc _ hi] at h6
  generalize hxx : a.w[i] = x at h6
  have wi : IntKind.i64.wrap ((i : Int) + 1) = (i : Int) + 1 := qaaq (by omega) (by omega)
  replace h6 := Lib.hid h6
  cases hv : wOut x
  ·have hv1 : decide (x < 1) = false ∧ decide (48 < x) = false := by simpa [wOut] using hv
   obtain ⟨v1, v2⟩ := hv1
   repeat' (first | (with_reducible first | refine zA ?_ | refine qaae ?_) | ((with_reducible refine qaac ?_); (try rw [hP]); simp -implicitDefEqProofs [*]) | ((with_reducible refine qaaf ?_); (try simp -implicitDefEqProofs [*])) | ((with_reducible refine qaaa rfl (fun h => ?_) (fun h => ?_)) <;> have h' := h <;> (try simp at h') <;> (try subst h')) | (with_reducible first | refine za ?_ ?_ | refine zb ?_ ?_ ?_ ?_) | (with_reducible first | exact qaab | exact qaad) | ((with_reducible first | refine zga ?_ | refine zgb ?_); rfl) | ((with_reducible first | refine zgd ?_ | refine zge ?_); (first | omega | (simp; done))) | (exact Co.refl _) | (exact CoL.refl _) | ((refine qaaj hJ (i + 1) ?_ ?_ ?_; (with_reducible refine qaah [] hm ?_ ?_ ?_ ?_) <;> (try simp only [zT, puth, Nat.reduceEqDiff, reduceIte, Nat.reduceAdd]))) | fail)
   exact ⟨by omega, by rw [h6.out, hv, Bool.false_or]⟩
  ·replace hv := Lib.hid hv
   repeat' (first | (with_reducible first | refine zA ?_ | refine qaae ?_) | ((with_reducible refine qaac ?_); (try rw [hP]); simp -implicitDefEqProofs [*]) | ((with_reducible refine qaaf ?_); (try simp -implicitDefEqProofs [*])) | ((with_reducible refine qaam ?_); (try simp only [qaap, qaag, qaai])) | ((with_reducible refine qaaa rfl (fun h => ?_) (fun h => ?_)) <;> have h' := h <;> (try simp at h') <;> (try subst h')) | ((with_reducible refine qaar (fun h => ?_) (fun h => ?_)) <;> have h' := h <;> (try simp at h') <;> (try subst h') <;> simp -implicitDefEqProofs [*]) | (with_reducible refine zM hm ?_) | (with_reducible first | refine za ?_ ?_ | refine zb ?_ ?_ ?_ ?_) | (with_reducible first | exact qaab | exact qaad) | ((with_reducible first | refine zga ?_ | refine zgb ?_); rfl) | ((with_reducible first | refine zgd ?_ | refine zge ?_); (first | omega | (simp; done))) | (exact Co.refl _) | (exact CoL.refl _) | ((refine qaaj hJ (i + 1) ?_ ?_ ?_; (with_reducible refine qaah [] hm ?_ ?_ ?_ ?_) <;> (try simp only [zT, puth, Nat.reduceEqDiff, reduceIte, Nat.reduceAdd]))) | fail)
   all_goals (first | (exfalso; have q := hv.out; simp only [wOut, Bool.or_eq_true, decide_eq_true_eq] at q; omega) | (rw [h6.out, hv.out]; rfl))
 ·obtain rfl : i = a.w.length := by omega
  have h7 : F = qack (fun o => qahe p o a.w) (a.ops.drop 0) := by rw [h6, List.drop_length]; rfl
  replace h7 := Lib.hid h7
  replace h6 := Lib.hid h6
  repeat' (first | (with_reducible refine zA ?_) | ((with_reducible refine qaac ?_); (try rw [hP]); simp -implicitDefEqProofs [*]) | ((with_reducible refine qaak ?_); (try simp -implicitDefEqProofs [*])) | ((with_reducible refine qaaa rfl (fun h => ?_) (fun h => ?_)) <;> have h' := h <;> (try simp at h') <;> (try subst h')) | fail)
  refine qaal (qabb (fun s (i : Nat) => s.turn [(6, .int .i64 i)] []) (fun i => i ≤ a.ops.length ∧ F = qack (fun o => qahe p o a.w) (a.ops.drop i)) (fun i => a.ops.length - i) 0 ?_ ⟨by simp, h7.out⟩ ?_)
  ·repeat' (first | ((with_reducible refine qaah [] hm ?_ ?_ ?_ ?_) <;> (try simp only [zT, puth, Nat.reduceEqDiff, reduceIte, Nat.reduceAdd])) | (with_reducible first | refine za ?_ ?_ | refine zb ?_ ?_ ?_ ?_) | (with_reducible first | exact qaab | exact qaad) | ((with_reducible first | refine zga ?_ | refine zgb ?_); rfl) | ((with_reducible refine zgd ?_); (first | omega | (simp; done))) | (exact Co.refl _) | (exact CoL.refl _) | fail)
  rintro J hJ i ⟨h8, h10⟩
  unfold qasw
  simp only [zT, puth, Nat.reduceEqDiff, reduceIte, Nat.reduceAdd] at h8 h10 ⊢
  rcases Nat.lt_or_ge i a.ops.length with hi | hi
  ·rw [qae7 _ hi] at h10
   have hdl := fun q => rdeed_s p a.ops[i] a.w (h3.out _ (List.getElem_mem hi)) q
   generalize hxx : a.ops[i] = x at h10 hdl
   generalize qahe p x a.w = D at h10 hdl
   have wi : IntKind.i64.wrap ((i : Int) + 1) = (i : Int) + 1 := qaaq (by omega) (by omega)
   replace h10 := Lib.hid h10
   replace hdl := Lib.hid hdl
   cases kD : (D != 0)
   all_goals
    have kD' := kD
    simp at kD'
    replace kD' := Lib.hid kD'
    repeat' (first | (with_reducible first | refine zA ?_ | refine qaae ?_ | refine zK ?_) | ((with_reducible first | refine qaac ?_ | refine qaa4 (by rw [hP]; exact qacr) ?_); (try rw [hP]); simp -implicitDefEqProofs [*]) | ((with_reducible refine qaaf ?_); (try simp -implicitDefEqProofs [*])) | ((with_reducible refine qaam ?_); (try simp only [qaap, qaag, qaai])) | ((with_reducible refine qaaa rfl (fun h => ?_) (fun h => ?_)) <;> have h' := h <;> (try simp at h') <;> (try subst h')) | (refine qaay (hdl.out _) ?_; simp -implicitDefEqProofs [*]) | (with_reducible refine zM hm ?_) | (with_reducible first | refine za ?_ ?_ | refine zb ?_ ?_ ?_ ?_) | (with_reducible first | exact qaab | exact qaad) | ((with_reducible first | refine zga ?_ | refine zgb ?_); rfl) | ((with_reducible first | refine zgd ?_ | refine zge ?_); (first | omega | (simp; done))) | (exact Co.refl _) | (exact CoL.refl _) | ((refine qaaj hJ (i + 1) ?_ ?_ ?_; (with_reducible refine qaah [] hm ?_ ?_ ?_ ?_) <;> (try simp only [zT, puth, Nat.reduceEqDiff, reduceIte, Nat.reduceAdd]))) | fail)
    first | (refine ⟨by omega, ?_⟩; rw [h10.out, if_pos kD'.out]) | (rw [h10.out, if_neg kD'.out]) | skip
  ·obtain rfl : i = a.ops.length := by omega
   rw [List.drop_length] at h10
   replace h10 := Lib.hid h10
   repeat' (first | (with_reducible refine zA ?_) | ((with_reducible refine qaac ?_); (try rw [hP]); simp -implicitDefEqProofs [*]) | ((with_reducible refine qaak ?_); (try simp -implicitDefEqProofs [*])) | ((with_reducible refine qaam ?_); (try simp only [qaap, qaag, qaai])) | ((with_reducible refine qaaa rfl (fun h => ?_) (fun h => ?_)) <;> have h' := h <;> (try simp at h') <;> (try subst h')) | (with_reducible refine zM hm ?_) | fail)
   rw [h10.out]; rfl
theorem rsays_s (t : TabD) (acts : List ActD) (act : Int) (args : List Int) (hl : t.acts.length ≤ 1000000) (hl2 : args.length ≤ 1000000) (hr : ∀ k ∈ t.acts, 0 ≤ k ∧ k < acts.length) (q : Nat) : SCalls Try.prog 109 [.agg (tabc t), .view 2 (acts.map actc), .agg [.int .i64 act, nums .u64 args]] [] q (.int .i64 (qahl t.acts acts act args)) [] := by
 refine qabj ?_ (fun _ => rfl) (fun _ => rfl) rfl q
 refine qaax (N := 43) Try.func109 rfl rfl (by kernel_rfl) qan9 (by simp) (by repeat' (first | exact trivial | refine And.intro ?_ ?_ | rfl | decide | exact PureR.ren _)) (by repeat' (first | exact trivial | refine And.intro ?_ ?_ | rfl | decide | exact PureR.ren _)) ?_
 rintro X hP hN hm
 have hc := fun q => rin_s t.acts act hl q
 unfold c_rsays
 cases hin : t.acts.contains act
 ·rw [hin] at hc
  have hz : qahl t.acts acts act args = 5 := by unfold qahl; rw [hin]; rfl
  rw [hz]
  repeat' (first | (with_reducible refine zA ?_) | ((with_reducible refine qaac ?_); (try rw [hP]); simp -implicitDefEqProofs [*]) | ((with_reducible refine qaam ?_); (try simp only [qaap, qaag, qaai])) | ((with_reducible refine qaaa rfl (fun h => ?_) (fun h => ?_)) <;> have h' := h <;> (try simp at h') <;> (try subst h')) | (refine qaay (hc _) ?_; simp -implicitDefEqProofs [*]) | (with_reducible refine zM hm ?_) | fail)
  rfl
 ·rw [hin] at hc
  obtain ⟨hr0, hr1⟩ := hr act (by simpa using hin)
  have hlt : act.toNat < acts.length := by omega
  have hF : qahl t.acts acts act args = if args.length ≠ acts[act.toNat].w.length then 2 else if qagx args acts[act.toNat].w = true then 6 else 0 := by
   unfold qahl
   have : actW acts act = acts[act.toNat].w := by unfold actW; rw [List.getElem?_eq_getElem hlt]; rfl
   rw [hin, this]; rfl
  generalize qahl t.acts acts act args = F at hF
  generalize hA : acts[act.toNat] = A at hF
  by_cases hlen : args.length = A.w.length
  ·rw [if_neg (by simpa using hlen)] at hF
   have kl : ((A.w.length : Int) != (args.length : Int)) = false := by simp [hlen]
   replace hF := Lib.hid hF
   replace hlen := Lib.hid hlen
   repeat' (first | (with_reducible refine zA ?_) | ((with_reducible refine qaac ?_); (try rw [hP]); simp -implicitDefEqProofs [*]) | ((with_reducible refine qaaf ?_); (try simp -implicitDefEqProofs [*])) | ((with_reducible refine qaaa rfl (fun h => ?_) (fun h => ?_)) <;> have h' := h <;> (try simp at h') <;> (try subst h')) | (refine qaay (hc _) ?_; simp -implicitDefEqProofs [*]) | fail)
   refine qaal (qabb (fun s (i : Nat) => s.turn [(8, .int .i64 i)] []) (fun i => i ≤ A.w.length ∧ F = if qagx (args.drop i) (A.w.drop i) = true then 6 else 0) (fun i => A.w.length - i) 0 ?_ ⟨by simp, hF.out⟩ ?_)
   ·repeat' (first | ((with_reducible refine qaah [] hm ?_ ?_ ?_ ?_) <;> (try simp only [zT, puth, Nat.reduceEqDiff, reduceIte, Nat.reduceAdd])) | (with_reducible first | refine za ?_ ?_ | refine zb ?_ ?_ ?_ ?_) | (with_reducible first | exact qaab | exact qaad) | ((with_reducible first | refine zga ?_ | refine zgb ?_); rfl) | ((with_reducible refine zgd ?_); (first | omega | (simp; done))) | (exact Co.refl _) | (exact CoL.refl _) | fail)
   rintro J hJ i ⟨h1, h2⟩
   unfold qaly
   simp only [zT, puth, Nat.reduceEqDiff, reduceIte, Nat.reduceAdd] at h1 h2 ⊢
   rcases Nat.lt_or_ge i A.w.length with hi2 | hi
   ·have hi : i < args.length := by have := hlen.out; omega
    rw [qahg hi hi2] at h2
    have hms := fun q => qasr args[i] A.w[i] q
    generalize hw : A.w[i] = w at h2 hms
    generalize hx : args[i] = x at h2 hms
    have wi : IntKind.i64.wrap ((i : Int) + 1) = (i : Int) + 1 := qaaq (by have := hlen.out; omega) (by have := hlen.out; omega)
    cases hv : qam6 x w <;> rw [hv] at h2 hms <;> replace h2 := Lib.hid h2
    ·repeat' (first | (with_reducible first | refine zA ?_ | refine qaae ?_ | refine zK ?_) | ((with_reducible first | refine qaac ?_ | refine qaa4 (by rw [hP]; exact qacr) ?_); (try rw [hP]); simp -implicitDefEqProofs [*]) | ((with_reducible refine qaaf ?_); (try simp -implicitDefEqProofs [*])) | ((with_reducible refine qaaa rfl (fun h => ?_) (fun h => ?_)) <;> have h' := h <;> (try simp at h') <;> (try subst h')) | (refine qaay (hms _) ?_; simp -implicitDefEqProofs [*]) | (with_reducible first | refine za ?_ ?_ | refine zb ?_ ?_ ?_ ?_) | (with_reducible first | exact qaab | exact qaad) | ((with_reducible first | refine zga ?_ | refine zgb ?_); rfl) | ((with_reducible first | refine zgd ?_ | refine zge ?_); (first | omega | (simp; done))) | (exact Co.refl _) | (exact CoL.refl _) | ((refine qaaj hJ (i + 1) ?_ ?_ ?_; (with_reducible refine qaah [] hm ?_ ?_ ?_ ?_) <;> (try simp only [zT, puth, Nat.reduceEqDiff, reduceIte, Nat.reduceAdd]))) | fail)
     exact ⟨by omega, by rw [h2.out, Bool.false_or]⟩
    ·repeat' (first | (with_reducible first | refine zA ?_ | refine qaae ?_ | refine zK ?_) | ((with_reducible first | refine qaac ?_ | refine qaa4 (by rw [hP]; exact qacr) ?_); (try rw [hP]); simp -implicitDefEqProofs [*]) | ((with_reducible refine qaaf ?_); (try simp -implicitDefEqProofs [*])) | ((with_reducible refine qaam ?_); (try simp only [qaap, qaag, qaai])) | ((with_reducible refine qaaa rfl (fun h => ?_) (fun h => ?_)) <;> have h' := h <;> (try simp at h') <;> (try subst h')) | (refine qaay (hms _) ?_; simp -implicitDefEqProofs [*]) | (with_reducible refine zM hm ?_) | fail)
     rw [h2.out]; rfl
   ·obtain rfl : i = A.w.length := by omega
    rw [← hlen.out, List.drop_length] at h2
    replace h2 := Lib.hid h2
    repeat' (first | (with_reducible refine zA ?_) | ((with_reducible refine qaac ?_); (try rw [hP]); simp -implicitDefEqProofs [*]) | ((with_reducible refine qaak ?_); (try simp -implicitDefEqProofs [*])) | ((with_reducible refine qaam ?_); (try simp only [qaap, qaag, qaai])) | ((with_reducible refine qaaa rfl (fun h => ?_) (fun h => ?_)) <;> have h' := h <;> (try simp at h') <;> (try subst h')) | (with_reducible refine zM hm ?_) | fail)
    rw [h2.out]; rfl
  ·rw [if_pos (by simpa using hlen)] at hF
   have kl : ((A.w.length : Int) != (args.length : Int)) = true := by simp; omega
   replace hF := Lib.hid hF
   repeat' (first | (with_reducible refine zA ?_) | ((with_reducible refine qaac ?_); (try rw [hP]); simp -implicitDefEqProofs [*]) | ((with_reducible refine qaaf ?_); (try simp -implicitDefEqProofs [*])) | ((with_reducible refine qaam ?_); (try simp only [qaap, qaag, qaai])) | ((with_reducible refine qaaa rfl (fun h => ?_) (fun h => ?_)) <;> have h' := h <;> (try simp at h') <;> (try subst h')) | (refine qaay (hc _) ?_; simp -implicitDefEqProofs [*]) | (with_reducible refine zM hm ?_) | fail)
   rw [hF.out]
set_option maxHeartbeats 4000000 in
theorem qbjk (t : TabD) (ws : List Int) (acts : List ActD) (h1 : t.acts.length ≤ 1000000) (h2 : t.args.length ≤ 1000000) (h3 : ws.length ≤ 1000000) (h4 : acts.length ≤ 1000000) (q : Nat) : SCalls Try.prog 136 [.agg (tabc t), nums .i64 ws, .view 2 (acts.map actc)] [] q (.int .i64 (qadk t ws acts)) [] := by
 refine qabj ?_ (fun _ => rfl) (fun _ => rfl) rfl q
 refine qaax (N := 104) Try.func136 rfl rfl (by kernel_rfl) qaky (by simp) (by repeat' (first | exact trivial | refine And.intro ?_ ?_ | rfl | decide | exact PureR.ren _)) (by repeat' (first | exact trivial | refine And.intro ?_ ?_ | rfl | decide | exact PureR.ren _)) ?_
 rintro X hP hN hm
 have hsays := fun (hr : ∀ k ∈ t.acts, 0 ≤ k ∧ k < acts.length) q => rsays_s t acts t.def_ t.args h1 h2 hr q
 replace hsays := Lib.hid hsays
 obtain ⟨n, hn⟩ : ∃ n, ws.length = n := ⟨_, rfl⟩
 obtain ⟨m, hma⟩ : ∃ m, t.acts.length = m := ⟨_, rfl⟩
 unfold c_rtable
 by_cases g1 : t.kind < 1 ∨ 3 < t.kind
 ·have hz : qadk t ws acts = 5 := by unfold qadk; rw [if_pos g1]
  rw [hz]
  replace g1 := Lib.hid g1
  repeat' (first | (with_reducible refine zA ?_) | ((with_reducible refine qaac ?_); (try rw [hP]); simp -implicitDefEqProofs [*]) | ((with_reducible refine qaaf ?_); (try simp -implicitDefEqProofs [*])) | ((with_reducible refine qaam ?_); (try simp only [qaap, qaag, qaai])) | ((with_reducible refine qaaa rfl (fun h => ?_) (fun h => ?_)) <;> have h' := h <;> (try simp at h') <;> (try subst h')) | ((with_reducible refine qaar (fun h => ?_) (fun h => ?_)) <;> have h' := h <;> (try simp at h') <;> (try subst h') <;> simp -implicitDefEqProofs [*]) | (with_reducible refine zM hm ?_) | fail)
  all_goals (first | rfl | (exfalso; have q1 := g1.out; omega))
 have g11 : decide (t.kind < 1) = false := by rw [decide_eq_false_iff_not]; omega
 have g12 : decide (3 < t.kind) = false := by rw [decide_eq_false_iff_not]; omega
 by_cases g2 : ws.length < 1 ∨ 3 < ws.length ∨ (t.kind = 2 ∧ 1 < ws.length) ∨ t.acts.length < 1 ∨ 4 < t.acts.length
 ·have hz : qadk t ws acts = 2 := by unfold qadk; rw [if_neg g1, if_pos g2]
  rw [hz]
  replace g1 := Lib.hid g1
  replace g2 := Lib.hid g2
  repeat' (first | (with_reducible refine zA ?_) | ((with_reducible refine qaac ?_); (try rw [hP]); simp -implicitDefEqProofs [*]) | ((with_reducible refine qaaf ?_); (try simp -implicitDefEqProofs [*])) | ((with_reducible refine qaam ?_); (try simp only [qaap, qaag, qaai])) | ((with_reducible refine qaaa rfl (fun h => ?_) (fun h => ?_)) <;> have h' := h <;> (try simp at h') <;> (try subst h')) | ((with_reducible refine qaar (fun h => ?_) (fun h => ?_)) <;> have h' := h <;> (try simp at h') <;> (try subst h') <;> simp -implicitDefEqProofs [*]) | (with_reducible refine zM hm ?_) | fail)
  all_goals (first | rfl | (exfalso; have q := g2.out; have q1 := g1.out; omega))
 by_cases g3 : t.cap < 0 ∨ 16 < t.cap
 ·have hz : qadk t ws acts = 1 := by unfold qadk; rw [if_neg g1, if_neg g2, if_pos g3]
  rw [hz]
  replace g1 := Lib.hid g1
  replace g2 := Lib.hid g2
  replace g3 := Lib.hid g3
  repeat' (first | (with_reducible refine zA ?_) | ((with_reducible refine qaac ?_); (try rw [hP]); simp -implicitDefEqProofs [*]) | ((with_reducible refine qaaf ?_); (try simp -implicitDefEqProofs [*])) | ((with_reducible refine qaam ?_); (try simp only [qaap, qaag, qaai])) | ((with_reducible refine qaaa rfl (fun h => ?_) (fun h => ?_)) <;> have h' := h <;> (try simp at h') <;> (try subst h')) | ((with_reducible refine qaar (fun h => ?_) (fun h => ?_)) <;> have h' := h <;> (try simp at h') <;> (try subst h') <;> simp -implicitDefEqProofs [*]) | (with_reducible refine zM hm ?_) | fail)
  all_goals (first | rfl | (exfalso; have q := g2.out; have q1 := g1.out; have q3 := g3.out; omega))
 have hF : qadk t ws acts = if (ws.drop 0).any wOut = true then 6 else if (t.acts.drop 0).any (aOut acts.length) = true then 1 else qahl t.acts acts t.def_ t.args := by
  unfold qadk; rw [if_neg g1, if_neg g2, if_neg g3]; rfl
 generalize qadk t ws acts = F at hF
 replace hF := Lib.hid hF
 have l0 : decide ((ws.length : Int) < 1) = false := by rw [decide_eq_false_iff_not]; omega
 have l3 : decide (3 < (ws.length : Int)) = false := by rw [decide_eq_false_iff_not]; omega
 have a0 : decide ((t.acts.length : Int) < 1) = false := by rw [decide_eq_false_iff_not]; omega
 have a4 : decide (4 < (t.acts.length : Int)) = false := by rw [decide_eq_false_iff_not]; omega
 have q0 : decide (t.cap < 0) = false := by rw [decide_eq_false_iff_not]; omega
 have q16 : decide (16 < t.cap) = false := by rw [decide_eq_false_iff_not]; omega
 have hks : (t.kind == 2) = false ∨ ((t.kind == 2) = true ∧ decide (1 < (ws.length : Int)) = false) := by
  by_cases e2 : t.kind = 2
  ·right; refine ⟨by simpa using e2, ?_⟩
   rw [decide_eq_false_iff_not]; omega
  ·left; simpa using e2
 clear g1 g2 g3 hn hma n m
 rcases hks with k1 | ⟨k1, k2⟩
 all_goals
  repeat' (first | (with_reducible refine zA ?_) | ((with_reducible refine qaac ?_); (try rw [hP]); simp -implicitDefEqProofs [*]) | ((with_reducible refine qaaf ?_); (try simp -implicitDefEqProofs [*])) | ((with_reducible refine qaaa rfl (fun h => ?_) (fun h => ?_)) <;> have h' := h <;> (try simp at h') <;> (try subst h')) | fail)
  clear k1 a0 a4 q0 q16 l0 l3
  refine qaal (qabb (fun s (i : Nat) => s.turn [(7, .int .i64 i)] []) (fun i => i ≤ ws.length ∧ F = if (ws.drop i).any wOut = true then 6 else if (t.acts.drop 0).any (aOut acts.length) = true then 1 else qahl t.acts acts t.def_ t.args) (fun i => ws.length - i) 0 ?_ ⟨by simp, hF.out⟩ ?_)
  ·repeat' (first | ((with_reducible refine qaah [] hm ?_ ?_ ?_ ?_) <;> (try simp only [zT, puth, Nat.reduceEqDiff, reduceIte, Nat.reduceAdd])) | (with_reducible first | refine za ?_ ?_ | refine zb ?_ ?_ ?_ ?_) | (with_reducible first | exact qaab | exact qaad) | ((with_reducible first | refine zga ?_ | refine zgb ?_); rfl) | ((with_reducible refine zgd ?_); (first | omega | (simp; done))) | (exact Co.refl _) | (exact CoL.refl _) | fail)
  rintro J hJ i ⟨h5, h6⟩
  unfold qai0
  simp only [zT, puth, Nat.reduceEqDiff, reduceIte, Nat.reduceAdd] at h5 h6 ⊢
  rcases Nat.lt_or_ge i ws.length with hi | hi
  ·rw [qadc _ hi] at h6
   generalize hxx : ws[i] = x at h6
   have wi : IntKind.i64.wrap ((i : Int) + 1) = (i : Int) + 1 := qaaq (by omega) (by omega)
   replace h6 := Lib.hid h6
   cases hv : wOut x
   ·have hv1 : decide (x < 1) = false ∧ decide (48 < x) = false := by simpa [wOut] using hv
    obtain ⟨v1, v2⟩ := hv1
    repeat' (first | (with_reducible first | refine zA ?_ | refine qaae ?_) | ((with_reducible refine qaac ?_); (try rw [hP]); simp -implicitDefEqProofs [*]) | ((with_reducible refine qaaf ?_); (try simp -implicitDefEqProofs [*])) | ((with_reducible refine qaaa rfl (fun h => ?_) (fun h => ?_)) <;> have h' := h <;> (try simp at h') <;> (try subst h')) | (with_reducible first | refine za ?_ ?_ | refine zb ?_ ?_ ?_ ?_) | (with_reducible first | exact qaab | exact qaad) | ((with_reducible first | refine zga ?_ | refine zgb ?_); rfl) | ((with_reducible first | refine zgd ?_ | refine zge ?_); (first | omega | (simp; done))) | (exact Co.refl _) | (exact CoL.refl _) | ((refine qaaj hJ (i + 1) ?_ ?_ ?_; (with_reducible refine qaah [] hm ?_ ?_ ?_ ?_) <;> (try simp only [zT, puth, Nat.reduceEqDiff, reduceIte, Nat.reduceAdd]))) | fail)
    exact ⟨by omega, by rw [h6.out, hv, Bool.false_or]⟩
   ·replace hv := Lib.hid hv
    repeat' (first | (with_reducible first | refine zA ?_ | refine qaae ?_) | ((with_reducible refine qaac ?_); (try rw [hP]); simp -implicitDefEqProofs [*]) | ((with_reducible refine qaaf ?_); (try simp -implicitDefEqProofs [*])) | ((with_reducible refine qaam ?_); (try simp only [qaap, qaag, qaai])) | ((with_reducible refine qaaa rfl (fun h => ?_) (fun h => ?_)) <;> have h' := h <;> (try simp at h') <;> (try subst h')) | ((with_reducible refine qaar (fun h => ?_) (fun h => ?_)) <;> have h' := h <;> (try simp at h') <;> (try subst h') <;> simp -implicitDefEqProofs [*]) | (with_reducible refine zM hm ?_) | (with_reducible first | refine za ?_ ?_ | refine zb ?_ ?_ ?_ ?_) | (with_reducible first | exact qaab | exact qaad) | ((with_reducible first | refine zga ?_ | refine zgb ?_); rfl) | ((with_reducible first | refine zgd ?_ | refine zge ?_); (first | omega | (simp; done))) | (exact Co.refl _) | (exact CoL.refl _) | ((refine qaaj hJ (i + 1) ?_ ?_ ?_; (with_reducible refine qaah [] hm ?_ ?_ ?_ ?_) <;> (try simp only [zT, puth, Nat.reduceEqDiff, reduceIte, Nat.reduceAdd]))) | fail)
    all_goals (first | (exfalso; have q := hv.out; simp only [wOut, Bool.or_eq_true, decide_eq_true_eq] at q; omega) | (rw [h6.out, hv.out]; rfl))
  ·obtain rfl : i = ws.length := by omega
   have h7 : F = if (t.acts.drop 0).any (aOut acts.length) = true then 1 else qahl t.acts acts t.def_ t.args := by rw [h6, List.drop_length]; rfl
   replace h7 := Lib.hid h7
   replace h6 := Lib.hid h6
   repeat' (first | (with_reducible refine zA ?_) | ((with_reducible refine qaac ?_); (try rw [hP]); simp -implicitDefEqProofs [*]) | ((with_reducible refine qaak ?_); (try simp -implicitDefEqProofs [*])) | ((with_reducible refine qaaa rfl (fun h => ?_) (fun h => ?_)) <;> have h' := h <;> (try simp at h') <;> (try subst h')) | fail)
   refine qaal (qabb (fun s (i : Nat) => s.turn [(8, .int .i64 i)] []) (fun i => i ≤ t.acts.length ∧ (∀ k ∈ t.acts.take i, aOut acts.length k = false) ∧ F = if (t.acts.drop i).any (aOut acts.length) = true then 1 else qahl t.acts acts t.def_ t.args) (fun i => t.acts.length - i) 0 ?_ ⟨by simp, by simp, h7.out⟩ ?_)
   ·repeat' (first | ((with_reducible refine qaah [] hm ?_ ?_ ?_ ?_) <;> (try simp only [zT, puth, Nat.reduceEqDiff, reduceIte, Nat.reduceAdd])) | (with_reducible first | refine za ?_ ?_ | refine zb ?_ ?_ ?_ ?_) | (with_reducible first | exact qaab | exact qaad) | ((with_reducible first | refine zga ?_ | refine zgb ?_); rfl) | ((with_reducible refine zgd ?_); (first | omega | (simp; done))) | (exact Co.refl _) | (exact CoL.refl _) | fail)
   rintro J hJ i ⟨h8, h9, h10⟩
   unfold qaiz
   simp only [zT, puth, Nat.reduceEqDiff, reduceIte, Nat.reduceAdd] at h8 h9 h10 ⊢
   replace h9 := Lib.hid h9
   rcases Nat.lt_or_ge i t.acts.length with hi | hi
   ·rw [qadc _ hi] at h10
    have htk : t.acts.take (i + 1) = t.acts.take i ++ [t.acts[i]] := List.take_succ_eq_append_getElem hi
    generalize hxx : t.acts[i] = x at h10 htk
    have wi : IntKind.i64.wrap ((i : Int) + 1) = (i : Int) + 1 := qaaq (by omega) (by omega)
    replace h10 := Lib.hid h10
    replace htk := Lib.hid htk
    cases hv : aOut acts.length x
    ·have hv1 : decide (x < 0) = false ∧ decide ((acts.length : Int) ≤ x) = false := by simpa [aOut] using hv
     obtain ⟨v1, v2⟩ := hv1
     replace hv := Lib.hid hv
     repeat' (first | (with_reducible first | refine zA ?_ | refine qaae ?_) | ((with_reducible refine qaac ?_); (try rw [hP]); simp -implicitDefEqProofs [*]) | ((with_reducible refine qaaf ?_); (try simp -implicitDefEqProofs [*])) | ((with_reducible refine qaaa rfl (fun h => ?_) (fun h => ?_)) <;> have h' := h <;> (try simp at h') <;> (try subst h')) | (with_reducible first | refine za ?_ ?_ | refine zb ?_ ?_ ?_ ?_) | (with_reducible first | exact qaab | exact qaad) | ((with_reducible first | refine zga ?_ | refine zgb ?_); rfl) | ((with_reducible first | refine zgd ?_ | refine zge ?_); (first | omega | (simp; done))) | (exact Co.refl _) | (exact CoL.refl _) | ((refine qaaj hJ (i + 1) ?_ ?_ ?_; (with_reducible refine qaah [] hm ?_ ?_ ?_ ?_) <;> (try simp only [zT, puth, Nat.reduceEqDiff, reduceIte, Nat.reduceAdd]))) | fail)
     refine ⟨by omega, fun k hk => ?_, by rw [h10.out, hv.out, Bool.false_or]⟩
     rw [htk.out, List.mem_append] at hk
     rcases hk with hk | hk
     ·exact h9.out k hk
     ·rw [List.mem_singleton.1 hk]; exact hv.out
    ·replace hv := Lib.hid hv
     repeat' (first | (with_reducible first | refine zA ?_ | refine qaae ?_) | ((with_reducible refine qaac ?_); (try rw [hP]); simp -implicitDefEqProofs [*]) | ((with_reducible refine qaaf ?_); (try simp -implicitDefEqProofs [*])) | ((with_reducible refine qaam ?_); (try simp only [qaap, qaag, qaai])) | ((with_reducible refine qaaa rfl (fun h => ?_) (fun h => ?_)) <;> have h' := h <;> (try simp at h') <;> (try subst h')) | ((with_reducible refine qaar (fun h => ?_) (fun h => ?_)) <;> have h' := h <;> (try simp at h') <;> (try subst h') <;> simp -implicitDefEqProofs [*]) | (with_reducible refine zM hm ?_) | (with_reducible first | refine za ?_ ?_ | refine zb ?_ ?_ ?_ ?_) | (with_reducible first | exact qaab | exact qaad) | ((with_reducible first | refine zga ?_ | refine zgb ?_); rfl) | ((with_reducible first | refine zgd ?_ | refine zge ?_); (first | omega | (simp; done))) | (exact Co.refl _) | (exact CoL.refl _) | ((refine qaaj hJ (i + 1) ?_ ?_ ?_; (with_reducible refine qaah [] hm ?_ ?_ ?_ ?_) <;> (try simp only [zT, puth, Nat.reduceEqDiff, reduceIte, Nat.reduceAdd]))) | fail)
     all_goals (first | (exfalso; have q := hv.out; simp only [aOut, Bool.or_eq_true, decide_eq_true_eq] at q; omega) | (rw [h10.out, hv.out]; rfl))
   ·obtain rfl : i = t.acts.length := by omega
    have h11 : ∀ k ∈ t.acts, 0 ≤ k ∧ k < acts.length := fun k hk => by
     have := h9.out k (by rw [List.take_length]; exact hk)
     unfold aOut at this; rw [Bool.or_eq_false_iff, decide_eq_false_iff_not, decide_eq_false_iff_not] at this; omega
    have h12 : F = qahl t.acts acts t.def_ t.args := by rw [h10, List.drop_length]; rfl
    have hs := hsays.out h11
    replace hs := Lib.hid hs
    replace h11 := Lib.hid h11
    replace h10 := Lib.hid h10
    replace h12 := Lib.hid h12
    repeat' (first | (with_reducible refine zA ?_) | ((with_reducible refine qaac ?_); (try rw [hP]); simp -implicitDefEqProofs [*]) | ((with_reducible refine qaak ?_); (try simp -implicitDefEqProofs [*])) | ((with_reducible refine qaam ?_); (try simp only [qaap, qaag, qaai])) | ((with_reducible refine qaaa rfl (fun h => ?_) (fun h => ?_)) <;> have h' := h <;> (try simp at h') <;> (try subst h')) | (refine qaay (hs.out _) ?_; simp -implicitDefEqProofs [*]) | (with_reducible refine zM hm ?_) | fail)
    rw [h12.out]
end Go.Proofs.Yticeaegpkpjjeaa
namespace Go.Proofs.Yticeaegpkpjjeaa
set_option linter.all false
open Go.RowKit
attribute [local simp] qabg qabf qaas qaa3 qaat qaa2 qabd qabe qaan qabo SOp.run SX.ev putd puts argS upds SOp.touch SSt.keep SSt.skip gets geth puth delh idOf SV.cells? setL qac6 qac7 sbin eq0 eq1 eqL qac1 qab1 qab2 qaap qabh qaag qabi qabp qaai qaao FrzOk qaa7 qaa0 qaa5 qaa6 qaau qaaz qabl qaa1 qaaw qaa8 qaav frzS frzH frz frz1 frz0 SlotsM ObjsM ObjM rn ren ren1 ren0 qabt qab6 qab9 qabs qabm qaca qab8 CoL qaa9 qacb dels adds idsH qabx
attribute [local simp] qadr refc qael qaed qab7 opc actc tabc qady qacl nums
theorem qadu {t e R : Int} (h : t = e) : (if t = 0 then R else t) = if e = 0 then R else e := by rw [h]
set_option maxHeartbeats 8000000 in
theorem rnode_s (p : PlanD) (i : Nat) (hi : i < p.nodes.length) (hnl : p.nodes.length ≤ 1000000) (hw : p.nodes[i].e.length ≤ 1000000) (q : Nat) : SCalls Try.prog 137 [.agg (qacl p), .int .i64 i] [] q (.int .i64 (qanl p i p.nodes[i])) [] := by
 refine qabj ?_ (fun _ => rfl) (fun _ => rfl) rfl q
 refine qaax (N := 109) Try.func137 rfl rfl (by kernel_rfl) qaoa (by simp) (by repeat' (first | exact trivial | refine And.intro ?_ ?_ | rfl | decide | exact PureR.ren _)) (by repeat' (first | exact trivial | refine And.intro ?_ ?_ | rfl | decide | exact PureR.ren _)) ?_
 rintro X hP hN hm
 unfold c_rnode
 generalize hxx : p.nodes[i] = x at hw
 have hA : qanl p i x = qati p i x := qar6 p i x
 generalize qanl p i x = F at hA
 unfold qati at hA
 by_cases kn1 : x.kind = 1
 ·have k1 : (x.kind == 1) = true := by simpa using kn1
  rw [if_pos kn1] at hA
  clear kn1
  cases kb : (decide (x.n < 0) || decide ((p.tabs.length : Int) ≤ x.n)) <;> rw [kb] at hA
  ·have hI : F = if (0 : Int) = 0 then qadt p i ([x.yes].drop 0) else 0 := hA
   obtain ⟨b1, b2⟩ := Bool.or_eq_false_iff.1 kb
   clear hA kb
   replace hI := Lib.hid hI
   repeat' (first | (with_reducible first | refine zA ?_ | refine qaae ?_) | ((with_reducible refine qaac ?_); (try rw [hP]); simp -implicitDefEqProofs [*]) | ((with_reducible refine qaaf ?_); (try simp -implicitDefEqProofs [*])) | ((with_reducible refine qaaa rfl (fun h => ?_) (fun h => ?_)) <;> have h' := h <;> (try simp at h') <;> (try subst h')) | fail)
   refine qaal (qabb (fun s (y : Nat × Int) => s.turn [(6, .int .i64 y.2), (8, .int .i64 y.1)] []) (fun y => y.1 ≤ 1 ∧ F = if y.2 = 0 then qadt p i ([x.yes].drop y.1) else y.2) (fun y => 1 - y.1) (0, 0) ?_ ⟨by simp, hI.out⟩ ?_)
   ·repeat' (first | ((with_reducible refine qaah [] hm ?_ ?_ ?_ ?_) <;> (try simp only [zT, puth, Nat.reduceEqDiff, reduceIte, Nat.reduceAdd])) | (with_reducible first | refine za ?_ ?_ | refine zb ?_ ?_ ?_ ?_ | refine zd ?_ ?_ ?_ ?_) | (with_reducible first | exact qaab | exact qaad) | ((with_reducible first | refine zga ?_ | refine zgb ?_); rfl) | ((with_reducible refine zgd ?_); (first | omega | (simp; done))) | (exact Co.refl _) | (exact CoL.refl _) | (exact CoLL.refl _) | fail)
   rintro J hJ ⟨k, e⟩ ⟨h3, h4⟩
   unfold qade
   simp only [zT, puth, Nat.reduceEqDiff, reduceIte, Nat.reduceAdd] at h3 h4 ⊢
   by_cases he : e = 0
   ·subst he
    rw [if_pos rfl] at h4
    have hk : k = 0 ∨ k = 1 := by omega
    rcases hk with rfl | rfl
    ·have h5 : F = if toF p i x.yes = 0 then qadt p i [] else toF p i x.yes := h4
     clear h4
     replace h5 := Lib.hid h5
     repeat' (first | (with_reducible first | refine zA ?_ | refine qaae ?_ | refine zK ?_) | ((with_reducible first | refine qaac ?_ | refine qaa4 (by rw [hP]; exact qacr) ?_); (try rw [hP]); simp -implicitDefEqProofs [*]) | ((with_reducible refine qaaf ?_); (try simp -implicitDefEqProofs [*])) | ((with_reducible refine qaaa rfl (fun h => ?_) (fun h => ?_)) <;> have h' := h <;> (try simp at h') <;> (try subst h')) | ((with_reducible refine qaar (fun h => ?_) (fun h => ?_)) <;> have h' := h <;> (try simp at h') <;> (try subst h') <;> simp -implicitDefEqProofs [*]) | (with_reducible first | refine za ?_ ?_ | refine zb ?_ ?_ ?_ ?_ | refine zd ?_ ?_ ?_ ?_) | (with_reducible first | exact qaab | exact qaad) | ((with_reducible first | refine zga ?_ | refine zgb ?_); rfl) | ((with_reducible first | refine zgd ?_ | refine zge ?_); (first | omega | (simp; done))) | (exact Co.refl _) | (exact CoL.refl _) | (exact CoLL.refl _) | ((refine qaaj hJ (1, ?_) ?_ ?_ ?_; rotate_left 1; (with_reducible refine qaah [] hm ?_ ?_ ?_ ?_) <;> (try simp only [zT, puth, Nat.reduceEqDiff, reduceIte, Nat.reduceAdd]))) | fail)
     all_goals (try dsimp only)
     all_goals (refine ⟨by omega, ?_⟩; rw [h5.out]; clear h5; refine qadu ?_; unfold toF; (repeat' split) <;> first | rfl | (exfalso; simp_all; omega) | (exfalso; simp_all; done))
    ·replace h4 := Lib.hid h4
     repeat' (first | (with_reducible refine zA ?_) | ((with_reducible refine qaac ?_); (try rw [hP]); simp -implicitDefEqProofs [*]) | ((with_reducible refine qaak ?_); (try simp -implicitDefEqProofs [*])) | ((with_reducible refine qaam ?_); (try simp only [qaap, qaag, qaai])) | ((with_reducible refine qaaa rfl (fun h => ?_) (fun h => ?_)) <;> have h' := h <;> (try simp at h') <;> (try subst h')) | (with_reducible refine zM hm ?_) | fail)
     rw [h4.out]; rfl
   ·rw [if_neg he] at h4
    have ke : (e == 0) = false := by simpa using he
    replace h4 := Lib.hid h4
    repeat' (first | (with_reducible refine zA ?_) | ((with_reducible refine qaac ?_); (try rw [hP]); simp -implicitDefEqProofs [*]) | ((with_reducible refine qaak ?_); (try simp -implicitDefEqProofs [*])) | ((with_reducible refine qaam ?_); (try simp only [qaap, qaag, qaai])) | ((with_reducible refine qaaa rfl (fun h => ?_) (fun h => ?_)) <;> have h' := h <;> (try simp at h') <;> (try subst h')) | ((with_reducible refine qaar (fun h => ?_) (fun h => ?_)) <;> have h' := h <;> (try simp at h') <;> (try subst h') <;> simp -implicitDefEqProofs [*]) | (with_reducible refine zM hm ?_) | fail)
    all_goals (rw [h4.out])
  ·have hI : F = if (1 : Int) = 0 then qadt p i ([x.yes].drop 0) else 1 := hA
   replace kb := Lib.hid kb
   clear hA
   replace hI := Lib.hid hI
   repeat' (first | (with_reducible first | refine zA ?_ | refine qaae ?_) | ((with_reducible refine qaac ?_); (try rw [hP]); simp -implicitDefEqProofs [*]) | ((with_reducible refine qaaf ?_); (try simp -implicitDefEqProofs [*])) | ((with_reducible refine qaaa rfl (fun h => ?_) (fun h => ?_)) <;> have h' := h <;> (try simp at h') <;> (try subst h')) | ((with_reducible refine qaar (fun h => ?_) (fun h => ?_)) <;> have h' := h <;> (try simp at h') <;> (try subst h') <;> simp -implicitDefEqProofs [*]) | fail)
   all_goals (try (exfalso; have q := kb.out; simp only [Bool.or_eq_true, decide_eq_true_eq] at q; omega))
   all_goals
    refine qaal (qabb (fun s (y : Nat × Int) => s.turn [(6, .int .i64 y.2), (8, .int .i64 y.1)] []) (fun y => y.1 ≤ 1 ∧ F = if y.2 = 0 then qadt p i ([x.yes].drop y.1) else y.2) (fun y => 1 - y.1) (0, 1) ?_ ⟨by simp, hI.out⟩ ?_)
    ·repeat' (first | ((with_reducible refine qaah [] hm ?_ ?_ ?_ ?_) <;> (try simp only [zT, puth, Nat.reduceEqDiff, reduceIte, Nat.reduceAdd])) | (with_reducible first | refine za ?_ ?_ | refine zb ?_ ?_ ?_ ?_ | refine zd ?_ ?_ ?_ ?_) | (with_reducible first | exact qaab | exact qaad) | ((with_reducible first | refine zga ?_ | refine zgb ?_); rfl) | ((with_reducible refine zgd ?_); (first | omega | (simp; done))) | (exact Co.refl _) | (exact CoL.refl _) | (exact CoLL.refl _) | fail)
    rintro J hJ ⟨k, e⟩ ⟨h3, h4⟩
    unfold qade
    simp only [zT, puth, Nat.reduceEqDiff, reduceIte, Nat.reduceAdd] at h3 h4 ⊢
    by_cases he : e = 0
    ·subst he
     rw [if_pos rfl] at h4
     have hk : k = 0 ∨ k = 1 := by omega
     rcases hk with rfl | rfl
     ·have h5 : F = if toF p i x.yes = 0 then qadt p i [] else toF p i x.yes := h4
      clear h4
      replace h5 := Lib.hid h5
      repeat' (first | (with_reducible first | refine zA ?_ | refine qaae ?_ | refine zK ?_) | ((with_reducible first | refine qaac ?_ | refine qaa4 (by rw [hP]; exact qacr) ?_); (try rw [hP]); simp -implicitDefEqProofs [*]) | ((with_reducible refine qaaf ?_); (try simp -implicitDefEqProofs [*])) | ((with_reducible refine qaaa rfl (fun h => ?_) (fun h => ?_)) <;> have h' := h <;> (try simp at h') <;> (try subst h')) | ((with_reducible refine qaar (fun h => ?_) (fun h => ?_)) <;> have h' := h <;> (try simp at h') <;> (try subst h') <;> simp -implicitDefEqProofs [*]) | (with_reducible first | refine za ?_ ?_ | refine zb ?_ ?_ ?_ ?_ | refine zd ?_ ?_ ?_ ?_) | (with_reducible first | exact qaab | exact qaad) | ((with_reducible first | refine zga ?_ | refine zgb ?_); rfl) | ((with_reducible first | refine zgd ?_ | refine zge ?_); (first | omega | (simp; done))) | (exact Co.refl _) | (exact CoL.refl _) | (exact CoLL.refl _) | ((refine qaaj hJ (1, ?_) ?_ ?_ ?_; rotate_left 1; (with_reducible refine qaah [] hm ?_ ?_ ?_ ?_) <;> (try simp only [zT, puth, Nat.reduceEqDiff, reduceIte, Nat.reduceAdd]))) | fail)
      all_goals (try dsimp only)
      all_goals (refine ⟨by omega, ?_⟩; rw [h5.out]; clear h5; refine qadu ?_; unfold toF; (repeat' split) <;> first | rfl | (exfalso; simp_all; omega) | (exfalso; simp_all; done))
     ·replace h4 := Lib.hid h4
      repeat' (first | (with_reducible refine zA ?_) | ((with_reducible refine qaac ?_); (try rw [hP]); simp -implicitDefEqProofs [*]) | ((with_reducible refine qaak ?_); (try simp -implicitDefEqProofs [*])) | ((with_reducible refine qaam ?_); (try simp only [qaap, qaag, qaai])) | ((with_reducible refine qaaa rfl (fun h => ?_) (fun h => ?_)) <;> have h' := h <;> (try simp at h') <;> (try subst h')) | (with_reducible refine zM hm ?_) | fail)
      rw [h4.out]; rfl
    ·rw [if_neg he] at h4
     have ke : (e == 0) = false := by simpa using he
     replace h4 := Lib.hid h4
     repeat' (first | (with_reducible refine zA ?_) | ((with_reducible refine qaac ?_); (try rw [hP]); simp -implicitDefEqProofs [*]) | ((with_reducible refine qaak ?_); (try simp -implicitDefEqProofs [*])) | ((with_reducible refine qaam ?_); (try simp only [qaap, qaag, qaai])) | ((with_reducible refine qaaa rfl (fun h => ?_) (fun h => ?_)) <;> have h' := h <;> (try simp at h') <;> (try subst h')) | ((with_reducible refine qaar (fun h => ?_) (fun h => ?_)) <;> have h' := h <;> (try simp at h') <;> (try subst h') <;> simp -implicitDefEqProofs [*]) | (with_reducible refine zM hm ?_) | fail)
     all_goals (rw [h4.out])
 have k1 : (x.kind == 1) = false := by simpa using kn1
 rw [if_neg kn1] at hA
 clear kn1
 by_cases kn2 : x.kind = 2
 ·have k2 : (x.kind == 2) = true := by simpa using kn2
  rw [if_pos kn2] at hA
  clear kn2
  cases kb : (decide (x.n < 0) || decide ((p.acts.length : Int) ≤ x.n)) <;> rw [kb] at hA
  ·obtain ⟨b1, b2⟩ := Bool.or_eq_false_iff.1 kb
   have b3 := of_decide_eq_false b1
   have b4 := of_decide_eq_false b2
   have hlt : x.n.toNat < p.acts.length := by omega
   have : actW p.acts x.n = p.acts[x.n.toNat].w := by unfold actW; rw [List.getElem?_eq_getElem hlt]; rfl
   rw [this] at hA
   generalize hB : p.acts[x.n.toNat] = B at hA
   rw [show decide (0 < (B.w.length : Int)) = decide (0 < B.w.length) from decide_eq_decide.2 (by omega)] at hA
   clear kb this
   cases kw : decide (0 < B.w.length) <;> rw [kw] at hA
   ·have hI : F = if (0 : Int) = 0 then qadt p i ([x.yes].drop 0) else 0 := hA
    clear hA
    replace hI := Lib.hid hI
    repeat' (first | (with_reducible first | refine zA ?_ | refine qaae ?_) | ((with_reducible refine qaac ?_); (try rw [hP]); simp -implicitDefEqProofs [*]) | ((with_reducible refine qaaf ?_); (try simp -implicitDefEqProofs [*])) | ((with_reducible refine qaaa rfl (fun h => ?_) (fun h => ?_)) <;> have h' := h <;> (try simp at h') <;> (try subst h')) | ((with_reducible refine qabq ?_ ?_); (first | omega | (unfold maxLen; omega)); simp -implicitDefEqProofs [*]) | fail)
    refine qaal (qabb (fun s (y : Nat × Int) => s.turn [(6, .int .i64 y.2), (8, .int .i64 y.1)] []) (fun y => y.1 ≤ 1 ∧ F = if y.2 = 0 then qadt p i ([x.yes].drop y.1) else y.2) (fun y => 1 - y.1) (0, 0) ?_ ⟨by simp, hI.out⟩ ?_)
    ·repeat' (first | ((with_reducible refine qaah [] hm ?_ ?_ ?_ ?_) <;> (try simp only [zT, puth, Nat.reduceEqDiff, reduceIte, Nat.reduceAdd])) | (with_reducible first | refine za ?_ ?_ | refine zb ?_ ?_ ?_ ?_ | refine zd ?_ ?_ ?_ ?_) | (with_reducible first | exact qaab | exact qaad) | ((with_reducible first | refine zga ?_ | refine zgb ?_); rfl) | ((with_reducible refine zgd ?_); (first | omega | (simp; done))) | (exact Co.refl _) | (exact CoL.refl _) | (exact CoLL.refl _) | fail)
    rintro J hJ ⟨k, e⟩ ⟨h3, h4⟩
    unfold qade
    simp only [zT, puth, Nat.reduceEqDiff, reduceIte, Nat.reduceAdd] at h3 h4 ⊢
    by_cases he : e = 0
    ·subst he
     rw [if_pos rfl] at h4
     have hk : k = 0 ∨ k = 1 := by omega
     rcases hk with rfl | rfl
     ·have h5 : F = if toF p i x.yes = 0 then qadt p i [] else toF p i x.yes := h4
      clear h4
      replace h5 := Lib.hid h5
      repeat' (first | (with_reducible first | refine zA ?_ | refine qaae ?_ | refine zK ?_) | ((with_reducible first | refine qaac ?_ | refine qaa4 (by rw [hP]; exact qacr) ?_); (try rw [hP]); simp -implicitDefEqProofs [*]) | ((with_reducible refine qaaf ?_); (try simp -implicitDefEqProofs [*])) | ((with_reducible refine qaaa rfl (fun h => ?_) (fun h => ?_)) <;> have h' := h <;> (try simp at h') <;> (try subst h')) | ((with_reducible refine qaar (fun h => ?_) (fun h => ?_)) <;> have h' := h <;> (try simp at h') <;> (try subst h') <;> simp -implicitDefEqProofs [*]) | (with_reducible first | refine za ?_ ?_ | refine zb ?_ ?_ ?_ ?_ | refine zd ?_ ?_ ?_ ?_) | (with_reducible first | exact qaab | exact qaad) | ((with_reducible first | refine zga ?_ | refine zgb ?_); rfl) | ((with_reducible first | refine zgd ?_ | refine zge ?_); (first | omega | (simp; done))) | (exact Co.refl _) | (exact CoL.refl _) | (exact CoLL.refl _) | ((refine qaaj hJ (1, ?_) ?_ ?_ ?_; rotate_left 1; (with_reducible refine qaah [] hm ?_ ?_ ?_ ?_) <;> (try simp only [zT, puth, Nat.reduceEqDiff, reduceIte, Nat.reduceAdd]))) | fail)
      all_goals (try dsimp only)
      all_goals (refine ⟨by omega, ?_⟩; rw [h5.out]; clear h5; refine qadu ?_; unfold toF; (repeat' split) <;> first | rfl | (exfalso; simp_all; omega) | (exfalso; simp_all; done))
     ·replace h4 := Lib.hid h4
      repeat' (first | (with_reducible refine zA ?_) | ((with_reducible refine qaac ?_); (try rw [hP]); simp -implicitDefEqProofs [*]) | ((with_reducible refine qaak ?_); (try simp -implicitDefEqProofs [*])) | ((with_reducible refine qaam ?_); (try simp only [qaap, qaag, qaai])) | ((with_reducible refine qaaa rfl (fun h => ?_) (fun h => ?_)) <;> have h' := h <;> (try simp at h') <;> (try subst h')) | (with_reducible refine zM hm ?_) | fail)
      rw [h4.out]; rfl
    ·rw [if_neg he] at h4
     have ke : (e == 0) = false := by simpa using he
     replace h4 := Lib.hid h4
     repeat' (first | (with_reducible refine zA ?_) | ((with_reducible refine qaac ?_); (try rw [hP]); simp -implicitDefEqProofs [*]) | ((with_reducible refine qaak ?_); (try simp -implicitDefEqProofs [*])) | ((with_reducible refine qaam ?_); (try simp only [qaap, qaag, qaai])) | ((with_reducible refine qaaa rfl (fun h => ?_) (fun h => ?_)) <;> have h' := h <;> (try simp at h') <;> (try subst h')) | ((with_reducible refine qaar (fun h => ?_) (fun h => ?_)) <;> have h' := h <;> (try simp at h') <;> (try subst h') <;> simp -implicitDefEqProofs [*]) | (with_reducible refine zM hm ?_) | fail)
     all_goals (rw [h4.out])
   ·have hI : F = if (2 : Int) = 0 then qadt p i ([x.yes].drop 0) else 2 := hA
    clear hA
    replace hI := Lib.hid hI
    repeat' (first | (with_reducible first | refine zA ?_ | refine qaae ?_) | ((with_reducible refine qaac ?_); (try rw [hP]); simp -implicitDefEqProofs [*]) | ((with_reducible refine qaaa rfl (fun h => ?_) (fun h => ?_)) <;> have h' := h <;> (try simp at h') <;> (try subst h')) | ((with_reducible refine qabq ?_ ?_); (first | omega | (unfold maxLen; omega)); simp -implicitDefEqProofs [*]) | fail)
    refine qaal (qabb (fun s (y : Nat × Int) => s.turn [(6, .int .i64 y.2), (8, .int .i64 y.1)] []) (fun y => y.1 ≤ 1 ∧ F = if y.2 = 0 then qadt p i ([x.yes].drop y.1) else y.2) (fun y => 1 - y.1) (0, 2) ?_ ⟨by simp, hI.out⟩ ?_)
    ·repeat' (first | ((with_reducible refine qaah [] hm ?_ ?_ ?_ ?_) <;> (try simp only [zT, puth, Nat.reduceEqDiff, reduceIte, Nat.reduceAdd])) | (with_reducible first | refine za ?_ ?_ | refine zb ?_ ?_ ?_ ?_ | refine zd ?_ ?_ ?_ ?_) | (with_reducible first | exact qaab | exact qaad) | ((with_reducible first | refine zga ?_ | refine zgb ?_); rfl) | ((with_reducible refine zgd ?_); (first | omega | (simp; done))) | (exact Co.refl _) | (exact CoL.refl _) | (exact CoLL.refl _) | fail)
    rintro J hJ ⟨k, e⟩ ⟨h3, h4⟩
    unfold qade
    simp only [zT, puth, Nat.reduceEqDiff, reduceIte, Nat.reduceAdd] at h3 h4 ⊢
    by_cases he : e = 0
    ·subst he
     rw [if_pos rfl] at h4
     have hk : k = 0 ∨ k = 1 := by omega
     rcases hk with rfl | rfl
     ·have h5 : F = if toF p i x.yes = 0 then qadt p i [] else toF p i x.yes := h4
      clear h4
      replace h5 := Lib.hid h5
      repeat' (first | (with_reducible first | refine zA ?_ | refine qaae ?_ | refine zK ?_) | ((with_reducible first | refine qaac ?_ | refine qaa4 (by rw [hP]; exact qacr) ?_); (try rw [hP]); simp -implicitDefEqProofs [*]) | ((with_reducible refine qaaf ?_); (try simp -implicitDefEqProofs [*])) | ((with_reducible refine qaaa rfl (fun h => ?_) (fun h => ?_)) <;> have h' := h <;> (try simp at h') <;> (try subst h')) | ((with_reducible refine qaar (fun h => ?_) (fun h => ?_)) <;> have h' := h <;> (try simp at h') <;> (try subst h') <;> simp -implicitDefEqProofs [*]) | (with_reducible first | refine za ?_ ?_ | refine zb ?_ ?_ ?_ ?_ | refine zd ?_ ?_ ?_ ?_) | (with_reducible first | exact qaab | exact qaad) | ((with_reducible first | refine zga ?_ | refine zgb ?_); rfl) | ((with_reducible first | refine zgd ?_ | refine zge ?_); (first | omega | (simp; done))) | (exact Co.refl _) | (exact CoL.refl _) | (exact CoLL.refl _) | ((refine qaaj hJ (1, ?_) ?_ ?_ ?_; rotate_left 1; (with_reducible refine qaah [] hm ?_ ?_ ?_ ?_) <;> (try simp only [zT, puth, Nat.reduceEqDiff, reduceIte, Nat.reduceAdd]))) | fail)
      all_goals (try dsimp only)
      all_goals (refine ⟨by omega, ?_⟩; rw [h5.out]; clear h5; refine qadu ?_; unfold toF; (repeat' split) <;> first | rfl | (exfalso; simp_all; omega) | (exfalso; simp_all; done))
     ·replace h4 := Lib.hid h4
      repeat' (first | (with_reducible refine zA ?_) | ((with_reducible refine qaac ?_); (try rw [hP]); simp -implicitDefEqProofs [*]) | ((with_reducible refine qaak ?_); (try simp -implicitDefEqProofs [*])) | ((with_reducible refine qaam ?_); (try simp only [qaap, qaag, qaai])) | ((with_reducible refine qaaa rfl (fun h => ?_) (fun h => ?_)) <;> have h' := h <;> (try simp at h') <;> (try subst h')) | (with_reducible refine zM hm ?_) | fail)
      rw [h4.out]; rfl
    ·rw [if_neg he] at h4
     have ke : (e == 0) = false := by simpa using he
     replace h4 := Lib.hid h4
     repeat' (first | (with_reducible refine zA ?_) | ((with_reducible refine qaac ?_); (try rw [hP]); simp -implicitDefEqProofs [*]) | ((with_reducible refine qaak ?_); (try simp -implicitDefEqProofs [*])) | ((with_reducible refine qaam ?_); (try simp only [qaap, qaag, qaai])) | ((with_reducible refine qaaa rfl (fun h => ?_) (fun h => ?_)) <;> have h' := h <;> (try simp at h') <;> (try subst h')) | ((with_reducible refine qaar (fun h => ?_) (fun h => ?_)) <;> have h' := h <;> (try simp at h') <;> (try subst h') <;> simp -implicitDefEqProofs [*]) | (with_reducible refine zM hm ?_) | fail)
     all_goals (rw [h4.out])
  ·have hI : F = if (1 : Int) = 0 then qadt p i ([x.yes].drop 0) else 1 := hA
   replace kb := Lib.hid kb
   clear hA
   replace hI := Lib.hid hI
   repeat' (first | (with_reducible first | refine zA ?_ | refine qaae ?_) | ((with_reducible refine qaac ?_); (try rw [hP]); simp -implicitDefEqProofs [*]) | ((with_reducible refine qaaf ?_); (try simp -implicitDefEqProofs [*])) | ((with_reducible refine qaaa rfl (fun h => ?_) (fun h => ?_)) <;> have h' := h <;> (try simp at h') <;> (try subst h')) | ((with_reducible refine qaar (fun h => ?_) (fun h => ?_)) <;> have h' := h <;> (try simp at h') <;> (try subst h') <;> simp -implicitDefEqProofs [*]) | fail)
   all_goals (try (exfalso; have q := kb.out; simp only [Bool.or_eq_true, decide_eq_true_eq] at q; omega))
   all_goals
    refine qaal (qabb (fun s (y : Nat × Int) => s.turn [(6, .int .i64 y.2), (8, .int .i64 y.1)] []) (fun y => y.1 ≤ 1 ∧ F = if y.2 = 0 then qadt p i ([x.yes].drop y.1) else y.2) (fun y => 1 - y.1) (0, 1) ?_ ⟨by simp, hI.out⟩ ?_)
    ·repeat' (first | ((with_reducible refine qaah [] hm ?_ ?_ ?_ ?_) <;> (try simp only [zT, puth, Nat.reduceEqDiff, reduceIte, Nat.reduceAdd])) | (with_reducible first | refine za ?_ ?_ | refine zb ?_ ?_ ?_ ?_ | refine zd ?_ ?_ ?_ ?_) | (with_reducible first | exact qaab | exact qaad) | ((with_reducible first | refine zga ?_ | refine zgb ?_); rfl) | ((with_reducible refine zgd ?_); (first | omega | (simp; done))) | (exact Co.refl _) | (exact CoL.refl _) | (exact CoLL.refl _) | fail)
    rintro J hJ ⟨k, e⟩ ⟨h3, h4⟩
    unfold qade
    simp only [zT, puth, Nat.reduceEqDiff, reduceIte, Nat.reduceAdd] at h3 h4 ⊢
    by_cases he : e = 0
    ·subst he
     rw [if_pos rfl] at h4
     have hk : k = 0 ∨ k = 1 := by omega
     rcases hk with rfl | rfl
     ·have h5 : F = if toF p i x.yes = 0 then qadt p i [] else toF p i x.yes := h4
      clear h4
      replace h5 := Lib.hid h5
      repeat' (first | (with_reducible first | refine zA ?_ | refine qaae ?_ | refine zK ?_) | ((with_reducible first | refine qaac ?_ | refine qaa4 (by rw [hP]; exact qacr) ?_); (try rw [hP]); simp -implicitDefEqProofs [*]) | ((with_reducible refine qaaf ?_); (try simp -implicitDefEqProofs [*])) | ((with_reducible refine qaaa rfl (fun h => ?_) (fun h => ?_)) <;> have h' := h <;> (try simp at h') <;> (try subst h')) | ((with_reducible refine qaar (fun h => ?_) (fun h => ?_)) <;> have h' := h <;> (try simp at h') <;> (try subst h') <;> simp -implicitDefEqProofs [*]) | (with_reducible first | refine za ?_ ?_ | refine zb ?_ ?_ ?_ ?_ | refine zd ?_ ?_ ?_ ?_) | (with_reducible first | exact qaab | exact qaad) | ((with_reducible first | refine zga ?_ | refine zgb ?_); rfl) | ((with_reducible first | refine zgd ?_ | refine zge ?_); (first | omega | (simp; done))) | (exact Co.refl _) | (exact CoL.refl _) | (exact CoLL.refl _) | ((refine qaaj hJ (1, ?_) ?_ ?_ ?_; rotate_left 1; (with_reducible refine qaah [] hm ?_ ?_ ?_ ?_) <;> (try simp only [zT, puth, Nat.reduceEqDiff, reduceIte, Nat.reduceAdd]))) | fail)
      all_goals (try dsimp only)
      all_goals (refine ⟨by omega, ?_⟩; rw [h5.out]; clear h5; refine qadu ?_; unfold toF; (repeat' split) <;> first | rfl | (exfalso; simp_all; omega) | (exfalso; simp_all; done))
     ·replace h4 := Lib.hid h4
      repeat' (first | (with_reducible refine zA ?_) | ((with_reducible refine qaac ?_); (try rw [hP]); simp -implicitDefEqProofs [*]) | ((with_reducible refine qaak ?_); (try simp -implicitDefEqProofs [*])) | ((with_reducible refine qaam ?_); (try simp only [qaap, qaag, qaai])) | ((with_reducible refine qaaa rfl (fun h => ?_) (fun h => ?_)) <;> have h' := h <;> (try simp at h') <;> (try subst h')) | (with_reducible refine zM hm ?_) | fail)
      rw [h4.out]; rfl
    ·rw [if_neg he] at h4
     have ke : (e == 0) = false := by simpa using he
     replace h4 := Lib.hid h4
     repeat' (first | (with_reducible refine zA ?_) | ((with_reducible refine qaac ?_); (try rw [hP]); simp -implicitDefEqProofs [*]) | ((with_reducible refine qaak ?_); (try simp -implicitDefEqProofs [*])) | ((with_reducible refine qaam ?_); (try simp only [qaap, qaag, qaai])) | ((with_reducible refine qaaa rfl (fun h => ?_) (fun h => ?_)) <;> have h' := h <;> (try simp at h') <;> (try subst h')) | ((with_reducible refine qaar (fun h => ?_) (fun h => ?_)) <;> have h' := h <;> (try simp at h') <;> (try subst h') <;> simp -implicitDefEqProofs [*]) | (with_reducible refine zM hm ?_) | fail)
     all_goals (rw [h4.out])
 have k2 : (x.kind == 2) = false := by simpa using kn2
 rw [if_neg kn2] at hA
 clear kn2
 by_cases kn3 : x.kind = 3
 ·have k3 : (x.kind == 3) = true := by simpa using kn3
  rw [if_pos kn3] at hA
  have hce : ∀ q, SCalls Try.prog 163 [.agg (qacl p), qab5 x.e, .nilsl] [] q (.int .i64 (qafg p x.e [])) [] := fun q => qag7 (qbig p x.e [] hw q) ⟨Co.refl _, Co.refl _, Co.nilsl _, trivial⟩
  generalize qafg p x.e [] = E at hA hce
  have hI : F = if E = 0 then qadt p i ([x.yes, x.no].drop 0) else E := hA
  clear kn3 hA
  replace hI := Lib.hid hI
  replace hce := Lib.hid hce
  repeat' (first | (with_reducible first | refine zA ?_ | refine qaae ?_) | ((with_reducible refine qaac ?_); (try rw [hP]); simp -implicitDefEqProofs [*]) | ((with_reducible refine qaaa rfl (fun h => ?_) (fun h => ?_)) <;> have h' := h <;> (try simp at h') <;> (try subst h')) | (refine qaay (hce.out _) ?_; simp -implicitDefEqProofs [*]) | fail)
  refine qaal (qabb (fun s (y : Nat × Int) => s.turn [(6, .int .i64 y.2), (8, .int .i64 y.1)] []) (fun y => y.1 ≤ 2 ∧ F = if y.2 = 0 then qadt p i ([x.yes, x.no].drop y.1) else y.2) (fun y => 2 - y.1) (0, E) ?_ ⟨by simp, hI.out⟩ ?_)
  ·repeat' (first | ((with_reducible refine qaah [] hm ?_ ?_ ?_ ?_) <;> (try simp only [zT, puth, Nat.reduceEqDiff, reduceIte, Nat.reduceAdd])) | (with_reducible first | refine za ?_ ?_ | refine zb ?_ ?_ ?_ ?_ | refine zd ?_ ?_ ?_ ?_) | (with_reducible first | exact qaab | exact qaad) | ((with_reducible first | refine zga ?_ | refine zgb ?_); rfl) | ((with_reducible refine zgd ?_); (first | omega | (simp; done))) | (exact Co.refl _) | (exact CoL.refl _) | (exact CoLL.refl _) | fail)
  rintro J hJ ⟨k, e⟩ ⟨h3, h4⟩
  unfold qade
  simp only [zT, puth, Nat.reduceEqDiff, reduceIte, Nat.reduceAdd] at h3 h4 ⊢
  by_cases he : e = 0
  ·subst he
   rw [if_pos rfl] at h4
   have hk : k = 0 ∨ k = 1 ∨ k = 2 := by omega
   rcases hk with rfl | rfl | rfl
   ·have h5 : F = if toF p i x.yes = 0 then qadt p i [x.no] else toF p i x.yes := h4
    clear h4
    replace h5 := Lib.hid h5
    repeat' (first | (with_reducible first | refine zA ?_ | refine qaae ?_ | refine zK ?_) | ((with_reducible first | refine qaac ?_ | refine qaa4 (by rw [hP]; exact qacr) ?_); (try rw [hP]); simp -implicitDefEqProofs [*]) | ((with_reducible refine qaaf ?_); (try simp -implicitDefEqProofs [*])) | ((with_reducible refine qaaa rfl (fun h => ?_) (fun h => ?_)) <;> have h' := h <;> (try simp at h') <;> (try subst h')) | ((with_reducible refine qaar (fun h => ?_) (fun h => ?_)) <;> have h' := h <;> (try simp at h') <;> (try subst h') <;> simp -implicitDefEqProofs [*]) | (with_reducible first | refine za ?_ ?_ | refine zb ?_ ?_ ?_ ?_ | refine zd ?_ ?_ ?_ ?_) | (with_reducible first | exact qaab | exact qaad) | ((with_reducible first | refine zga ?_ | refine zgb ?_); rfl) | ((with_reducible first | refine zgd ?_ | refine zge ?_); (first | omega | (simp; done))) | (exact Co.refl _) | (exact CoL.refl _) | (exact CoLL.refl _) | ((refine qaaj hJ (1, ?_) ?_ ?_ ?_; rotate_left 1; (with_reducible refine qaah [] hm ?_ ?_ ?_ ?_) <;> (try simp only [zT, puth, Nat.reduceEqDiff, reduceIte, Nat.reduceAdd]))) | fail)
    all_goals (try dsimp only)
    all_goals (refine ⟨by omega, ?_⟩; rw [h5.out]; clear h5; refine qadu ?_; unfold toF; (repeat' split) <;> first | rfl | (exfalso; simp_all; omega) | (exfalso; simp_all; done))
   ·have h5 : F = if toF p i x.no = 0 then qadt p i [] else toF p i x.no := h4
    clear h4
    replace h5 := Lib.hid h5
    repeat' (first | (with_reducible first | refine zA ?_ | refine qaae ?_ | refine zK ?_) | ((with_reducible first | refine qaac ?_ | refine qaa4 (by rw [hP]; exact qacr) ?_); (try rw [hP]); simp -implicitDefEqProofs [*]) | ((with_reducible refine qaaf ?_); (try simp -implicitDefEqProofs [*])) | ((with_reducible refine qaaa rfl (fun h => ?_) (fun h => ?_)) <;> have h' := h <;> (try simp at h') <;> (try subst h')) | ((with_reducible refine qaar (fun h => ?_) (fun h => ?_)) <;> have h' := h <;> (try simp at h') <;> (try subst h') <;> simp -implicitDefEqProofs [*]) | (with_reducible first | refine za ?_ ?_ | refine zb ?_ ?_ ?_ ?_ | refine zd ?_ ?_ ?_ ?_) | (with_reducible first | exact qaab | exact qaad) | ((with_reducible first | refine zga ?_ | refine zgb ?_); rfl) | ((with_reducible first | refine zgd ?_ | refine zge ?_); (first | omega | (simp; done))) | (exact Co.refl _) | (exact CoL.refl _) | (exact CoLL.refl _) | ((refine qaaj hJ (2, ?_) ?_ ?_ ?_; rotate_left 1; (with_reducible refine qaah [] hm ?_ ?_ ?_ ?_) <;> (try simp only [zT, puth, Nat.reduceEqDiff, reduceIte, Nat.reduceAdd]))) | fail)
    all_goals (try dsimp only)
    all_goals (refine ⟨by omega, ?_⟩; rw [h5.out]; clear h5; refine qadu ?_; unfold toF; (repeat' split) <;> first | rfl | (exfalso; simp_all; omega) | (exfalso; simp_all; done))
   ·replace h4 := Lib.hid h4
    repeat' (first | (with_reducible refine zA ?_) | ((with_reducible refine qaac ?_); (try rw [hP]); simp -implicitDefEqProofs [*]) | ((with_reducible refine qaak ?_); (try simp -implicitDefEqProofs [*])) | ((with_reducible refine qaam ?_); (try simp only [qaap, qaag, qaai])) | ((with_reducible refine qaaa rfl (fun h => ?_) (fun h => ?_)) <;> have h' := h <;> (try simp at h') <;> (try subst h')) | (with_reducible refine zM hm ?_) | fail)
    rw [h4.out]; rfl
  ·rw [if_neg he] at h4
   have ke : (e == 0) = false := by simpa using he
   replace h4 := Lib.hid h4
   repeat' (first | (with_reducible refine zA ?_) | ((with_reducible refine qaac ?_); (try rw [hP]); simp -implicitDefEqProofs [*]) | ((with_reducible refine qaak ?_); (try simp -implicitDefEqProofs [*])) | ((with_reducible refine qaam ?_); (try simp only [qaap, qaag, qaai])) | ((with_reducible refine qaaa rfl (fun h => ?_) (fun h => ?_)) <;> have h' := h <;> (try simp at h') <;> (try subst h')) | ((with_reducible refine qaar (fun h => ?_) (fun h => ?_)) <;> have h' := h <;> (try simp at h') <;> (try subst h') <;> simp -implicitDefEqProofs [*]) | (with_reducible refine zM hm ?_) | fail)
   all_goals (rw [h4.out])
 have k3 : (x.kind == 3) = false := by simpa using kn3
 rw [if_neg kn3] at hA
 clear kn3
 by_cases kn4 : x.kind = 4
 ·have k4 : (x.kind == 4) = true := by simpa using kn4
  rw [if_pos kn4] at hA
  have hch := fun q => qar2 p x.n q
  generalize qacy p x.n = H at hA hch
  clear kn4
  cases kH : H <;> rw [kH] at hA hch
  ·have hI : F = if (1 : Int) = 0 then qadt p i ([x.yes, x.no].drop 0) else 1 := hA
   clear hA
   replace hI := Lib.hid hI
   repeat' (first | (with_reducible first | refine zA ?_ | refine qaae ?_) | ((with_reducible refine qaac ?_); (try rw [hP]); simp -implicitDefEqProofs [*]) | ((with_reducible refine qaaa rfl (fun h => ?_) (fun h => ?_)) <;> have h' := h <;> (try simp at h') <;> (try subst h')) | (refine qaay (hch _) ?_; simp -implicitDefEqProofs [*]) | fail)
   refine qaal (qabb (fun s (y : Nat × Int) => s.turn [(6, .int .i64 y.2), (8, .int .i64 y.1)] []) (fun y => y.1 ≤ 2 ∧ F = if y.2 = 0 then qadt p i ([x.yes, x.no].drop y.1) else y.2) (fun y => 2 - y.1) (0, 1) ?_ ⟨by simp, hI.out⟩ ?_)
   ·repeat' (first | ((with_reducible refine qaah [] hm ?_ ?_ ?_ ?_) <;> (try simp only [zT, puth, Nat.reduceEqDiff, reduceIte, Nat.reduceAdd])) | (with_reducible first | refine za ?_ ?_ | refine zb ?_ ?_ ?_ ?_ | refine zd ?_ ?_ ?_ ?_) | (with_reducible first | exact qaab | exact qaad) | ((with_reducible first | refine zga ?_ | refine zgb ?_); rfl) | ((with_reducible refine zgd ?_); (first | omega | (simp; done))) | (exact Co.refl _) | (exact CoL.refl _) | (exact CoLL.refl _) | fail)
   rintro J hJ ⟨k, e⟩ ⟨h3, h4⟩
   unfold qade
   simp only [zT, puth, Nat.reduceEqDiff, reduceIte, Nat.reduceAdd] at h3 h4 ⊢
   by_cases he : e = 0
   ·subst he
    rw [if_pos rfl] at h4
    have hk : k = 0 ∨ k = 1 ∨ k = 2 := by omega
    rcases hk with rfl | rfl | rfl
    ·have h5 : F = if toF p i x.yes = 0 then qadt p i [x.no] else toF p i x.yes := h4
     clear h4
     replace h5 := Lib.hid h5
     repeat' (first | (with_reducible first | refine zA ?_ | refine qaae ?_ | refine zK ?_) | ((with_reducible first | refine qaac ?_ | refine qaa4 (by rw [hP]; exact qacr) ?_); (try rw [hP]); simp -implicitDefEqProofs [*]) | ((with_reducible refine qaaf ?_); (try simp -implicitDefEqProofs [*])) | ((with_reducible refine qaaa rfl (fun h => ?_) (fun h => ?_)) <;> have h' := h <;> (try simp at h') <;> (try subst h')) | ((with_reducible refine qaar (fun h => ?_) (fun h => ?_)) <;> have h' := h <;> (try simp at h') <;> (try subst h') <;> simp -implicitDefEqProofs [*]) | (with_reducible first | refine za ?_ ?_ | refine zb ?_ ?_ ?_ ?_ | refine zd ?_ ?_ ?_ ?_) | (with_reducible first | exact qaab | exact qaad) | ((with_reducible first | refine zga ?_ | refine zgb ?_); rfl) | ((with_reducible first | refine zgd ?_ | refine zge ?_); (first | omega | (simp; done))) | (exact Co.refl _) | (exact CoL.refl _) | (exact CoLL.refl _) | ((refine qaaj hJ (1, ?_) ?_ ?_ ?_; rotate_left 1; (with_reducible refine qaah [] hm ?_ ?_ ?_ ?_) <;> (try simp only [zT, puth, Nat.reduceEqDiff, reduceIte, Nat.reduceAdd]))) | fail)
     all_goals (try dsimp only)
     all_goals (refine ⟨by omega, ?_⟩; rw [h5.out]; clear h5; refine qadu ?_; unfold toF; (repeat' split) <;> first | rfl | (exfalso; simp_all; omega) | (exfalso; simp_all; done))
    ·have h5 : F = if toF p i x.no = 0 then qadt p i [] else toF p i x.no := h4
     clear h4
     replace h5 := Lib.hid h5
     repeat' (first | (with_reducible first | refine zA ?_ | refine qaae ?_ | refine zK ?_) | ((with_reducible first | refine qaac ?_ | refine qaa4 (by rw [hP]; exact qacr) ?_); (try rw [hP]); simp -implicitDefEqProofs [*]) | ((with_reducible refine qaaf ?_); (try simp -implicitDefEqProofs [*])) | ((with_reducible refine qaaa rfl (fun h => ?_) (fun h => ?_)) <;> have h' := h <;> (try simp at h') <;> (try subst h')) | ((with_reducible refine qaar (fun h => ?_) (fun h => ?_)) <;> have h' := h <;> (try simp at h') <;> (try subst h') <;> simp -implicitDefEqProofs [*]) | (with_reducible first | refine za ?_ ?_ | refine zb ?_ ?_ ?_ ?_ | refine zd ?_ ?_ ?_ ?_) | (with_reducible first | exact qaab | exact qaad) | ((with_reducible first | refine zga ?_ | refine zgb ?_); rfl) | ((with_reducible first | refine zgd ?_ | refine zge ?_); (first | omega | (simp; done))) | (exact Co.refl _) | (exact CoL.refl _) | (exact CoLL.refl _) | ((refine qaaj hJ (2, ?_) ?_ ?_ ?_; rotate_left 1; (with_reducible refine qaah [] hm ?_ ?_ ?_ ?_) <;> (try simp only [zT, puth, Nat.reduceEqDiff, reduceIte, Nat.reduceAdd]))) | fail)
     all_goals (try dsimp only)
     all_goals (refine ⟨by omega, ?_⟩; rw [h5.out]; clear h5; refine qadu ?_; unfold toF; (repeat' split) <;> first | rfl | (exfalso; simp_all; omega) | (exfalso; simp_all; done))
    ·replace h4 := Lib.hid h4
     repeat' (first | (with_reducible refine zA ?_) | ((with_reducible refine qaac ?_); (try rw [hP]); simp -implicitDefEqProofs [*]) | ((with_reducible refine qaak ?_); (try simp -implicitDefEqProofs [*])) | ((with_reducible refine qaam ?_); (try simp only [qaap, qaag, qaai])) | ((with_reducible refine qaaa rfl (fun h => ?_) (fun h => ?_)) <;> have h' := h <;> (try simp at h') <;> (try subst h')) | (with_reducible refine zM hm ?_) | fail)
     rw [h4.out]; rfl
   ·rw [if_neg he] at h4
    have ke : (e == 0) = false := by simpa using he
    replace h4 := Lib.hid h4
    repeat' (first | (with_reducible refine zA ?_) | ((with_reducible refine qaac ?_); (try rw [hP]); simp -implicitDefEqProofs [*]) | ((with_reducible refine qaak ?_); (try simp -implicitDefEqProofs [*])) | ((with_reducible refine qaam ?_); (try simp only [qaap, qaag, qaai])) | ((with_reducible refine qaaa rfl (fun h => ?_) (fun h => ?_)) <;> have h' := h <;> (try simp at h') <;> (try subst h')) | ((with_reducible refine qaar (fun h => ?_) (fun h => ?_)) <;> have h' := h <;> (try simp at h') <;> (try subst h') <;> simp -implicitDefEqProofs [*]) | (with_reducible refine zM hm ?_) | fail)
    all_goals (rw [h4.out])
  ·have hI : F = if (0 : Int) = 0 then qadt p i ([x.yes, x.no].drop 0) else 0 := hA
   clear hA
   replace hI := Lib.hid hI
   repeat' (first | (with_reducible first | refine zA ?_ | refine qaae ?_) | ((with_reducible refine qaac ?_); (try rw [hP]); simp -implicitDefEqProofs [*]) | ((with_reducible refine qaaf ?_); (try simp -implicitDefEqProofs [*])) | ((with_reducible refine qaaa rfl (fun h => ?_) (fun h => ?_)) <;> have h' := h <;> (try simp at h') <;> (try subst h')) | (refine qaay (hch _) ?_; simp -implicitDefEqProofs [*]) | fail)
   refine qaal (qabb (fun s (y : Nat × Int) => s.turn [(6, .int .i64 y.2), (8, .int .i64 y.1)] []) (fun y => y.1 ≤ 2 ∧ F = if y.2 = 0 then qadt p i ([x.yes, x.no].drop y.1) else y.2) (fun y => 2 - y.1) (0, 0) ?_ ⟨by simp, hI.out⟩ ?_)
   ·repeat' (first | ((with_reducible refine qaah [] hm ?_ ?_ ?_ ?_) <;> (try simp only [zT, puth, Nat.reduceEqDiff, reduceIte, Nat.reduceAdd])) | (with_reducible first | refine za ?_ ?_ | refine zb ?_ ?_ ?_ ?_ | refine zd ?_ ?_ ?_ ?_) | (with_reducible first | exact qaab | exact qaad) | ((with_reducible first | refine zga ?_ | refine zgb ?_); rfl) | ((with_reducible refine zgd ?_); (first | omega | (simp; done))) | (exact Co.refl _) | (exact CoL.refl _) | (exact CoLL.refl _) | fail)
   rintro J hJ ⟨k, e⟩ ⟨h3, h4⟩
   unfold qade
   simp only [zT, puth, Nat.reduceEqDiff, reduceIte, Nat.reduceAdd] at h3 h4 ⊢
   by_cases he : e = 0
   ·subst he
    rw [if_pos rfl] at h4
    have hk : k = 0 ∨ k = 1 ∨ k = 2 := by omega
    rcases hk with rfl | rfl | rfl
    ·have h5 : F = if toF p i x.yes = 0 then qadt p i [x.no] else toF p i x.yes := h4
     clear h4
     replace h5 := Lib.hid h5
     repeat' (first | (with_reducible first | refine zA ?_ | refine qaae ?_ | refine zK ?_) | ((with_reducible first | refine qaac ?_ | refine qaa4 (by rw [hP]; exact qacr) ?_); (try rw [hP]); simp -implicitDefEqProofs [*]) | ((with_reducible refine qaaf ?_); (try simp -implicitDefEqProofs [*])) | ((with_reducible refine qaaa rfl (fun h => ?_) (fun h => ?_)) <;> have h' := h <;> (try simp at h') <;> (try subst h')) | ((with_reducible refine qaar (fun h => ?_) (fun h => ?_)) <;> have h' := h <;> (try simp at h') <;> (try subst h') <;> simp -implicitDefEqProofs [*]) | (with_reducible first | refine za ?_ ?_ | refine zb ?_ ?_ ?_ ?_ | refine zd ?_ ?_ ?_ ?_) | (with_reducible first | exact qaab | exact qaad) | ((with_reducible first | refine zga ?_ | refine zgb ?_); rfl) | ((with_reducible first | refine zgd ?_ | refine zge ?_); (first | omega | (simp; done))) | (exact Co.refl _) | (exact CoL.refl _) | (exact CoLL.refl _) | ((refine qaaj hJ (1, ?_) ?_ ?_ ?_; rotate_left 1; (with_reducible refine qaah [] hm ?_ ?_ ?_ ?_) <;> (try simp only [zT, puth, Nat.reduceEqDiff, reduceIte, Nat.reduceAdd]))) | fail)
     all_goals (try dsimp only)
     all_goals (refine ⟨by omega, ?_⟩; rw [h5.out]; clear h5; refine qadu ?_; unfold toF; (repeat' split) <;> first | rfl | (exfalso; simp_all; omega) | (exfalso; simp_all; done))
    ·have h5 : F = if toF p i x.no = 0 then qadt p i [] else toF p i x.no := h4
     clear h4
     replace h5 := Lib.hid h5
     repeat' (first | (with_reducible first | refine zA ?_ | refine qaae ?_ | refine zK ?_) | ((with_reducible first | refine qaac ?_ | refine qaa4 (by rw [hP]; exact qacr) ?_); (try rw [hP]); simp -implicitDefEqProofs [*]) | ((with_reducible refine qaaf ?_); (try simp -implicitDefEqProofs [*])) | ((with_reducible refine qaaa rfl (fun h => ?_) (fun h => ?_)) <;> have h' := h <;> (try simp at h') <;> (try subst h')) | ((with_reducible refine qaar (fun h => ?_) (fun h => ?_)) <;> have h' := h <;> (try simp at h') <;> (try subst h') <;> simp -implicitDefEqProofs [*]) | (with_reducible first | refine za ?_ ?_ | refine zb ?_ ?_ ?_ ?_ | refine zd ?_ ?_ ?_ ?_) | (with_reducible first | exact qaab | exact qaad) | ((with_reducible first | refine zga ?_ | refine zgb ?_); rfl) | ((with_reducible first | refine zgd ?_ | refine zge ?_); (first | omega | (simp; done))) | (exact Co.refl _) | (exact CoL.refl _) | (exact CoLL.refl _) | ((refine qaaj hJ (2, ?_) ?_ ?_ ?_; rotate_left 1; (with_reducible refine qaah [] hm ?_ ?_ ?_ ?_) <;> (try simp only [zT, puth, Nat.reduceEqDiff, reduceIte, Nat.reduceAdd]))) | fail)
     all_goals (try dsimp only)
     all_goals (refine ⟨by omega, ?_⟩; rw [h5.out]; clear h5; refine qadu ?_; unfold toF; (repeat' split) <;> first | rfl | (exfalso; simp_all; omega) | (exfalso; simp_all; done))
    ·replace h4 := Lib.hid h4
     repeat' (first | (with_reducible refine zA ?_) | ((with_reducible refine qaac ?_); (try rw [hP]); simp -implicitDefEqProofs [*]) | ((with_reducible refine qaak ?_); (try simp -implicitDefEqProofs [*])) | ((with_reducible refine qaam ?_); (try simp only [qaap, qaag, qaai])) | ((with_reducible refine qaaa rfl (fun h => ?_) (fun h => ?_)) <;> have h' := h <;> (try simp at h') <;> (try subst h')) | (with_reducible refine zM hm ?_) | fail)
     rw [h4.out]; rfl
   ·rw [if_neg he] at h4
    have ke : (e == 0) = false := by simpa using he
    replace h4 := Lib.hid h4
    repeat' (first | (with_reducible refine zA ?_) | ((with_reducible refine qaac ?_); (try rw [hP]); simp -implicitDefEqProofs [*]) | ((with_reducible refine qaak ?_); (try simp -implicitDefEqProofs [*])) | ((with_reducible refine qaam ?_); (try simp only [qaap, qaag, qaai])) | ((with_reducible refine qaaa rfl (fun h => ?_) (fun h => ?_)) <;> have h' := h <;> (try simp at h') <;> (try subst h')) | ((with_reducible refine qaar (fun h => ?_) (fun h => ?_)) <;> have h' := h <;> (try simp at h') <;> (try subst h') <;> simp -implicitDefEqProofs [*]) | (with_reducible refine zM hm ?_) | fail)
    all_goals (rw [h4.out])
 have k4 : (x.kind == 4) = false := by simpa using kn4
 rw [if_neg kn4] at hA
 have hI : F = if (5 : Int) = 0 then qadt p i ([x.yes].drop 0) else 5 := hA
 clear kn4 hA
 replace hI := Lib.hid hI
 repeat' (first | (with_reducible first | refine zA ?_ | refine qaae ?_) | ((with_reducible refine qaac ?_); (try rw [hP]); simp -implicitDefEqProofs [*]) | ((with_reducible refine qaaa rfl (fun h => ?_) (fun h => ?_)) <;> have h' := h <;> (try simp at h') <;> (try subst h')) | fail)
 refine qaal (qabb (fun s (y : Nat × Int) => s.turn [(6, .int .i64 y.2), (8, .int .i64 y.1)] []) (fun y => y.1 ≤ 1 ∧ F = if y.2 = 0 then qadt p i ([x.yes].drop y.1) else y.2) (fun y => 1 - y.1) (0, 5) ?_ ⟨by simp, hI.out⟩ ?_)
 ·repeat' (first | ((with_reducible refine qaah [] hm ?_ ?_ ?_ ?_) <;> (try simp only [zT, puth, Nat.reduceEqDiff, reduceIte, Nat.reduceAdd])) | (with_reducible first | refine za ?_ ?_ | refine zb ?_ ?_ ?_ ?_ | refine zd ?_ ?_ ?_ ?_) | (with_reducible first | exact qaab | exact qaad) | ((with_reducible first | refine zga ?_ | refine zgb ?_); rfl) | ((with_reducible refine zgd ?_); (first | omega | (simp; done))) | (exact Co.refl _) | (exact CoL.refl _) | (exact CoLL.refl _) | fail)
 rintro J hJ ⟨k, e⟩ ⟨h3, h4⟩
 unfold qade
 simp only [zT, puth, Nat.reduceEqDiff, reduceIte, Nat.reduceAdd] at h3 h4 ⊢
 by_cases he : e = 0
 ·subst he
  rw [if_pos rfl] at h4
  have hk : k = 0 ∨ k = 1 := by omega
  rcases hk with rfl | rfl
  ·have h5 : F = if toF p i x.yes = 0 then qadt p i [] else toF p i x.yes := h4
   clear h4
   replace h5 := Lib.hid h5
   repeat' (first | (with_reducible first | refine zA ?_ | refine qaae ?_ | refine zK ?_) | ((with_reducible first | refine qaac ?_ | refine qaa4 (by rw [hP]; exact qacr) ?_); (try rw [hP]); simp -implicitDefEqProofs [*]) | ((with_reducible refine qaaf ?_); (try simp -implicitDefEqProofs [*])) | ((with_reducible refine qaaa rfl (fun h => ?_) (fun h => ?_)) <;> have h' := h <;> (try simp at h') <;> (try subst h')) | ((with_reducible refine qaar (fun h => ?_) (fun h => ?_)) <;> have h' := h <;> (try simp at h') <;> (try subst h') <;> simp -implicitDefEqProofs [*]) | (with_reducible first | refine za ?_ ?_ | refine zb ?_ ?_ ?_ ?_ | refine zd ?_ ?_ ?_ ?_) | (with_reducible first | exact qaab | exact qaad) | ((with_reducible first | refine zga ?_ | refine zgb ?_); rfl) | ((with_reducible first | refine zgd ?_ | refine zge ?_); (first | omega | (simp; done))) | (exact Co.refl _) | (exact CoL.refl _) | (exact CoLL.refl _) | ((refine qaaj hJ (1, ?_) ?_ ?_ ?_; rotate_left 1; (with_reducible refine qaah [] hm ?_ ?_ ?_ ?_) <;> (try simp only [zT, puth, Nat.reduceEqDiff, reduceIte, Nat.reduceAdd]))) | fail)
   all_goals (try dsimp only)
   all_goals (refine ⟨by omega, ?_⟩; rw [h5.out]; clear h5; refine qadu ?_; unfold toF; (repeat' split) <;> first | rfl | (exfalso; simp_all; omega) | (exfalso; simp_all; done))
  ·replace h4 := Lib.hid h4
   repeat' (first | (with_reducible refine zA ?_) | ((with_reducible refine qaac ?_); (try rw [hP]); simp -implicitDefEqProofs [*]) | ((with_reducible refine qaak ?_); (try simp -implicitDefEqProofs [*])) | ((with_reducible refine qaam ?_); (try simp only [qaap, qaag, qaai])) | ((with_reducible refine qaaa rfl (fun h => ?_) (fun h => ?_)) <;> have h' := h <;> (try simp at h') <;> (try subst h')) | (with_reducible refine zM hm ?_) | fail)
   rw [h4.out]; rfl
 ·rw [if_neg he] at h4
  have ke : (e == 0) = false := by simpa using he
  replace h4 := Lib.hid h4
  repeat' (first | (with_reducible refine zA ?_) | ((with_reducible refine qaac ?_); (try rw [hP]); simp -implicitDefEqProofs [*]) | ((with_reducible refine qaak ?_); (try simp -implicitDefEqProofs [*])) | ((with_reducible refine qaam ?_); (try simp only [qaap, qaag, qaai])) | ((with_reducible refine qaaa rfl (fun h => ?_) (fun h => ?_)) <;> have h' := h <;> (try simp at h') <;> (try subst h')) | ((with_reducible refine qaar (fun h => ?_) (fun h => ?_)) <;> have h' := h <;> (try simp at h') <;> (try subst h') <;> simp -implicitDefEqProofs [*]) | (with_reducible refine zM hm ?_) | fail)
  all_goals (rw [h4.out])
end Go.Proofs.Yticeaegpkpjjeaa
namespace Go.Proofs.Yticeaegpkpjjeaa
set_option linter.all false
open Go.RowKit
attribute [local simp] qabg qabf qaas qaa3 qaat qaa2 qabd qabe qaan qabo SOp.run SX.ev putd puts argS upds SOp.touch SSt.keep SSt.skip gets geth puth delh idOf SV.cells? setL qac6 qac7 sbin eq0 eq1 eqL qac1 qab1 qab2 qaap qabh qaag qabi qabp qaai qaao FrzOk qaa7 qaa0 qaa5 qaa6 qaau qaaz qabl qaa1 qaaw qaa8 qaav frzS frzH frz frz1 frz0 SlotsM ObjsM ObjM rn ren ren1 ren0 qabt qab6 qab9 qabs qabm qaca qab8 CoL qaa9 qacb dels adds idsH qabx
attribute [local simp] qadr refc qael qaed qab7 opc actc tabc qady qacl nums
theorem qanc (c : Bool) (at_ : Int) (R S : Int × Int) : orF (0, 0) (orF (orF (qar8 c at_) R) S) = if c = true then (2, at_) else orF (0, 0) (orF R S) := by
 cases c
 ·rw [show qar8 false at_ = (0, 0) from rfl, qadq, ← qadq (0, 0) (0, 0)]; rfl
 ·rfl
theorem qbi2 {α : Type} (f : Nat → α → Int) (b : Int) {l : List α} {i : Nat} (hi : i < l.length) {S : Int × Int} : orF (0, 0) (orF (rowF f b i (l.drop i)) S) = if f i l[i] ≠ 0 then (f i l[i], b + i) else orF (0, 0) (orF (rowF f b (i + 1) (l.drop (i + 1))) S) := by
 rw [qadf _ _ hi]
 by_cases h : f i l[i] ≠ 0
 ·rw [if_pos h, if_pos h, qaf6 (f := (f i l[i], b + i)) h]; unfold orF; simp [h]
 ·rw [if_neg h, if_neg h]
theorem qblv (S : Int × Int) : orF (0, 0) (orF (0, 0) S) = orF (0, 0) S := by rw [← qadq]; rfl
theorem z_last (p : PlanD) : orF (0, 0) (qagg p) = orF (0, 0) (orF (qagg p) (0, 0)) := by rw [qach (qagg p) rfl]
set_option maxHeartbeats 16000000 in
theorem rform_s (p : PlanD) (hs : SmallP p) (q : Nat) : SCalls Try.prog 102 [.agg (qacl p)] [] q (.agg [.int .i64 (qafi p).1, .int .i64 (qafi p).2]) [] := by
 refine qabj ?_ (fun _ => rfl) (fun _ => rfl) rfl q
 refine qaax (N := 229) Try.func102 rfl rfl (by kernel_rfl) qaoe (by simp) (by repeat' (first | exact trivial | refine And.intro ?_ ?_ | rfl | decide | exact PureR.ren _)) (by repeat' (first | exact trivial | refine And.intro ?_ ?_ | rfl | decide | exact PureR.ren _)) ?_
 rintro X hP hN hm
 unfold c_rform
 have hF : qafi p = orF (0, 0) (orF (qagj p) (orF (qa4t p) (orF (qadj p) (orF (qah6 p) (orF (qag3 p) (orF (qadm p) (qagg p))))))) := (qaik p).symm
 generalize qafi p = F at hF
 replace hF := Lib.hid hF
 have hl1 := hs.heads
 have hl2 := hs.metas
 have hl3 := hs.states
 have hl4 := hs.acts
 have hl5 := hs.tabs
 have hl6 := hs.nodes
 have hl7 := hs.outs
 have hS : F = if decide (6 < (p.heads.length : Int)) = true then (2, -1) else orF (0, 0) (orF (rowF (fun _ h => qaif h.w) 1000 0 (p.heads.drop 0)) (orF (qa4t p) (orF (qadj p) (orF (qah6 p) (orF (qag3 p) (orF (qadm p) (qagg p))))))) := by
  rw [hF.out]; unfold qagj; rw [qanc, show decide (6 < p.heads.length) = decide (6 < (p.heads.length : Int)) from decide_eq_decide.2 (by omega)]; rfl
 replace hF := Lib.hid hS
 clear hS
 cases km : decide (6 < (p.heads.length : Int))
 rotate_left
 ·have hz := hF.out
  rw [km, if_pos rfl] at hz
  replace hz := Lib.hid hz
  repeat' (first | (with_reducible refine zA ?_) | ((with_reducible refine qaac ?_); (try rw [hP]); simp -implicitDefEqProofs [*]) | ((with_reducible refine qaam ?_); (try simp only [qaap, qaag, qaai])) | ((with_reducible refine qaaa rfl (fun h => ?_) (fun h => ?_)) <;> have h' := h <;> (try simp at h') <;> (try subst h')) | (refine qaay (rF_s _ _ _) ?_; simp -implicitDefEqProofs [*]) | (refine qag0 hm rfl rfl (by rw [hP]; exact qabn) (by rw [hP]; exact qabc) rfl (CoL.refl _) (by rw [hz.out]) (fun σ => rfl)) | fail)
 have hz := hF.out
 rw [km, if_neg Bool.false_ne_true] at hz
 replace hF := Lib.hid hz
 clear hz
 repeat' (first | (with_reducible refine zA ?_) | ((with_reducible refine qaac ?_); (try rw [hP]); simp -implicitDefEqProofs [*]) | ((with_reducible refine qaaf ?_); (try simp -implicitDefEqProofs [*])) | ((with_reducible refine qaaa rfl (fun h => ?_) (fun h => ?_)) <;> have h' := h <;> (try simp at h') <;> (try subst h')) | fail)
 clear km
 refine qaal (qabb (fun s (i : Nat) => s.turn [(3, .int .i64 i)] []) (fun i => i ≤ p.heads.length ∧ F = orF (0, 0) (orF (rowF (fun _ h => qaif h.w) 1000 i (p.heads.drop i)) (orF (qa4t p) (orF (qadj p) (orF (qah6 p) (orF (qag3 p) (orF (qadm p) (qagg p)))))))) (fun i => p.heads.length - i) 0 ?_ ⟨by simp, hF.out⟩ ?_)
 ·repeat' (first | ((with_reducible refine qaah [] hm ?_ ?_ ?_ ?_) <;> (try simp only [zT, puth, Nat.reduceEqDiff, reduceIte, Nat.reduceAdd])) | (with_reducible first | refine za ?_ ?_ | refine zb ?_ ?_ ?_ ?_) | (with_reducible first | exact qaab | exact qaad) | ((with_reducible first | refine zga ?_ | refine zgb ?_); rfl) | ((with_reducible refine zgd ?_); (first | omega | (simp; done))) | (exact Co.refl _) | (exact CoL.refl _) | fail)
 rintro J hJ i ⟨h1, h2⟩
 unfold qal5
 simp only [zT, puth, Nat.reduceEqDiff, reduceIte, Nat.reduceAdd] at h1 h2 ⊢
 clear hF
 rcases Nat.lt_or_ge i p.heads.length with hi | hi
 ·rw [qbi2 _ _ hi] at h2
  have hxm : p.heads[i] ∈ p.heads := List.getElem_mem hi
  have wi : IntKind.i64.wrap ((i : Int) + 1) = (i : Int) + 1 := qaaq (by omega) (by omega)
  have wa : IntKind.i64.wrap (1000 + (i : Int)) = 1000 + (i : Int) := qaaq (by omega) (by omega)
  have hct := fun q => qbie p.heads[i].w q
  unfold qam8 at hct
  generalize hxx : p.heads[i] = x at h2 hct hxm
  obtain ⟨E, hE⟩ : ∃ E, qaif x.w = E := ⟨_, rfl⟩
  rw [hE] at h2 hct
  clear hE
  replace h2 := Lib.hid h2
  replace hct := Lib.hid hct
  cases kE : (E != 0)
  ·have kE' : ¬ E ≠ 0 := by simpa using kE
   replace kE' := Lib.hid kE'
   repeat' (first | (with_reducible first | refine zA ?_ | refine qaae ?_) | ((with_reducible refine qaac ?_); (try rw [hP]); simp -implicitDefEqProofs [*]) | ((with_reducible refine qaaf ?_); (try simp -implicitDefEqProofs [*])) | ((with_reducible refine qaaa rfl (fun h => ?_) (fun h => ?_)) <;> have h' := h <;> (try simp at h') <;> (try subst h')) | (refine qaay (hct.out _) ?_; simp -implicitDefEqProofs [*]) | (with_reducible first | refine za ?_ ?_ | refine zb ?_ ?_ ?_ ?_) | (with_reducible first | exact qaab | exact qaad) | ((with_reducible first | refine zga ?_ | refine zgb ?_); rfl) | ((with_reducible first | refine zgd ?_ | refine zge ?_); (first | omega | (simp; done))) | (exact Co.refl _) | (exact CoL.refl _) | ((refine qaaj hJ (i + 1) ?_ ?_ ?_; (with_reducible refine qaah [] hm ?_ ?_ ?_ ?_) <;> (try simp only [zT, puth, Nat.reduceEqDiff, reduceIte, Nat.reduceAdd]))) | fail)
   exact ⟨by omega, by rw [h2.out, if_neg kE'.out]⟩
  ·have kE' : E ≠ 0 := by simpa using kE
   have hz := h2.out
   rw [if_pos kE'] at hz
   replace kE' := Lib.hid kE'
   replace hz := Lib.hid hz
   repeat' (first | (with_reducible first | refine zA ?_ | refine qaae ?_) | ((with_reducible refine qaac ?_); (try rw [hP]); simp -implicitDefEqProofs [*]) | ((with_reducible refine qaaf ?_); (try simp -implicitDefEqProofs [*])) | ((with_reducible refine qaam ?_); (try simp only [qaap, qaag, qaai])) | ((with_reducible refine qaaa rfl (fun h => ?_) (fun h => ?_)) <;> have h' := h <;> (try simp at h') <;> (try subst h')) | ((first | refine qaay (hct.out _) ?_ | refine qaay (rF_s _ _ _) ?_); simp -implicitDefEqProofs [*]) | (refine qag0 hm rfl rfl (by rw [hP]; exact qabn) (by rw [hP]; exact qabc) rfl (CoL.refl _) (by rw [hz.out]) (fun σ => rfl)) | fail)
 ·obtain rfl : i = p.heads.length := by omega
  have hF : F = orF (0, 0) (orF (qa4t p) (orF (qadj p) (orF (qah6 p) (orF (qag3 p) (orF (qadm p) (qagg p)))))) := by rw [h2, List.drop_length]; exact qblv _
  clear h2 hi h1 hJ
  replace hF := Lib.hid hF
  have hS : F = if decide (4 < (p.meta_.length : Int)) = true then (2, -2) else orF (0, 0) (orF (rowF (fun _ w => if wOut w then 6 else 0) 2000 0 (p.meta_.drop 0)) (orF (qadj p) (orF (qah6 p) (orF (qag3 p) (orF (qadm p) (qagg p)))))) := by
   rw [hF.out]; unfold qa4t; rw [qanc, show decide (4 < p.meta_.length) = decide (4 < (p.meta_.length : Int)) from decide_eq_decide.2 (by omega)]; rfl
  replace hF := Lib.hid hS
  clear hS
  cases km : decide (4 < (p.meta_.length : Int))
  rotate_left
  ·have hz := hF.out
   rw [km, if_pos rfl] at hz
   replace hz := Lib.hid hz
   repeat' (first | (with_reducible refine zA ?_) | ((with_reducible refine qaac ?_); (try rw [hP]); simp -implicitDefEqProofs [*]) | ((with_reducible refine qaak ?_); (try simp -implicitDefEqProofs [*])) | ((with_reducible refine qaam ?_); (try simp only [qaap, qaag, qaai])) | ((with_reducible refine qaaa rfl (fun h => ?_) (fun h => ?_)) <;> have h' := h <;> (try simp at h') <;> (try subst h')) | (refine qaay (rF_s _ _ _) ?_; simp -implicitDefEqProofs [*]) | (refine qag0 hm rfl rfl (by rw [hP]; exact qabn) (by rw [hP]; exact qabc) rfl (CoL.refl _) (by rw [hz.out]) (fun σ => rfl)) | fail)
  have hz := hF.out
  rw [km, if_neg Bool.false_ne_true] at hz
  replace hF := Lib.hid hz
  clear hz
  repeat' (first | (with_reducible refine zA ?_) | ((with_reducible refine qaac ?_); (try rw [hP]); simp -implicitDefEqProofs [*]) | ((with_reducible first | refine qaaf ?_ | refine qaak ?_); (try simp -implicitDefEqProofs [*])) | ((with_reducible refine qaaa rfl (fun h => ?_) (fun h => ?_)) <;> have h' := h <;> (try simp at h') <;> (try subst h')) | fail)
  clear km
  refine qaal (qabb (fun s (i : Nat) => s.turn [(6, .int .i64 i)] []) (fun i => i ≤ p.meta_.length ∧ F = orF (0, 0) (orF (rowF (fun _ w => if wOut w then 6 else 0) 2000 i (p.meta_.drop i)) (orF (qadj p) (orF (qah6 p) (orF (qag3 p) (orF (qadm p) (qagg p))))))) (fun i => p.meta_.length - i) 0 ?_ ⟨by simp, hF.out⟩ ?_)
  ·repeat' (first | ((with_reducible refine qaah [] hm ?_ ?_ ?_ ?_) <;> (try simp only [zT, puth, Nat.reduceEqDiff, reduceIte, Nat.reduceAdd])) | (with_reducible first | refine za ?_ ?_ | refine zb ?_ ?_ ?_ ?_) | (with_reducible first | exact qaab | exact qaad) | ((with_reducible first | refine zga ?_ | refine zgb ?_); rfl) | ((with_reducible refine zgd ?_); (first | omega | (simp; done))) | (exact Co.refl _) | (exact CoL.refl _) | fail)
  rintro J hJ i ⟨h1, h2⟩
  unfold qal4
  simp only [zT, puth, Nat.reduceEqDiff, reduceIte, Nat.reduceAdd] at h1 h2 ⊢
  clear hF
  rcases Nat.lt_or_ge i p.meta_.length with hi | hi
  ·rw [qbi2 _ _ hi] at h2
   have hxm : p.meta_[i] ∈ p.meta_ := List.getElem_mem hi
   have wi : IntKind.i64.wrap ((i : Int) + 1) = (i : Int) + 1 := qaaq (by omega) (by omega)
   have wa : IntKind.i64.wrap (2000 + (i : Int)) = 2000 + (i : Int) := qaaq (by omega) (by omega)
   generalize hxx : p.meta_[i] = x at h2 hxm
   replace h2 := Lib.hid h2
   cases hv : wOut x
   ·have hv1 : decide (x < 1) = false ∧ decide (48 < x) = false := by simpa [wOut] using hv
    obtain ⟨v1, v2⟩ := hv1
    repeat' (first | (with_reducible first | refine zA ?_ | refine qaae ?_) | ((with_reducible refine qaac ?_); (try rw [hP]); simp -implicitDefEqProofs [*]) | ((with_reducible refine qaaf ?_); (try simp -implicitDefEqProofs [*])) | ((with_reducible refine qaaa rfl (fun h => ?_) (fun h => ?_)) <;> have h' := h <;> (try simp at h') <;> (try subst h')) | (with_reducible first | refine za ?_ ?_ | refine zb ?_ ?_ ?_ ?_) | (with_reducible first | exact qaab | exact qaad) | ((with_reducible first | refine zga ?_ | refine zgb ?_); rfl) | ((with_reducible first | refine zgd ?_ | refine zge ?_); (first | omega | (simp; done))) | (exact Co.refl _) | (exact CoL.refl _) | ((refine qaaj hJ (i + 1) ?_ ?_ ?_; (with_reducible refine qaah [] hm ?_ ?_ ?_ ?_) <;> (try simp only [zT, puth, Nat.reduceEqDiff, reduceIte, Nat.reduceAdd]))) | fail)
    exact ⟨by omega, by rw [h2.out, hv]; rfl⟩
   ·have hz := h2.out
    rw [hv] at hz
    replace hz : F = (6, 2000 + (i : Int)) := hz
    replace hz := Lib.hid hz
    replace hv := Lib.hid hv
    repeat' (first | (with_reducible first | refine zA ?_ | refine qaae ?_) | ((with_reducible refine qaac ?_); (try rw [hP]); simp -implicitDefEqProofs [*]) | ((with_reducible refine qaaf ?_); (try simp -implicitDefEqProofs [*])) | ((with_reducible refine qaam ?_); (try simp only [qaap, qaag, qaai])) | ((with_reducible refine qaaa rfl (fun h => ?_) (fun h => ?_)) <;> have h' := h <;> (try simp at h') <;> (try subst h')) | ((with_reducible refine qaar (fun h => ?_) (fun h => ?_)) <;> have h' := h <;> (try simp at h') <;> (try subst h') <;> simp -implicitDefEqProofs [*]) | (refine qaay (rF_s _ _ _) ?_; simp -implicitDefEqProofs [*]) | (with_reducible first | refine za ?_ ?_ | refine zb ?_ ?_ ?_ ?_) | (with_reducible first | exact qaab | exact qaad) | ((with_reducible first | refine zga ?_ | refine zgb ?_); rfl) | ((with_reducible first | refine zgd ?_ | refine zge ?_); (first | omega | (simp; done))) | (exact Co.refl _) | (exact CoL.refl _) | ((refine qaaj hJ (i + 1) ?_ ?_ ?_; (with_reducible refine qaah [] hm ?_ ?_ ?_ ?_) <;> (try simp only [zT, puth, Nat.reduceEqDiff, reduceIte, Nat.reduceAdd]))) | (refine qag0 hm rfl rfl (by rw [hP]; exact qabn) (by rw [hP]; exact qabc) rfl (CoL.refl _) (by rw [hz.out]) (fun σ => rfl)) | fail)
    all_goals (exfalso; have q := hv.out; simp only [wOut, Bool.or_eq_true, decide_eq_true_eq] at q; omega)
  ·obtain rfl : i = p.meta_.length := by omega
   have hF : F = orF (0, 0) (orF (qadj p) (orF (qah6 p) (orF (qag3 p) (orF (qadm p) (qagg p))))) := by rw [h2, List.drop_length]; exact qblv _
   clear h2 hi h1 hJ
   replace hF := Lib.hid hF
   have hS : F = if (decide ((p.states.length : Int) < 1) || decide (8 < (p.states.length : Int))) = true then (2, -3) else orF (0, 0) (orF (rowF (fun i s => qaff p i s) 3000 0 (p.states.drop 0)) (orF (qah6 p) (orF (qag3 p) (orF (qadm p) (qagg p))))) := by
    rw [hF.out]; unfold qadj; rw [qanc, show decide (p.states.length < 1) = decide ((p.states.length : Int) < 1) from decide_eq_decide.2 (by omega), show decide (8 < p.states.length) = decide (8 < (p.states.length : Int)) from decide_eq_decide.2 (by omega)]; rfl
   replace hF := Lib.hid hS
   clear hS
   cases km1 : decide ((p.states.length : Int) < 1)
   rotate_left
   ·have hz := hF.out
    rw [km1, Bool.true_or, if_pos rfl] at hz
    replace hz := Lib.hid hz
    repeat' (first | (with_reducible refine zA ?_) | ((with_reducible refine qaac ?_); (try rw [hP]); simp -implicitDefEqProofs [*]) | ((with_reducible refine qaak ?_); (try simp -implicitDefEqProofs [*])) | ((with_reducible refine qaam ?_); (try simp only [qaap, qaag, qaai])) | ((with_reducible refine qaaa rfl (fun h => ?_) (fun h => ?_)) <;> have h' := h <;> (try simp at h') <;> (try subst h')) | (refine qaay (rF_s _ _ _) ?_; simp -implicitDefEqProofs [*]) | (refine qag0 hm rfl rfl (by rw [hP]; exact qabn) (by rw [hP]; exact qabc) rfl (CoL.refl _) (by rw [hz.out]) (fun σ => rfl)) | fail)
   cases km : decide (8 < (p.states.length : Int))
   rotate_left
   ·have hz := hF.out
    rw [km1, km, Bool.or_true, if_pos rfl] at hz
    replace hz := Lib.hid hz
    repeat' (first | (with_reducible refine zA ?_) | ((with_reducible refine qaac ?_); (try rw [hP]); simp -implicitDefEqProofs [*]) | ((with_reducible refine qaak ?_); (try simp -implicitDefEqProofs [*])) | ((with_reducible refine qaam ?_); (try simp only [qaap, qaag, qaai])) | ((with_reducible refine qaaa rfl (fun h => ?_) (fun h => ?_)) <;> have h' := h <;> (try simp at h') <;> (try subst h')) | (refine qaay (rF_s _ _ _) ?_; simp -implicitDefEqProofs [*]) | (refine qag0 hm rfl rfl (by rw [hP]; exact qabn) (by rw [hP]; exact qabc) rfl (CoL.refl _) (by rw [hz.out]) (fun σ => rfl)) | fail)
   have hz := hF.out
   rw [km1, km, Bool.or_false, if_neg Bool.false_ne_true] at hz
   replace hF := Lib.hid hz
   clear hz
   repeat' (first | (with_reducible refine zA ?_) | ((with_reducible refine qaac ?_); (try rw [hP]); simp -implicitDefEqProofs [*]) | ((with_reducible first | refine qaaf ?_ | refine qaak ?_); (try simp -implicitDefEqProofs [*])) | ((with_reducible refine qaaa rfl (fun h => ?_) (fun h => ?_)) <;> have h' := h <;> (try simp at h') <;> (try subst h')) | fail)
   clear km km1
   refine qaal (qabb (fun s (i : Nat) => s.turn [(7, .int .i64 i)] []) (fun i => i ≤ p.states.length ∧ F = orF (0, 0) (orF (rowF (fun i s => qaff p i s) 3000 i (p.states.drop i)) (orF (qah6 p) (orF (qag3 p) (orF (qadm p) (qagg p)))))) (fun i => p.states.length - i) 0 ?_ ⟨by simp, hF.out⟩ ?_)
   ·repeat' (first | ((with_reducible refine qaah [] hm ?_ ?_ ?_ ?_) <;> (try simp only [zT, puth, Nat.reduceEqDiff, reduceIte, Nat.reduceAdd])) | (with_reducible first | refine za ?_ ?_ | refine zb ?_ ?_ ?_ ?_) | (with_reducible first | exact qaab | exact qaad) | ((with_reducible first | refine zga ?_ | refine zgb ?_); rfl) | ((with_reducible refine zgd ?_); (first | omega | (simp; done))) | (exact Co.refl _) | (exact CoL.refl _) | fail)
   rintro J hJ i ⟨h1, h2⟩
   unfold qal3
   simp only [zT, puth, Nat.reduceEqDiff, reduceIte, Nat.reduceAdd] at h1 h2 ⊢
   clear hF
   rcases Nat.lt_or_ge i p.states.length with hi | hi
   ·rw [qbi2 _ _ hi] at h2
    have hxm : p.states[i] ∈ p.states := List.getElem_mem hi
    have wi : IntKind.i64.wrap ((i : Int) + 1) = (i : Int) + 1 := qaaq (by omega) (by omega)
    have wa : IntKind.i64.wrap (3000 + (i : Int)) = 3000 + (i : Int) := qaaq (by omega) (by omega)
    have hct := fun q => qbjl p i hi (by omega) (by have := hs.cases_ _ hxm; omega) q
    generalize hxx : p.states[i] = x at h2 hct hxm
    generalize qaff p i x = E at h2 hct
    replace h2 := Lib.hid h2
    replace hct := Lib.hid hct
    cases kE : (E != 0)
    ·have kE' : ¬ E ≠ 0 := by simpa using kE
     replace kE' := Lib.hid kE'
     repeat' (first | (with_reducible first | refine zA ?_ | refine qaae ?_) | ((with_reducible refine qaac ?_); (try rw [hP]); simp -implicitDefEqProofs [*]) | ((with_reducible refine qaaf ?_); (try simp -implicitDefEqProofs [*])) | ((with_reducible refine qaaa rfl (fun h => ?_) (fun h => ?_)) <;> have h' := h <;> (try simp at h') <;> (try subst h')) | (refine qaay (hct.out _) ?_; simp -implicitDefEqProofs [*]) | (with_reducible first | refine za ?_ ?_ | refine zb ?_ ?_ ?_ ?_) | (with_reducible first | exact qaab | exact qaad) | ((with_reducible first | refine zga ?_ | refine zgb ?_); rfl) | ((with_reducible first | refine zgd ?_ | refine zge ?_); (first | omega | (simp; done))) | (exact Co.refl _) | (exact CoL.refl _) | ((refine qaaj hJ (i + 1) ?_ ?_ ?_; (with_reducible refine qaah [] hm ?_ ?_ ?_ ?_) <;> (try simp only [zT, puth, Nat.reduceEqDiff, reduceIte, Nat.reduceAdd]))) | fail)
     exact ⟨by omega, by rw [h2.out, if_neg kE'.out]⟩
    ·have kE' : E ≠ 0 := by simpa using kE
     have hz := h2.out
     rw [if_pos kE'] at hz
     replace kE' := Lib.hid kE'
     replace hz := Lib.hid hz
     repeat' (first | (with_reducible first | refine zA ?_ | refine qaae ?_) | ((with_reducible refine qaac ?_); (try rw [hP]); simp -implicitDefEqProofs [*]) | ((with_reducible refine qaaf ?_); (try simp -implicitDefEqProofs [*])) | ((with_reducible refine qaam ?_); (try simp only [qaap, qaag, qaai])) | ((with_reducible refine qaaa rfl (fun h => ?_) (fun h => ?_)) <;> have h' := h <;> (try simp at h') <;> (try subst h')) | ((first | refine qaay (hct.out _) ?_ | refine qaay (rF_s _ _ _) ?_); simp -implicitDefEqProofs [*]) | (refine qag0 hm rfl rfl (by rw [hP]; exact qabn) (by rw [hP]; exact qabc) rfl (CoL.refl _) (by rw [hz.out]) (fun σ => rfl)) | fail)
   ·obtain rfl : i = p.states.length := by omega
    have hF : F = orF (0, 0) (orF (qah6 p) (orF (qag3 p) (orF (qadm p) (qagg p)))) := by rw [h2, List.drop_length]; exact qblv _
    clear h2 hi h1 hJ
    replace hF := Lib.hid hF
    have hS : F = if decide (8 < (p.acts.length : Int)) = true then (2, -4) else orF (0, 0) (orF (rowF (fun _ a => actF p a) 4000 0 (p.acts.drop 0)) (orF (qag3 p) (orF (qadm p) (qagg p)))) := by
     rw [hF.out]; unfold qah6; rw [qanc, show decide (8 < p.acts.length) = decide (8 < (p.acts.length : Int)) from decide_eq_decide.2 (by omega)]; rfl
    replace hF := Lib.hid hS
    clear hS
    cases km : decide (8 < (p.acts.length : Int))
    rotate_left
    ·have hz := hF.out
     rw [km, if_pos rfl] at hz
     replace hz := Lib.hid hz
     repeat' (first | (with_reducible refine zA ?_) | ((with_reducible refine qaac ?_); (try rw [hP]); simp -implicitDefEqProofs [*]) | ((with_reducible refine qaak ?_); (try simp -implicitDefEqProofs [*])) | ((with_reducible refine qaam ?_); (try simp only [qaap, qaag, qaai])) | ((with_reducible refine qaaa rfl (fun h => ?_) (fun h => ?_)) <;> have h' := h <;> (try simp at h') <;> (try subst h')) | (refine qaay (rF_s _ _ _) ?_; simp -implicitDefEqProofs [*]) | (refine qag0 hm rfl rfl (by rw [hP]; exact qabn) (by rw [hP]; exact qabc) rfl (CoL.refl _) (by rw [hz.out]) (fun σ => rfl)) | fail)
    have hz := hF.out
    rw [km, if_neg Bool.false_ne_true] at hz
    replace hF := Lib.hid hz
    clear hz
    repeat' (first | (with_reducible refine zA ?_) | ((with_reducible refine qaac ?_); (try rw [hP]); simp -implicitDefEqProofs [*]) | ((with_reducible first | refine qaaf ?_ | refine qaak ?_); (try simp -implicitDefEqProofs [*])) | ((with_reducible refine qaaa rfl (fun h => ?_) (fun h => ?_)) <;> have h' := h <;> (try simp at h') <;> (try subst h')) | fail)
    clear km
    refine qaal (qabb (fun s (i : Nat) => s.turn [(9, .int .i64 i)] []) (fun i => i ≤ p.acts.length ∧ F = orF (0, 0) (orF (rowF (fun _ a => actF p a) 4000 i (p.acts.drop i)) (orF (qag3 p) (orF (qadm p) (qagg p))))) (fun i => p.acts.length - i) 0 ?_ ⟨by simp, hF.out⟩ ?_)
    ·repeat' (first | ((with_reducible refine qaah [] hm ?_ ?_ ?_ ?_) <;> (try simp only [zT, puth, Nat.reduceEqDiff, reduceIte, Nat.reduceAdd])) | (with_reducible first | refine za ?_ ?_ | refine zb ?_ ?_ ?_ ?_) | (with_reducible first | exact qaab | exact qaad) | ((with_reducible first | refine zga ?_ | refine zgb ?_); rfl) | ((with_reducible refine zgd ?_); (first | omega | (simp; done))) | (exact Co.refl _) | (exact CoL.refl _) | fail)
    rintro J hJ i ⟨h1, h2⟩
    unfold qal2
    simp only [zT, puth, Nat.reduceEqDiff, reduceIte, Nat.reduceAdd] at h1 h2 ⊢
    clear hF
    rcases Nat.lt_or_ge i p.acts.length with hi | hi
    ·rw [qbi2 _ _ hi] at h2
     have hxm : p.acts[i] ∈ p.acts := List.getElem_mem hi
     have wi : IntKind.i64.wrap ((i : Int) + 1) = (i : Int) + 1 := qaaq (by omega) (by omega)
     have wa : IntKind.i64.wrap (4000 + (i : Int)) = 4000 + (i : Int) := qaaq (by omega) (by omega)
     have hct := fun q => ract_s p p.acts[i] (by have := hs.actW _ hxm; omega) (by have := hs.ops _ hxm; omega) (fun o ho => by have := hs.tree _ hxm o ho; omega) q
     generalize hxx : p.acts[i] = x at h2 hct hxm
     generalize actF p x = E at h2 hct
     replace h2 := Lib.hid h2
     replace hct := Lib.hid hct
     cases kE : (E != 0)
     ·have kE' : ¬ E ≠ 0 := by simpa using kE
      replace kE' := Lib.hid kE'
      repeat' (first | (with_reducible first | refine zA ?_ | refine qaae ?_ | refine zK ?_) | ((with_reducible first | refine qaac ?_ | refine qaa4 (by rw [hP]; exact qacr) ?_); (try rw [hP]); simp -implicitDefEqProofs [*]) | ((with_reducible refine qaaf ?_); (try simp -implicitDefEqProofs [*])) | ((with_reducible refine qaaa rfl (fun h => ?_) (fun h => ?_)) <;> have h' := h <;> (try simp at h') <;> (try subst h')) | (refine qaay (hct.out _) ?_; simp -implicitDefEqProofs [*]) | (with_reducible first | refine za ?_ ?_ | refine zb ?_ ?_ ?_ ?_) | (with_reducible first | exact qaab | exact qaad) | ((with_reducible first | refine zga ?_ | refine zgb ?_); rfl) | ((with_reducible first | refine zgd ?_ | refine zge ?_); (first | omega | (simp; done))) | (exact Co.refl _) | (exact CoL.refl _) | ((refine qaaj hJ (i + 1) ?_ ?_ ?_; (with_reducible refine qaah [] hm ?_ ?_ ?_ ?_) <;> (try simp only [zT, puth, Nat.reduceEqDiff, reduceIte, Nat.reduceAdd]))) | fail)
      exact ⟨by omega, by rw [h2.out, if_neg kE'.out]⟩
     ·have kE' : E ≠ 0 := by simpa using kE
      have hz := h2.out
      rw [if_pos kE'] at hz
      replace kE' := Lib.hid kE'
      replace hz := Lib.hid hz
      repeat' (first | (with_reducible first | refine zA ?_ | refine qaae ?_ | refine zK ?_) | ((with_reducible first | refine qaac ?_ | refine qaa4 (by rw [hP]; exact qacr) ?_); (try rw [hP]); simp -implicitDefEqProofs [*]) | ((with_reducible refine qaaf ?_); (try simp -implicitDefEqProofs [*])) | ((with_reducible refine qaam ?_); (try simp only [qaap, qaag, qaai])) | ((with_reducible refine qaaa rfl (fun h => ?_) (fun h => ?_)) <;> have h' := h <;> (try simp at h') <;> (try subst h')) | ((first | refine qaay (hct.out _) ?_ | refine qaay (rF_s _ _ _) ?_); simp -implicitDefEqProofs [*]) | (refine qag0 hm rfl rfl (by rw [hP]; exact qabn) (by rw [hP]; exact qabc) rfl (CoL.refl _) (by rw [hz.out]) (fun σ => rfl)) | fail)
    ·obtain rfl : i = p.acts.length := by omega
     have hF : F = orF (0, 0) (orF (qag3 p) (orF (qadm p) (qagg p))) := by rw [h2, List.drop_length]; exact qblv _
     clear h2 hi h1 hJ
     replace hF := Lib.hid hF
     have hS : F = if decide (5 < (p.tabs.length : Int)) = true then (2, -5) else orF (0, 0) (orF (rowF (fun _ t => tabF p t) 5000 0 (p.tabs.drop 0)) (orF (qadm p) (qagg p))) := by
      rw [hF.out]; unfold qag3; rw [qanc, show decide (5 < p.tabs.length) = decide (5 < (p.tabs.length : Int)) from decide_eq_decide.2 (by omega)]; rfl
     replace hF := Lib.hid hS
     clear hS
     cases km : decide (5 < (p.tabs.length : Int))
     rotate_left
     ·have hz := hF.out
      rw [km, if_pos rfl] at hz
      replace hz := Lib.hid hz
      repeat' (first | (with_reducible refine zA ?_) | ((with_reducible refine qaac ?_); (try rw [hP]); simp -implicitDefEqProofs [*]) | ((with_reducible refine qaak ?_); (try simp -implicitDefEqProofs [*])) | ((with_reducible refine qaam ?_); (try simp only [qaap, qaag, qaai])) | ((with_reducible refine qaaa rfl (fun h => ?_) (fun h => ?_)) <;> have h' := h <;> (try simp at h') <;> (try subst h')) | (refine qaay (rF_s _ _ _) ?_; simp -implicitDefEqProofs [*]) | (refine qag0 hm rfl rfl (by rw [hP]; exact qabn) (by rw [hP]; exact qabc) rfl (CoL.refl _) (by rw [hz.out]) (fun σ => rfl)) | fail)
     have hz := hF.out
     rw [km, if_neg Bool.false_ne_true] at hz
     replace hF := Lib.hid hz
     clear hz
     repeat' (first | (with_reducible refine zA ?_) | ((with_reducible refine qaac ?_); (try rw [hP]); simp -implicitDefEqProofs [*]) | ((with_reducible first | refine qaaf ?_ | refine qaak ?_); (try simp -implicitDefEqProofs [*])) | ((with_reducible refine qaaa rfl (fun h => ?_) (fun h => ?_)) <;> have h' := h <;> (try simp at h') <;> (try subst h')) | fail)
     clear km
     refine qaal (qabb (fun s (i : Nat) => s.turn [(11, .int .i64 i)] []) (fun i => i ≤ p.tabs.length ∧ F = orF (0, 0) (orF (rowF (fun _ t => tabF p t) 5000 i (p.tabs.drop i)) (orF (qadm p) (qagg p)))) (fun i => p.tabs.length - i) 0 ?_ ⟨by simp, hF.out⟩ ?_)
     ·repeat' (first | ((with_reducible refine qaah [] hm ?_ ?_ ?_ ?_) <;> (try simp only [zT, puth, Nat.reduceEqDiff, reduceIte, Nat.reduceAdd])) | (with_reducible first | refine za ?_ ?_ | refine zb ?_ ?_ ?_ ?_) | (with_reducible first | exact qaab | exact qaad) | ((with_reducible first | refine zga ?_ | refine zgb ?_); rfl) | ((with_reducible refine zgd ?_); (first | omega | (simp; done))) | (exact Co.refl _) | (exact CoL.refl _) | fail)
     rintro J hJ i ⟨h1, h2⟩
     unfold qal1
     simp only [zT, puth, Nat.reduceEqDiff, reduceIte, Nat.reduceAdd] at h1 h2 ⊢
     clear hF
     rcases Nat.lt_or_ge i p.tabs.length with hi | hi
     ·rw [qbi2 _ _ hi] at h2
      have hxm : p.tabs[i] ∈ p.tabs := List.getElem_mem hi
      have wi : IntKind.i64.wrap ((i : Int) + 1) = (i : Int) + 1 := qaaq (by omega) (by omega)
      have wa : IntKind.i64.wrap (5000 + (i : Int)) = 5000 + (i : Int) := qaaq (by omega) (by omega)
      have hkw := hs.keys _ hxm
      generalize hxx : p.tabs[i] = x at h2 hxm hkw
      have hlw : (qab4 p x).length ≤ 1000000 := by unfold qab4; rw [List.length_map]; omega
      have hc1 := fun q => qbjk x (qab4 p x) p.acts (by omega) (by omega) hlw (by omega) q
      have hc2 := fun q => rin_s (qab4 p x) 0 hlw q
      have hc3 := fun q => qbfg p x (by omega) q
      have hT : tabF p x = if decide (3 < (x.keys.length : Int)) = true then 2 else if (qab4 p x).contains 0 = true then 1 else qadk x (qab4 p x) p.acts := by
       unfold tabF; simp only [decide_eq_true_eq]; congr 1; exact propext (by omega)
      rw [hT] at h2
      clear hT
      generalize qadk x (qab4 p x) p.acts = T at h2 hc1
      generalize (qab4 p x).contains 0 = C at h2 hc2
      generalize qab4 p x = W at hc1 hc2 hc3
      replace h2 := Lib.hid h2
      replace hc1 := Lib.hid hc1
      replace hc3 := Lib.hid hc3
      cases k3 : decide (3 < (x.keys.length : Int))
      rotate_left
      ·have hz : F = (2, 5000 + (i : Int)) := by have := h2.out; rw [k3] at this; exact this
       replace hz := Lib.hid hz
       repeat' (first | (with_reducible first | refine zA ?_ | refine qaae ?_) | ((with_reducible refine qaac ?_); (try rw [hP]); simp -implicitDefEqProofs [*]) | ((with_reducible refine qaaf ?_); (try simp -implicitDefEqProofs [*])) | ((with_reducible refine qaam ?_); (try simp only [qaap, qaag, qaai])) | ((with_reducible refine qaaa rfl (fun h => ?_) (fun h => ?_)) <;> have h' := h <;> (try simp at h') <;> (try subst h')) | (refine qaay (rF_s _ _ _) ?_; simp -implicitDefEqProofs [*]) | (refine qag0 hm rfl rfl (by rw [hP]; exact qabn) (by rw [hP]; exact qabc) rfl (CoL.refl _) (by rw [hz.out]) (fun σ => rfl)) | fail)
      cases kC : C <;> rw [kC] at hc2
      rotate_left
      ·have hz : F = (1, 5000 + (i : Int)) := by have := h2.out; rw [k3, kC] at this; exact this
       replace hz := Lib.hid hz
       repeat' (first | (with_reducible first | refine zA ?_ | refine qaae ?_) | ((with_reducible refine qaac ?_); (try rw [hP]); simp -implicitDefEqProofs [*]) | ((with_reducible refine qaaf ?_); (try simp -implicitDefEqProofs [*])) | ((with_reducible refine qaam ?_); (try simp only [qaap, qaag, qaai])) | ((with_reducible refine qaaa rfl (fun h => ?_) (fun h => ?_)) <;> have h' := h <;> (try simp at h') <;> (try subst h')) | ((first | refine qaay (hc3.out _) ?_ | refine qaay (hc2 _) ?_ | refine qaay (rF_s _ _ _) ?_); simp -implicitDefEqProofs [*]) | (refine qag0 hm rfl rfl (by rw [hP]; exact qabn) (by rw [hP]; exact qabc) rfl (CoL.refl _) (by rw [hz.out]) (fun σ => rfl)) | fail)
      cases kT : (T != 0)
      ·have kT' : T = 0 := by simpa using kT
       replace kT' := Lib.hid kT'
       repeat' (first | (with_reducible first | refine zA ?_ | refine qaae ?_) | ((with_reducible refine qaac ?_); (try rw [hP]); simp -implicitDefEqProofs [*]) | ((with_reducible refine qaaf ?_); (try simp -implicitDefEqProofs [*])) | ((with_reducible refine qaaa rfl (fun h => ?_) (fun h => ?_)) <;> have h' := h <;> (try simp at h') <;> (try subst h')) | ((first | refine qaay (hc3.out _) ?_ | refine qaay (hc2 _) ?_ | refine qaay (hc1.out _) ?_); simp -implicitDefEqProofs [*]) | (with_reducible first | refine za ?_ ?_ | refine zb ?_ ?_ ?_ ?_) | (with_reducible first | exact qaab | exact qaad) | ((with_reducible first | refine zga ?_ | refine zgb ?_); rfl) | ((with_reducible first | refine zgd ?_ | refine zge ?_); (first | omega | (simp; done))) | (exact Co.refl _) | (exact CoL.refl _) | ((refine qaaj hJ (i + 1) ?_ ?_ ?_; (with_reducible refine qaah [] hm ?_ ?_ ?_ ?_) <;> (try simp only [zT, puth, Nat.reduceEqDiff, reduceIte, Nat.reduceAdd]))) | fail)
       exact ⟨by omega, by have := h2.out; rw [k3, kC, kT'.out] at this; exact this⟩
      ·have kT' : T ≠ 0 := by simpa using kT
       have hz : F = (T, 5000 + (i : Int)) := by have := h2.out; rw [k3, kC] at this; rw [this]; exact if_pos kT'
       replace kT' := Lib.hid kT'
       replace hz := Lib.hid hz
       repeat' (first | (with_reducible first | refine zA ?_ | refine qaae ?_) | ((with_reducible refine qaac ?_); (try rw [hP]); simp -implicitDefEqProofs [*]) | ((with_reducible refine qaaf ?_); (try simp -implicitDefEqProofs [*])) | ((with_reducible refine qaam ?_); (try simp only [qaap, qaag, qaai])) | ((with_reducible refine qaaa rfl (fun h => ?_) (fun h => ?_)) <;> have h' := h <;> (try simp at h') <;> (try subst h')) | ((first | refine qaay (hc3.out _) ?_ | refine qaay (hc2 _) ?_ | refine qaay (hc1.out _) ?_ | refine qaay (rF_s _ _ _) ?_); simp -implicitDefEqProofs [*]) | (refine qag0 hm rfl rfl (by rw [hP]; exact qabn) (by rw [hP]; exact qabc) rfl (CoL.refl _) (by rw [hz.out]) (fun σ => rfl)) | fail)
     ·obtain rfl : i = p.tabs.length := by omega
      have hF : F = orF (0, 0) (orF (qadm p) (qagg p)) := by rw [h2, List.drop_length]; exact qblv _
      clear h2 hi h1 hJ
      replace hF := Lib.hid hF
      have hS : F = if decide (10 < (p.nodes.length : Int)) = true then (2, -6) else orF (0, 0) (orF (rowF (fun i n => qanl p i n) 6000 0 (p.nodes.drop 0)) (qagg p)) := by
       rw [hF.out]; unfold qadm; rw [qanc, show decide (10 < p.nodes.length) = decide (10 < (p.nodes.length : Int)) from decide_eq_decide.2 (by omega)]; rfl
      replace hF := Lib.hid hS
      clear hS
      cases km : decide (10 < (p.nodes.length : Int))
      rotate_left
      ·have hz := hF.out
       rw [km, if_pos rfl] at hz
       replace hz := Lib.hid hz
       repeat' (first | (with_reducible refine zA ?_) | ((with_reducible refine qaac ?_); (try rw [hP]); simp -implicitDefEqProofs [*]) | ((with_reducible refine qaak ?_); (try simp -implicitDefEqProofs [*])) | ((with_reducible refine qaam ?_); (try simp only [qaap, qaag, qaai])) | ((with_reducible refine qaaa rfl (fun h => ?_) (fun h => ?_)) <;> have h' := h <;> (try simp at h') <;> (try subst h')) | (refine qaay (rF_s _ _ _) ?_; simp -implicitDefEqProofs [*]) | (refine qag0 hm rfl rfl (by rw [hP]; exact qabn) (by rw [hP]; exact qabc) rfl (CoL.refl _) (by rw [hz.out]) (fun σ => rfl)) | fail)
      have hz := hF.out
      rw [km, if_neg Bool.false_ne_true] at hz
      replace hF := Lib.hid hz
      clear hz
      repeat' (first | (with_reducible refine zA ?_) | ((with_reducible refine qaac ?_); (try rw [hP]); simp -implicitDefEqProofs [*]) | ((with_reducible first | refine qaaf ?_ | refine qaak ?_); (try simp -implicitDefEqProofs [*])) | ((with_reducible refine qaaa rfl (fun h => ?_) (fun h => ?_)) <;> have h' := h <;> (try simp at h') <;> (try subst h')) | fail)
      clear km
      refine qaal (qabb (fun s (i : Nat) => s.turn [(15, .int .i64 i)] []) (fun i => i ≤ p.nodes.length ∧ F = orF (0, 0) (orF (rowF (fun i n => qanl p i n) 6000 i (p.nodes.drop i)) (qagg p))) (fun i => p.nodes.length - i) 0 ?_ ⟨by simp, hF.out⟩ ?_)
      ·repeat' (first | ((with_reducible refine qaah [] hm ?_ ?_ ?_ ?_) <;> (try simp only [zT, puth, Nat.reduceEqDiff, reduceIte, Nat.reduceAdd])) | (with_reducible first | refine za ?_ ?_ | refine zb ?_ ?_ ?_ ?_) | (with_reducible first | exact qaab | exact qaad) | ((with_reducible first | refine zga ?_ | refine zgb ?_); rfl) | ((with_reducible refine zgd ?_); (first | omega | (simp; done))) | (exact Co.refl _) | (exact CoL.refl _) | fail)
      rintro J hJ i ⟨h1, h2⟩
      unfold qal0
      simp only [zT, puth, Nat.reduceEqDiff, reduceIte, Nat.reduceAdd] at h1 h2 ⊢
      clear hF
      rcases Nat.lt_or_ge i p.nodes.length with hi | hi
      ·rw [qbi2 _ _ hi] at h2
       have hxm : p.nodes[i] ∈ p.nodes := List.getElem_mem hi
       have wi : IntKind.i64.wrap ((i : Int) + 1) = (i : Int) + 1 := qaaq (by omega) (by omega)
       have wa : IntKind.i64.wrap (6000 + (i : Int)) = 6000 + (i : Int) := qaaq (by omega) (by omega)
       have hct := fun q => rnode_s p i hi (by omega) (by have := hs.node _ hxm; omega) q
       generalize hxx : p.nodes[i] = x at h2 hct hxm
       generalize qanl p i x = E at h2 hct
       replace h2 := Lib.hid h2
       replace hct := Lib.hid hct
       cases kE : (E != 0)
       ·have kE' : ¬ E ≠ 0 := by simpa using kE
        replace kE' := Lib.hid kE'
        repeat' (first | (with_reducible first | refine zA ?_ | refine qaae ?_) | ((with_reducible refine qaac ?_); (try rw [hP]); simp -implicitDefEqProofs [*]) | ((with_reducible refine qaaf ?_); (try simp -implicitDefEqProofs [*])) | ((with_reducible refine qaaa rfl (fun h => ?_) (fun h => ?_)) <;> have h' := h <;> (try simp at h') <;> (try subst h')) | (refine qaay (hct.out _) ?_; simp -implicitDefEqProofs [*]) | (with_reducible first | refine za ?_ ?_ | refine zb ?_ ?_ ?_ ?_) | (with_reducible first | exact qaab | exact qaad) | ((with_reducible first | refine zga ?_ | refine zgb ?_); rfl) | ((with_reducible first | refine zgd ?_ | refine zge ?_); (first | omega | (simp; done))) | (exact Co.refl _) | (exact CoL.refl _) | ((refine qaaj hJ (i + 1) ?_ ?_ ?_; (with_reducible refine qaah [] hm ?_ ?_ ?_ ?_) <;> (try simp only [zT, puth, Nat.reduceEqDiff, reduceIte, Nat.reduceAdd]))) | fail)
        exact ⟨by omega, by rw [h2.out, if_neg kE'.out]⟩
       ·have kE' : E ≠ 0 := by simpa using kE
        have hz := h2.out
        rw [if_pos kE'] at hz
        replace kE' := Lib.hid kE'
        replace hz := Lib.hid hz
        repeat' (first | (with_reducible first | refine zA ?_ | refine qaae ?_) | ((with_reducible refine qaac ?_); (try rw [hP]); simp -implicitDefEqProofs [*]) | ((with_reducible refine qaaf ?_); (try simp -implicitDefEqProofs [*])) | ((with_reducible refine qaam ?_); (try simp only [qaap, qaag, qaai])) | ((with_reducible refine qaaa rfl (fun h => ?_) (fun h => ?_)) <;> have h' := h <;> (try simp at h') <;> (try subst h')) | ((first | refine qaay (hct.out _) ?_ | refine qaay (rF_s _ _ _) ?_); simp -implicitDefEqProofs [*]) | (refine qag0 hm rfl rfl (by rw [hP]; exact qabn) (by rw [hP]; exact qabc) rfl (CoL.refl _) (by rw [hz.out]) (fun σ => rfl)) | fail)
      ·obtain rfl : i = p.nodes.length := by omega
       have hF : F = orF (0, 0) (qagg p) := by rw [h2, List.drop_length]; exact qblv _
       clear h2 hi h1 hJ
       replace hF := Lib.hid hF
       have hS : F = if decide (6 < (p.out.length : Int)) = true then (2, -7) else orF (0, 0) (orF (rowF (fun i o => outF p i o) 7000 0 (p.out.drop 0)) (0, 0)) := by
        rw [hF.out, z_last]; unfold qagg; rw [qanc, show decide (6 < p.out.length) = decide (6 < (p.out.length : Int)) from decide_eq_decide.2 (by omega)]; rfl
       replace hF := Lib.hid hS
       clear hS
       cases km : decide (6 < (p.out.length : Int))
       rotate_left
       ·have hz := hF.out
        rw [km, if_pos rfl] at hz
        replace hz := Lib.hid hz
        repeat' (first | (with_reducible refine zA ?_) | ((with_reducible refine qaac ?_); (try rw [hP]); simp -implicitDefEqProofs [*]) | ((with_reducible refine qaak ?_); (try simp -implicitDefEqProofs [*])) | ((with_reducible refine qaam ?_); (try simp only [qaap, qaag, qaai])) | ((with_reducible refine qaaa rfl (fun h => ?_) (fun h => ?_)) <;> have h' := h <;> (try simp at h') <;> (try subst h')) | (refine qaay (rF_s _ _ _) ?_; simp -implicitDefEqProofs [*]) | (refine qag0 hm rfl rfl (by rw [hP]; exact qabn) (by rw [hP]; exact qabc) rfl (CoL.refl _) (by rw [hz.out]) (fun σ => rfl)) | fail)
       have hz := hF.out
       rw [km, if_neg Bool.false_ne_true] at hz
       replace hF := Lib.hid hz
       clear hz
       repeat' (first | (with_reducible refine zA ?_) | ((with_reducible refine qaac ?_); (try rw [hP]); simp -implicitDefEqProofs [*]) | ((with_reducible first | refine qaaf ?_ | refine qaak ?_); (try simp -implicitDefEqProofs [*])) | ((with_reducible refine qaaa rfl (fun h => ?_) (fun h => ?_)) <;> have h' := h <;> (try simp at h') <;> (try subst h')) | fail)
       clear km
       refine qaal (qabb (fun s (i : Nat) => s.turn [(17, .int .i64 i)] []) (fun i => i ≤ p.out.length ∧ F = orF (0, 0) (orF (rowF (fun i o => outF p i o) 7000 i (p.out.drop i)) (0, 0))) (fun i => p.out.length - i) 0 ?_ ⟨by simp, hF.out⟩ ?_)
       ·repeat' (first | ((with_reducible refine qaah [] hm ?_ ?_ ?_ ?_) <;> (try simp only [zT, puth, Nat.reduceEqDiff, reduceIte, Nat.reduceAdd])) | (with_reducible first | refine za ?_ ?_ | refine zb ?_ ?_ ?_ ?_) | (with_reducible first | exact qaab | exact qaad) | ((with_reducible first | refine zga ?_ | refine zgb ?_); rfl) | ((with_reducible refine zgd ?_); (first | omega | (simp; done))) | (exact Co.refl _) | (exact CoL.refl _) | fail)
       rintro J hJ i ⟨h1, h2⟩
       unfold qalz
       simp only [zT, puth, Nat.reduceEqDiff, reduceIte, Nat.reduceAdd] at h1 h2 ⊢
       clear hF
       rcases Nat.lt_or_ge i p.out.length with hi | hi
       ·rw [qbi2 _ _ hi] at h2
        have hxm : p.out[i] ∈ p.out := List.getElem_mem hi
        have wi : IntKind.i64.wrap ((i : Int) + 1) = (i : Int) + 1 := qaaq (by omega) (by omega)
        have wa : IntKind.i64.wrap (7000 + (i : Int)) = 7000 + (i : Int) := qaaq (by omega) (by omega)
        have hc2 := fun q => rin_s (p.out.take i) p.out[i] (by rw [List.length_take]; omega) q
        simp only [nums, List.map_take] at hc2
        have hc1 := fun q => qar2 p p.out[i] q
        generalize hxx : p.out[i] = x at h2 hc1 hc2 hxm
        unfold outF at h2
        generalize (p.out.take i).contains x = C at h2 hc2
        generalize qacy p x = H at h2 hc1
        have hi' := Nat.le_of_lt hi
        replace h2 := Lib.hid h2
        cases kH : H <;> rw [kH] at hc1
        ·have hz : F = (1, 7000 + (i : Int)) := by have := h2.out; rw [kH] at this; exact this
         replace hz := Lib.hid hz
         repeat' (first | (with_reducible first | refine zA ?_ | refine qaae ?_ | refine zK ?_) | ((with_reducible first | refine qaac ?_ | refine qaa4 (by rw [hP]; exact qacr) ?_); (try rw [hP]); simp -implicitDefEqProofs [*]) | ((with_reducible refine qaaf ?_); (try simp -implicitDefEqProofs [*])) | ((with_reducible refine qaam ?_); (try simp only [qaap, qaag, qaai])) | ((with_reducible refine qaaa rfl (fun h => ?_) (fun h => ?_)) <;> have h' := h <;> (try simp at h') <;> (try subst h')) | ((first | refine qaay (hc1 _) ?_ | refine qaay (rF_s _ _ _) ?_); simp -implicitDefEqProofs [*]) | (refine qag0 hm rfl rfl (by rw [hP]; exact qabn) (by rw [hP]; exact qabc) rfl (CoL.refl _) (by rw [hz.out]) (fun σ => rfl)) | fail)
        cases kC : C <;> rw [kC] at hc2
        ·repeat' (first | (with_reducible first | refine zA ?_ | refine qaae ?_ | refine zK ?_) | ((with_reducible first | refine qaac ?_ | refine qaa4 (by rw [hP]; exact qacr) ?_); (try rw [hP]); simp -implicitDefEqProofs [*]) | ((with_reducible refine qaaf ?_); (try simp -implicitDefEqProofs [*])) | ((with_reducible refine qaaa rfl (fun h => ?_) (fun h => ?_)) <;> have h' := h <;> (try simp at h') <;> (try subst h')) | ((first | refine qaay (hc1 _) ?_ | refine qaay (hc2 _) ?_); simp -implicitDefEqProofs [*]) | (with_reducible first | refine za ?_ ?_ | refine zb ?_ ?_ ?_ ?_) | (with_reducible first | exact qaab | exact qaad) | ((with_reducible first | refine zga ?_ | refine zgb ?_); rfl) | ((with_reducible first | refine zgd ?_ | refine zge ?_); (first | omega | (simp; done))) | (exact Co.refl _) | (exact CoL.refl _) | ((refine qaaj hJ (i + 1) ?_ ?_ ?_; (with_reducible refine qaah [] hm ?_ ?_ ?_ ?_) <;> (try simp only [zT, puth, Nat.reduceEqDiff, reduceIte, Nat.reduceAdd]))) | fail)
         exact ⟨by omega, by have := h2.out; rw [kH, kC] at this; exact this⟩
        ·have hz : F = (7, 7000 + (i : Int)) := by have := h2.out; rw [kH, kC] at this; exact this
         replace hz := Lib.hid hz
         repeat' (first | (with_reducible first | refine zA ?_ | refine qaae ?_ | refine zK ?_) | ((with_reducible first | refine qaac ?_ | refine qaa4 (by rw [hP]; exact qacr) ?_); (try rw [hP]); simp -implicitDefEqProofs [*]) | ((with_reducible refine qaaf ?_); (try simp -implicitDefEqProofs [*])) | ((with_reducible refine qaam ?_); (try simp only [qaap, qaag, qaai])) | ((with_reducible refine qaaa rfl (fun h => ?_) (fun h => ?_)) <;> have h' := h <;> (try simp at h') <;> (try subst h')) | ((first | refine qaay (hc1 _) ?_ | refine qaay (hc2 _) ?_ | refine qaay (rF_s _ _ _) ?_); simp -implicitDefEqProofs [*]) | (refine qag0 hm rfl rfl (by rw [hP]; exact qabn) (by rw [hP]; exact qabc) rfl (CoL.refl _) (by rw [hz.out]) (fun σ => rfl)) | fail)
       ·obtain rfl : i = p.out.length := by omega
        have hz : F = (0, 0) := by rw [h2, List.drop_length]; rfl
        clear h2
        replace hz := Lib.hid hz
        repeat' (first | (with_reducible refine zA ?_) | ((with_reducible refine qaac ?_); (try rw [hP]); simp -implicitDefEqProofs [*]) | ((with_reducible refine qaak ?_); (try simp -implicitDefEqProofs [*])) | ((with_reducible refine qaam ?_); (try simp only [qaap, qaag, qaai])) | ((with_reducible refine qaaa rfl (fun h => ?_) (fun h => ?_)) <;> have h' := h <;> (try simp at h') <;> (try subst h')) | (refine qag0 hm rfl rfl (by rw [hP]; exact qabn) (by rw [hP]; exact qabc) rfl (CoL.refl _) (by rw [hz.out]) (fun σ => rfl)) | fail)
end Go.Proofs.Yticeaegpkpjjeaa
