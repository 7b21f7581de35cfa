/-
  Texts joined: XClow XLowB XFlwH XFlwI XFlwJ XFlwK XPlnU XPlnV XPlnW. No condition.
-/
import Derived.Test.YteoijlmgiemffaaGreatProg
import Derived.ProofKit
import Derived.WalkSpells
import Derived.RegionTactic
import Derived.BigRegion
import Derived.Deep.RegionLaw
import Derived.Test.YteoijlmgiemffaaGreatLowerShapesK6
namespace Go.Proofs.YteoijlmgiemffaaGreat
set_option linter.all false
open Go.RowKit
abbrev qarm : List SOper := [Oa 1 (.box 33 (.t 0)), Oa 2 (.mv (.c .nilsl))]
abbrev qarl : List SOper := [Oa 3 (.loads 7 (.t 1)), Oc 4 25 [(.t 3)], Oa 5 (.field 0 none (.t 4)), Oa 6 (.bin .neq (.t 5) (.c (.int .i64 0)))]
abbrev qark : List SOper := [Oa 2 (.mv (.c .nilsl))]
abbrev qarj : List SOper := [Oa 7 (.loads 7 (.t 1)), Oc 8 26 [(.t 7)], Oa 2 (.mv (.t 8))]
def c_lshapes : SCode := (.seq (.reg false qarm [1]) (.seq (.seq (.reg false qarl [1, 6]) (.cond (.t 6) (.seq (.reg false qark [2]) .ret) .skip)) (.seq (.reg false qarj [2]) .ret)))
theorem qaj8 : comp Tryz.prog 9 ((Tryz.f11.body).getD .skip) = some c_lshapes.erase := by kernel_rfl
abbrev qavu : List SOper := [Oa 1 (.box 33 (.t 0)), Oa 2 (.mv (.c .nilsl))]
abbrev qavt : List SOper := [Oa 3 (.mv (.c .nilsl))]
abbrev qavs : List SOper := [Oa 9 (.faddr 4 (.t 1)), Oa 10 (.load (.t 9)), Oa 11 (.len false (.t 10)), Oa 12 (.mv (.c (.int .i64 0)))]
abbrev qavr : List SOper := [Oa 13 (.bin .lss (.t 12) (.t 11))]
abbrev qavq : List SOper := [Oa 14 (.iaddr 6 (.t 10) (.t 12)), Oa 15 (.loads 6 (.t 14)), Oa 5 (.alloc 78 [(.int .i64 0), .nilsl, .nilsl, (.int .i64 0), (.int .i64 0), .nilsl]), Ob (.store 6 (.t 5) (.t 15))]
abbrev qavp : List SOper := [Oa 16 (.faddr 1 (.t 5)), Oa 17 (.load (.t 16)), Oa 18 (.len false (.t 17)), Oa 19 (.build [(.int .i64 0), (.int .i64 0), (.int .i64 0)] [(0, 1, (.t 18))]), Oa 6 (.alloc 44 [(.int .i64 0), (.int .i64 0), (.int .i64 0)]), Ob (.store 3 (.t 6) (.t 19))]
abbrev qavo : List SOper := [Oa 20 (.faddr 2 (.t 5)), Oa 21 (.load (.t 20)), Oa 22 (.len false (.t 21)), Oa 23 (.mv (.c (.int .i64 0)))]
abbrev qavn : List SOper := [Oa 24 (.bin .lss (.t 23) (.t 22))]
abbrev qavm : List SOper := [Oa 25 (.iaddr 1 (.t 21) (.t 23)), Oa 26 (.load (.t 25)), Oa 8 (.mv (.t 26))]
abbrev qapp : List SOper := [Oa 27 (.faddr 1 (.t 6)), Oa 28 (.load (.t 27)), Oa 29 (.mv (.t 8)), Oa 30 (.bin .add (.t 29) (.c (.int .i64 1))), Oa 31 (.mm true (.t 28) (.t 30)), Oa 32 (.faddr 1 (.t 6)), Ob (.store 1 (.t 32) (.t 31))]
abbrev qapo : List SOper := [Oa 33 (.faddr 2 (.t 6)), Od 34 (.load (.t 33)) 1, Oa 35 (.faddr 3 (.t 1)), Od 36 (.load (.t 35)) 4, Oa 37 (.mv (.t 8)), Od 38 (.iaddr 2 (.t 36) (.t 37)) 28, Od 39 (.faddr 0 (.t 38)) 60, Od 40 (.load (.t 39)) 124, Od 41 (.len false (.t 40)) 252, Od 42 (.mm true (.t 34) (.t 41)) 511, Od 43 (.faddr 2 (.t 6)) 1023, ⟨none, .store 1 (.t 43) (.t 42), none, none, 2047⟩]
abbrev qapn : List SOper := [Oa 44 (.bin .add (.t 23) (.c (.int .i64 1))), Oa 23 (.mv (.t 44))]
def qai4 : SCode := (.seq (.reg false qavn [1, 3, 6, 10, 11, 12, 21, 22, 23, 24]) (.seq (.cond (.t 24) .skip (.exit 2)) (.seq (.block 3 (.seq (.reg false qavm [1, 3, 6, 8, 10, 11, 12, 21, 22, 23]) (.seq (.reg false qapp [1, 3, 6, 8, 10, 11, 12, 21, 22, 23]) (.reg true qapo [1, 3, 6, 10, 11, 12, 21, 22, 23])))) (.reg false qapn [1, 3, 6, 10, 11, 12, 21, 22, 23]))))
abbrev qapm : List SOper := [Oa 45 (.mv (.t 3)), Oa 46 (.loads 3 (.t 6)), Oa 47 (.mkrow 44 3 1 [(.int .i64 0), (.int .i64 0), (.int .i64 0)] [(0, (.t 46))]), Oa 48 (.app 44 3 24 (.t 45) (.t 47)), Oa 3 (.mv (.t 48))]
abbrev qapl : List SOper := [Oa 49 (.bin .add (.t 12) (.c (.int .i64 1))), Oa 12 (.mv (.t 49))]
def qai3 : SCode := (.seq (.reg false qavr [1, 3, 10, 11, 12, 13]) (.seq (.cond (.t 13) .skip (.exit 0)) (.seq (.block 1 (.seq (.reg false qavq [1, 3, 5, 10, 11, 12]) (.seq (.reg false qavp [1, 3, 5, 6, 10, 11, 12]) (.seq (.seq (.reg false qavo [1, 3, 6, 10, 11, 12, 21, 22, 23]) (.block 2 (.loop qai4))) (.reg false qapm [1, 3, 10, 11, 12]))))) (.reg false qapl [1, 3, 10, 11, 12]))))
abbrev qapk : List SOper := [Oa 50 (.mv (.t 3)), Oa 2 (.mv (.t 50))]
def c_shapes : SCode := (.seq (.reg false qavu [1]) (.seq (.reg false qavt [1, 3]) (.seq (.seq (.reg false qavs [1, 3, 10, 11, 12]) (.block 0 (.loop qai3))) (.seq (.reg false qapk [2]) .ret))))
theorem qak8 : comp Tryz.prog 51 ((Tryz.f26.body).getD .skip) = some c_shapes.erase := by kernel_rfl
abbrev qaqr : List SOper := [Oa 1 (.box 33 (.t 0)), Oa 2 (.mv (.c .nilsl))]
abbrev qaqq : List SOper := [Oa 3 (.mv (.c .nilsl))]
abbrev qaqp : List SOper := [Oa 4 (.mv (.c (.int .i64 0)))]
abbrev qaqo : List SOper := [Oa 8 (.mv (.t 4)), Oa 9 (.faddr 4 (.t 1)), Oa 10 (.load (.t 9)), Oa 11 (.len false (.t 10)), Oa 12 (.bin .lss (.t 8) (.t 11))]
abbrev qaqn : List SOper := [Oa 15 (.faddr 4 (.t 1)), Oa 16 (.load (.t 15)), Oa 17 (.mv (.t 4)), Oa 18 (.iaddr 6 (.t 16) (.t 17)), Oa 19 (.faddr 1 (.t 18)), Oa 20 (.load (.t 19)), Oa 21 (.len false (.t 20)), Oa 22 (.build [(.int .i64 0), (.int .i64 0), (.int .i64 0)] [(0, 1, (.t 21))]), Oa 5 (.alloc 44 [(.int .i64 0), (.int .i64 0), (.int .i64 0)]), Ob (.store 3 (.t 5) (.t 22))]
abbrev qaqm : List SOper := [Oa 6 (.mv (.c (.int .i64 0)))]
abbrev qaql : List SOper := [Oa 23 (.mv (.t 6)), Oa 24 (.faddr 4 (.t 1)), Oa 25 (.load (.t 24)), Oa 26 (.mv (.t 4)), Oa 27 (.iaddr 6 (.t 25) (.t 26)), Oa 28 (.faddr 2 (.t 27)), Oa 29 (.load (.t 28)), Oa 30 (.len false (.t 29)), Oa 31 (.bin .lss (.t 23) (.t 30))]
abbrev qaqk : List SOper := [Oa 34 (.faddr 4 (.t 1)), Oa 35 (.load (.t 34)), Oa 36 (.mv (.t 4)), Oa 37 (.iaddr 6 (.t 35) (.t 36)), Oa 38 (.faddr 2 (.t 37)), Oa 39 (.load (.t 38)), Oa 40 (.mv (.t 6)), Oa 41 (.iaddr 1 (.t 39) (.t 40)), Oa 42 (.load (.t 41)), Oa 7 (.mv (.t 42))]
abbrev qaqj : List SOper := [Oa 43 (.mv (.t 7)), Oa 44 (.bin .add (.t 43) (.c (.int .i64 1))), Oa 45 (.faddr 1 (.t 5)), Oa 46 (.load (.t 45)), Oa 47 (.bin .gtr (.t 44) (.t 46))]
abbrev qal0 : List SOper := [Oa 48 (.mv (.t 7)), Oa 49 (.bin .add (.t 48) (.c (.int .i64 1))), Oa 50 (.faddr 1 (.t 5)), Ob (.store 1 (.t 50) (.t 49))]
abbrev qalz : List SOper := [Oa 51 (.faddr 3 (.t 1)), Od 52 (.load (.t 51)) 1, Oa 53 (.mv (.t 7)), Od 54 (.iaddr 2 (.t 52) (.t 53)) 7, Od 55 (.faddr 0 (.t 54)) 15, Od 56 (.load (.t 55)) 31, Od 57 (.len false (.t 56)) 63, Oa 58 (.faddr 2 (.t 5)), Od 59 (.load (.t 58)) 128, Od 60 (.bin .gtr (.t 57) (.t 59)) 511]
abbrev qaly : List SOper := [Oa 61 (.faddr 3 (.t 1)), Oa 62 (.load (.t 61)), Oa 63 (.mv (.t 7)), Oa 64 (.iaddr 2 (.t 62) (.t 63)), Oa 65 (.faddr 0 (.t 64)), Oa 66 (.load (.t 65)), Oa 67 (.len false (.t 66)), Oa 68 (.faddr 2 (.t 5)), Ob (.store 1 (.t 68) (.t 67))]
abbrev qalx : List SOper := [Oa 32 (.mv (.t 6)), Oa 33 (.bin .add (.t 32) (.c (.int .i64 1))), Oa 6 (.mv (.t 33))]
def qah7 : SCode := (.seq (.seq (.reg false qaql [1, 3, 4, 5, 6, 31]) (.cond (.t 31) .skip (.exit 2))) (.seq (.block 3 (.seq (.reg false qaqk [1, 3, 4, 5, 6, 7]) (.seq (.seq (.reg false qaqj [1, 3, 4, 5, 6, 7, 47]) (.cond (.t 47) (.reg false qal0 [1, 3, 4, 5, 6, 7]) .skip)) (.seq (.reg true qalz [1, 3, 4, 5, 6, 7, 60]) (.cond (.t 60) (.reg false qaly [1, 3, 4, 5, 6]) .skip))))) (.reg false qalx [1, 3, 4, 5, 6])))
abbrev qalw : List SOper := [Oa 69 (.mv (.t 3)), Oa 70 (.loads 3 (.t 5)), Oa 71 (.mkrow 44 3 1 [(.int .i64 0), (.int .i64 0), (.int .i64 0)] [(0, (.t 70))]), Oa 72 (.app 44 3 24 (.t 69) (.t 71)), Oa 3 (.mv (.t 72))]
abbrev qalv : List SOper := [Oa 13 (.mv (.t 4)), Oa 14 (.bin .add (.t 13) (.c (.int .i64 1))), Oa 4 (.mv (.t 14))]
def qah6 : SCode := (.seq (.seq (.reg false qaqo [1, 3, 4, 12]) (.cond (.t 12) .skip (.exit 0))) (.seq (.block 1 (.seq (.reg false qaqn [1, 3, 4, 5]) (.seq (.seq (.reg false qaqm [1, 3, 4, 5, 6]) (.block 2 (.loop qah7))) (.reg false qalw [1, 3, 4])))) (.reg false qalv [1, 3, 4])))
abbrev qalu : List SOper := [Oa 73 (.mv (.t 3)), Oa 2 (.mv (.t 73))]
def c_rshapes : SCode := (.seq (.reg false qaqr [1]) (.seq (.reg false qaqq [1, 3]) (.seq (.seq (.reg false qaqp [1, 3, 4]) (.block 0 (.loop qah6))) (.seq (.reg false qalu [2]) .ret))))
theorem qaj7 : comp Tryz.prog 74 ((Tryz.f13.body).getD .skip) = some c_rshapes.erase := by kernel_rfl
abbrev qbbu : List SOper := [Oa 1 (.box 33 (.t 0)), Oa 2 (.mv (.c (.bool false)))]
abbrev qbbt : List SOper := [Oc 8 8 [], Oa 9 (.un .not (.t 8))]
abbrev qbbs : List SOper := [Oa 2 (.mv (.c (.bool false)))]
abbrev qbbr : List SOper := [Oa 10 (.loads 7 (.t 1)), Oc 11 9 [(.t 10)]]
abbrev qbbq : List SOper := [Oa 2 (.mv (.c (.bool true)))]
abbrev qbbp : List SOper := [Oa 13 (.loads 7 (.t 1)), Oc 14 10 [(.t 13)], Oa 12 (.mv (.t 14)), Oa 15 (.extr (.t 12) 0), Oa 16 (.extr (.t 12) 1), Oa 4 (.alloc 37 [(.int .i64 0), (.int .i64 0)]), Oa 3 (.mv (.t 15)), Ob (.store 2 (.t 4) (.t 16))]
abbrev qbbo : List SOper := [Oa 17 (.loads 7 (.t 1)), Oc 18 12 [(.t 17)], Oc 19 11 [(.t 18)], Oa 5 (.mv (.t 19))]
abbrev qbbn : List SOper := [Oa 20 (.faddr 0 (.t 4)), Oa 21 (.load (.t 20)), Oa 22 (.bin .neq (.t 21) (.c (.int .i64 0)))]
abbrev qbbm : List SOper := [Oa 23 (.mv (.t 5)), Oa 24 (.len false (.t 23)), Oa 25 (.bin .eql (.t 24) (.c (.int .i64 0))), Oa 2 (.mv (.t 25))]
abbrev qa2q : List SOper := [Oa 26 (.loads 7 (.t 1)), Oc 27 13 [(.t 26)], Oa 6 (.mv (.t 27))]
abbrev qa2p : List SOper := [Oa 28 (.mv (.t 5)), Oa 29 (.len false (.t 28)), Oa 30 (.mv (.t 6)), Oa 31 (.len false (.t 30)), Oa 32 (.bin .neq (.t 29) (.t 31))]
abbrev qa2o : List SOper := [Oa 2 (.mv (.c (.bool false)))]
abbrev qa2n : List SOper := [Oa 7 (.mv (.c (.int .i64 0)))]
abbrev qa2m : List SOper := [Oa 33 (.mv (.t 7)), Oa 34 (.mv (.t 5)), Oa 35 (.len false (.t 34)), Oa 36 (.bin .lss (.t 33) (.t 35))]
abbrev qa2l : List SOper := [Oa 39 (.mv (.t 5)), Oa 40 (.mv (.t 7)), Od 41 (.iaddr 3 (.t 39) (.t 40)) 3, Od 42 (.loads 3 (.t 41)) 7, Oa 43 (.mv (.t 6)), Oa 44 (.mv (.t 7)), Od 45 (.iaddr 3 (.t 43) (.t 44)) 48, Od 46 (.loads 3 (.t 45)) 112, Od 47 (.eqs [1, 1, 1] true (.t 42) (.t 46)) 255]
abbrev qa2k : List SOper := [Oa 2 (.mv (.c (.bool false)))]
abbrev qa2j : List SOper := [Oa 37 (.mv (.t 7)), Oa 38 (.bin .add (.t 37) (.c (.int .i64 1))), Oa 7 (.mv (.t 38))]
def qamf : SCode := (.seq (.seq (.reg false qa2m [5, 6, 7, 36]) (.cond (.t 36) .skip (.exit 0))) (.seq (.block 1 (.seq (.reg true qa2l [5, 6, 7, 47]) (.cond (.t 47) (.seq (.reg false qa2k [2]) .ret) .skip))) (.reg false qa2j [5, 6, 7])))
abbrev qa2i : List SOper := [Oa 2 (.mv (.c (.bool true)))]
def c_lowsh : SCode := (.seq (.reg false qbbu [1]) (.seq (.seq (.reg false qbbt [1, 9]) (.cond (.t 9) (.seq (.reg false qbbs [2]) .ret) .skip)) (.seq (.seq (.reg false qbbr [1, 11]) (.cond (.t 11) (.seq (.reg false qbbq [2]) .ret) .skip)) (.seq (.reg false qbbp [1, 4]) (.seq (.reg false qbbo [1, 4, 5]) (.seq (.seq (.reg false qbbn [1, 5, 22]) (.cond (.t 22) (.seq (.reg false qbbm [2]) .ret) .skip)) (.seq (.reg false qa2q [5, 6]) (.seq (.seq (.reg false qa2p [5, 6, 32]) (.cond (.t 32) (.seq (.reg false qa2o [2]) .ret) .skip)) (.seq (.seq (.reg false qa2n [5, 6, 7]) (.block 0 (.loop qamf))) (.seq (.reg false qa2i [2]) .ret))))))))))
theorem qaos : comp Tryz.prog 48 ((Tryz.f4.body).getD .skip) = some c_lowsh.erase := by kernel_rfl
end Go.Proofs.YteoijlmgiemffaaGreat
namespace Go.Proofs.YteoijlmgiemffaaGreat
set_option linter.all false
open Go.RowKit
attribute [local simp] qabi qabh qaax qaa7 qaay qaa6 qabf qabg qaar qabr SOp.run SX.ev putd puts argS upds SOp.touch SSt.keep SSt.skip gets geth puth delh idOf SV.cells? setL qadh qadi sbin eq0 eq1 eqL qadf qab9 qaca qaap qabk qaag qabl qabs qaaj qaaq FrzOk qaba qaa1 qaa8 qaa9 qaat qaa0 qabm qaa2 qaav qabb qaau frzS frzH frz frz1 frz0 SlotsM ObjsM ObjM rn ren ren1 ren0 qabu qab7 qacf qabt qabn qacg qace CoL qabc qab3 dels adds idsH qabz
attribute [local simp] qadt refc qaes qaei qab8 opc actc tabc qaea qacm nums
def mxI (m b : Int) : Int := if b > m then b else m
def wlenI (p : PlanD) (a : Int) : Int := ((p.acts[a.toNat]?).map fun x => (x.w.length : Int)).getD 0
def shpS (p : PlanD) (z : Int × Int) (a : Int) : Int × Int := (mxI z.1 (a + 1), mxI z.2 (wlenI p a))
def shpC (p : PlanD) (t : TabD) : List SV := [.int .i64 t.keys.length, .int .i64 (t.acts.foldl (shpS p) (0, 0)).1, .int .i64 (t.acts.foldl (shpS p) (0, 0)).2]
abbrev shpL (p : PlanD) : List (List SV) := p.tabs.map (shpC p)
instance (p : PlanD) : PureF (shpC p) := ⟨fun _ _ => rfl, fun _ => rfl, fun x => qab4 _ rfl⟩
set_option maxHeartbeats 4000000 in
theorem qbin (p : PlanD) (hs : SmallP p) (ht : ∀ t ∈ p.tabs, ∀ a ∈ t.acts, 0 ≤ a ∧ a < p.acts.length) (q : Nat) : SCalls Tryz.prog 26 [.agg (qacm p)] [] q (.view 3 (shpL p)) [] := by
 refine qabj ?_ (fun _ => rfl) (fun _ => rfl) rfl q
 refine qaas (N := 51) Tryz.func26 rfl rfl (by kernel_rfl) qak8 (by simp) (by repeat' (first | exact trivial | refine And.intro ?_ ?_ | rfl | decide | exact PureR.ren _)) (by repeat' (first | exact trivial | refine And.intro ?_ ?_ | rfl | decide | exact PureR.ren _)) ?_
 rintro X hP hN hm
 unfold c_shapes
 repeat' (first | (with_reducible refine zA ?_) | ((with_reducible refine qaac ?_); (try rw [hP]); simp -implicitDefEqProofs [*]) | fail)
 refine qaco (qadw 3 44 3 rfl) ?_
 simp only [zT, puth, Nat.reduceEqDiff, reduceIte, Nat.reduceAdd]
 refine qaal (qaa5 (fun s (i : Nat) => s.turn [(3, .own 7 i), (12, .int .i64 i)] [(7, .row 44 3 ((p.tabs.take i).map (shpC p)))]) (fun i => i ≤ p.tabs.length) (fun i => p.tabs.length - i) 0 ?_ (by simp) ?_)
 ·repeat' (first | ((with_reducible refine qaah [] hm ?_ ?_ ?_ ?_) <;> (try simp only [zT, puth, Nat.reduceEqDiff, reduceIte, Nat.reduceAdd])) | (with_reducible first | refine za ?_ ?_ | refine zb ?_ ?_ ?_ ?_ | refine zc ?_ ?_ ?_ ?_) | (with_reducible first | exact qaab | exact qaad) | ((with_reducible first | refine zga ?_ | refine zgb ?_); rfl) | ((with_reducible refine zgc ?_); (first | (with_reducible rfl) | rfl | (simp; done))) | ((with_reducible refine zgd ?_); (first | omega | (simp; done))) | (exact Co.refl _) | (exact CoL.refl _) | fail)
 rintro J hJ i h1
 have hJo := hJ
 unfold qai3
 simp only [zT, puth, Nat.reduceEqDiff, reduceIte, Nat.reduceAdd] at h1 ⊢
 have htl := hs.tabs
 rcases Nat.lt_or_ge i p.tabs.length with hi | hi
 ·have wi : IntKind.i64.wrap ((i : Int) + 1) = (i : Int) + 1 := qaao (by omega) (by omega)
  have hkl := hs.keys _ (List.getElem_mem hi)
  have hai := ht _ (List.getElem_mem hi)
  have hrow : (p.tabs.take (i + 1)).map (shpC p) = (p.tabs.take i).map (shpC p) ++ [shpC p p.tabs[i]] := by
   rw [List.take_succ_eq_append_getElem hi, List.map_append]; rfl
  have hlr : (p.tabs.take i).length = i := by simp; omega
  obtain ⟨kd, ks, ac, cp, df, ar, hx⟩ : ∃ kd ks ac cp df ar, p.tabs[i] = ⟨kd, ks, ac, cp, df, ar⟩ := ⟨_, _, _, _, _, _, rfl⟩
  rw [hx] at hkl hai hrow
  simp only at hkl hai
  have hgi : p.tabs[i]? = some ⟨kd, ks, ac, cp, df, ar⟩ := by rw [List.getElem?_eq_getElem hi, hx]
  replace hrow := Lib.hid hrow
  generalize p.tabs.take i = M at hrow hlr
  repeat' (first | (with_reducible first | refine zA ?_ | refine qaae ?_) | ((with_reducible refine qaac ?_); (try rw [hP]); simp -implicitDefEqProofs [List.getElem?_eq_getElem hi, hx, wi, *]) | ((with_reducible refine qaaf ?_); (try simp -implicitDefEqProofs [List.getElem?_eq_getElem hi, hx, wi, *])) | ((with_reducible refine qaaa rfl (fun h => ?_) (fun h => ?_)) <;> have h' := h <;> (try simp at h') <;> (try subst h')) | fail)
  obtain ⟨F, hF⟩ : ∃ F, F = ac.foldl (shpS p) (0, 0) := ⟨_, rfl⟩
  have hsc : shpC p ⟨kd, ks, ac, cp, df, ar⟩ = [.int .i64 ks.length, .int .i64 F.1, .int .i64 F.2] := by rw [hF]; rfl
  rw [hsc] at hrow
  clear hx hgi hsc
  refine qaal (qaa5 (fun s (z : Nat × Int × Int) => s.turn [(23, .int .i64 z.1)] [(17, .cells 44 [.int .i64 ks.length, .int .i64 z.2.1, .int .i64 z.2.2])]) (fun z => z.1 ≤ ac.length ∧ F = (ac.drop z.1).foldl (shpS p) z.2) (fun z => ac.length - z.1) (0, 0, 0) ?_ ⟨by simp, hF⟩ ?_)
  ·repeat' (first | ((with_reducible refine qaah [] hm ?_ ?_ ?_ ?_) <;> (try simp only [zT, puth, Nat.reduceEqDiff, reduceIte, Nat.reduceAdd])) | (with_reducible first | refine za ?_ ?_ | refine zb ?_ ?_ ?_ ?_ | refine zc ?_ ?_ ?_ ?_) | (with_reducible first | exact qaab | exact qaad) | ((with_reducible first | refine zga ?_ | refine zgb ?_); rfl) | ((with_reducible refine zgc ?_); (first | (with_reducible rfl) | rfl | (simp; done))) | ((with_reducible refine zgd ?_); (first | omega | (simp; done))) | (exact Co.refl _) | (exact CoL.refl _) | fail)
  rintro J hJ ⟨k, z1, z2⟩ ⟨g1, g2⟩
  unfold qai4
  simp only [zT, puth, Nat.reduceEqDiff, reduceIte, Nat.reduceAdd] at g1 g2 ⊢
  rcases Nat.lt_or_ge k ac.length with hk | hk
  ·have wk1 : IntKind.i64.wrap ((k : Int) + 1) = (k : Int) + 1 := qaao (by omega) (by omega)
   obtain ⟨ha0, ha1⟩ := hai _ (List.getElem_mem hk)
   rw [List.drop_eq_getElem_cons hk, List.foldl_cons] at g2
   have hak := List.getElem?_eq_getElem hk
   generalize hac : ac[k] = a at ha0 ha1 g2 hak
   have hal := hs.acts
   have wa : IntKind.i64.wrap (a + 1) = a + 1 := qaao (by omega) (by omega)
   have hax : a.toNat < p.acts.length := by omega
   obtain ⟨w, ops, hx⟩ : ∃ w ops, p.acts[a.toNat] = ⟨w, ops⟩ := ⟨_, _, rfl⟩
   have hga : p.acts[a.toNat]? = some ⟨w, ops⟩ := by rw [List.getElem?_eq_getElem hax, hx]
   have hst : shpS p (z1, z2) a = (if a + 1 > z1 then a + 1 else z1, if (w.length : Int) > z2 then (w.length : Int) else z2) := by
    unfold shpS mxI wlenI; rw [hga]; rfl
   rw [hst] at g2
   replace g2 := Lib.hid g2
   clear hst hF
   replace hai := Lib.hid hai
   repeat' (first | (with_reducible first | refine zA ?_ | refine qaae ?_ | refine zK ?_) | ((with_reducible first | refine qaac ?_ | refine qaaz (by rw [hP]; exact qacz) ?_); (try rw [hP]); simp -implicitDefEqProofs [hak, hac, wk1, ha0, ha1, wa, hga, hx, *]) | ((with_reducible refine qaaf ?_); (try simp -implicitDefEqProofs [hak, hac, wk1, ha0, ha1, wa, hga, hx, *])) | ((with_reducible refine qaaa rfl (fun h => ?_) (fun h => ?_)) <;> have h' := h <;> (try simp at h') <;> (try subst h')) | (with_reducible first | refine za ?_ ?_ | refine zb ?_ ?_ ?_ ?_ | refine zc ?_ ?_ ?_ ?_) | (with_reducible first | exact qaab | exact qaad) | ((with_reducible first | refine zga ?_ | refine zgb ?_); rfl) | ((with_reducible refine zgc ?_); (first | (with_reducible rfl) | rfl | (simp; done))) | ((with_reducible first | refine zgd ?_ | refine zge ?_); (first | omega | (simp; done))) | (exact Co.refl _) | (exact CoL.refl _) | ((refine qaai hJ ((k + 1, ?_, ?_)) ?_ ?_ ?_; rotate_left 2; (with_reducible refine qaah [] hm ?_ ?_ ?_ ?_) <;> (try simp only [zT, puth, Nat.reduceEqDiff, reduceIte, Nat.reduceAdd]))) | fail)
   all_goals exact ⟨by omega, g2.out⟩
  ·obtain rfl : k = ac.length := by omega
   rw [List.drop_length] at g2
   have g3 : F = (z1, z2) := g2
   rw [g3] at hrow
   clear hJ g2 g3 hF
   have hbm : M.length + 1 ≤ maxLen := by unfold maxLen; omega
   repeat' (first | (with_reducible refine zA ?_) | ((with_reducible refine qaac ?_); (try rw [hP]); simp -implicitDefEqProofs [hlr, wi, *]) | ((with_reducible refine qaak ?_); (try simp -implicitDefEqProofs [hlr, wi, *])) | ((with_reducible refine qaaa rfl (fun h => ?_) (fun h => ?_)) <;> have h' := h <;> (try simp at h') <;> (try subst h')) | ((with_reducible refine qabo ?_ ?_); (first | omega | (unfold maxLen; omega)); simp -implicitDefEqProofs [hlr, wi, *]) | (with_reducible first | refine za ?_ ?_ | refine zb ?_ ?_ ?_ ?_ | refine zc ?_ ?_ ?_ ?_) | (with_reducible first | exact qaab | exact qaad) | ((with_reducible first | refine zga ?_ | refine zgb ?_); rfl) | ((with_reducible first | refine zgd ?_ | refine zge ?_); (first | omega | (simp; done))) | (exact Co.refl _) | (exact CoL.refl _) | ((refine qaai hJo (i + 1) ?_ ?_ ?_; (with_reducible refine qaah [(7, ?_)] hm ?_ ?_ ?_ ?_) <;> (try simp only [zT, puth, Nat.reduceEqDiff, reduceIte, Nat.reduceAdd]))) | fail)
   all_goals first | exact hrow.out.symm | omega
 ·obtain rfl : i = p.tabs.length := by omega
  have hrow : (p.tabs.take p.tabs.length).map (shpC p) = shpL p := by rw [List.take_length]
  rw [hrow]
  have hll : (shpL p).length = p.tabs.length := List.length_map ..
  repeat' (first | (with_reducible refine zA ?_) | ((with_reducible refine qaac ?_); (try rw [hP]); simp -implicitDefEqProofs [*]) | ((with_reducible refine qaak ?_); (try simp -implicitDefEqProofs [*])) | ((with_reducible refine qaam ?_); (try simp only [qaap, qaag, qaaj])) | ((with_reducible refine qaaa rfl (fun h => ?_) (fun h => ?_)) <;> have h' := h <;> (try simp at h') <;> (try subst h')) | (refine qaiv hm rfl rfl ?_ rfl) | fail)
  all_goals simp
set_option maxHeartbeats 4000000 in
theorem qben (p : PlanD) (hs : SmallP p) (ht : ∀ t ∈ p.tabs, ∀ a ∈ t.acts, 0 ≤ a ∧ a < p.acts.length) (q : Nat) : SCalls Tryz.prog 13 [.agg (qacm p)] [] q (.view 3 (shpL p)) [] := by
 refine qabj ?_ (fun _ => rfl) (fun _ => rfl) rfl q
 refine qaas (N := 74) Tryz.func13 rfl rfl (by kernel_rfl) qaj7 (by simp) (by repeat' (first | exact trivial | refine And.intro ?_ ?_ | rfl | decide | exact PureR.ren _)) (by repeat' (first | exact trivial | refine And.intro ?_ ?_ | rfl | decide | exact PureR.ren _)) ?_
 rintro X hP hN hm
 unfold c_rshapes
 repeat' (first | (with_reducible refine zA ?_) | ((with_reducible refine qaac ?_); (try rw [hP]); simp -implicitDefEqProofs [*]) | fail)
 refine qaco (qadw 3 44 3 rfl) ?_
 simp only [zT, puth, Nat.reduceEqDiff, reduceIte, Nat.reduceAdd]
 refine qaal (qaa5 (fun s (i : Nat) => s.turn [(3, .own 4 i), (4, .int .i64 i)] [(4, .row 44 3 ((p.tabs.take i).map (shpC p)))]) (fun i => i ≤ p.tabs.length) (fun i => p.tabs.length - i) 0 ?_ (by simp) ?_)
 ·repeat' (first | ((with_reducible refine qaah [] hm ?_ ?_ ?_ ?_) <;> (try simp only [zT, puth, Nat.reduceEqDiff, reduceIte, Nat.reduceAdd])) | (with_reducible first | refine za ?_ ?_ | refine zb ?_ ?_ ?_ ?_ | refine zc ?_ ?_ ?_ ?_) | (with_reducible first | exact qaab | exact qaad) | ((with_reducible first | refine zga ?_ | refine zgb ?_); rfl) | ((with_reducible refine zgc ?_); (first | (with_reducible rfl) | rfl | (simp; done))) | ((with_reducible refine zgd ?_); (first | omega | (simp; done))) | (exact Co.refl _) | (exact CoL.refl _) | fail)
 rintro J hJ i h1
 have hJo := hJ
 unfold qah6
 simp only [zT, puth, Nat.reduceEqDiff, reduceIte, Nat.reduceAdd] at h1 ⊢
 have htl := hs.tabs
 rcases Nat.lt_or_ge i p.tabs.length with hi | hi
 ·have wi : IntKind.i64.wrap ((i : Int) + 1) = (i : Int) + 1 := qaao (by omega) (by omega)
  have hkl := hs.keys _ (List.getElem_mem hi)
  have hai := ht _ (List.getElem_mem hi)
  have hrow : (p.tabs.take (i + 1)).map (shpC p) = (p.tabs.take i).map (shpC p) ++ [shpC p p.tabs[i]] := by
   rw [List.take_succ_eq_append_getElem hi, List.map_append]; rfl
  have hlr : (p.tabs.take i).length = i := by simp; omega
  obtain ⟨kd, ks, ac, cp, df, ar, hx⟩ : ∃ kd ks ac cp df ar, p.tabs[i] = ⟨kd, ks, ac, cp, df, ar⟩ := ⟨_, _, _, _, _, _, rfl⟩
  rw [hx] at hkl hai hrow
  simp only at hkl hai
  replace hrow := Lib.hid hrow
  generalize p.tabs.take i = M at hrow hlr
  have hgi := List.getElem?_eq_getElem hi
  repeat' (first | (with_reducible first | refine zA ?_ | refine qaae ?_) | ((with_reducible refine qaac ?_); (try rw [hP]); simp -implicitDefEqProofs [hgi, hx, wi, *]) | ((with_reducible refine qaaf ?_); (try simp -implicitDefEqProofs [hgi, hx, wi, *])) | ((with_reducible refine qaaa rfl (fun h => ?_) (fun h => ?_)) <;> have h' := h <;> (try simp at h') <;> (try subst h')) | fail)
  obtain ⟨F, hF⟩ : ∃ F, F = ac.foldl (shpS p) (0, 0) := ⟨_, rfl⟩
  have hsc : shpC p ⟨kd, ks, ac, cp, df, ar⟩ = [.int .i64 ks.length, .int .i64 F.1, .int .i64 F.2] := by rw [hF]; rfl
  rw [hsc] at hrow
  clear hsc
  refine qaal (qaa5 (fun s (z : Nat × Int × Int) => s.turn [(6, .int .i64 z.1)] [(18, .cells 44 [.int .i64 ks.length, .int .i64 z.2.1, .int .i64 z.2.2])]) (fun z => z.1 ≤ ac.length ∧ F = (ac.drop z.1).foldl (shpS p) z.2) (fun z => ac.length - z.1) (0, 0, 0) ?_ ⟨by simp, hF⟩ ?_)
  ·repeat' (first | ((with_reducible refine qaah [] hm ?_ ?_ ?_ ?_) <;> (try simp only [zT, puth, Nat.reduceEqDiff, reduceIte, Nat.reduceAdd])) | (with_reducible first | refine za ?_ ?_ | refine zb ?_ ?_ ?_ ?_ | refine zc ?_ ?_ ?_ ?_) | (with_reducible first | exact qaab | exact qaad) | ((with_reducible first | refine zga ?_ | refine zgb ?_); rfl) | ((with_reducible refine zgc ?_); (first | (with_reducible rfl) | rfl | (simp; done))) | ((with_reducible refine zgd ?_); (first | omega | (simp; done))) | (exact Co.refl _) | (exact CoL.refl _) | fail)
  rintro J hJ ⟨k, z1, z2⟩ ⟨g1, g2⟩
  unfold qah7
  simp only [zT, puth, Nat.reduceEqDiff, reduceIte, Nat.reduceAdd] at g1 g2 ⊢
  rcases Nat.lt_or_ge k ac.length with hk | hk
  ·have wk1 : IntKind.i64.wrap ((k : Int) + 1) = (k : Int) + 1 := qaao (by omega) (by omega)
   obtain ⟨ha0, ha1⟩ := hai _ (List.getElem_mem hk)
   rw [List.drop_eq_getElem_cons hk, List.foldl_cons] at g2
   have hak := List.getElem?_eq_getElem hk
   generalize hac : ac[k] = a at ha0 ha1 g2 hak
   have hal := hs.acts
   have wa : IntKind.i64.wrap (a + 1) = a + 1 := qaao (by omega) (by omega)
   have hax : a.toNat < p.acts.length := by omega
   obtain ⟨w, ops, hxa⟩ : ∃ w ops, p.acts[a.toNat] = ⟨w, ops⟩ := ⟨_, _, rfl⟩
   have hga : p.acts[a.toNat]? = some ⟨w, ops⟩ := by rw [List.getElem?_eq_getElem hax, hxa]
   have hst : shpS p (z1, z2) a = (if z1 < a + 1 then a + 1 else z1, if z2 < (w.length : Int) then (w.length : Int) else z2) := by
    unfold shpS mxI wlenI; rw [hga]; rfl
   rw [hst] at g2
   clear hst hF
   replace hai := Lib.hid hai
   by_cases ca : z1 < a + 1
   ·by_cases cb : z2 < (w.length : Int)
    ·rw [if_pos ca, if_pos cb] at g2
     replace g2 := Lib.hid g2
     repeat' (first | (with_reducible first | refine zA ?_ | refine qaae ?_ | refine zK ?_) | ((with_reducible first | refine qaac ?_ | refine qaaz (by rw [hP]; exact qacz) ?_); (try rw [hP]); simp -implicitDefEqProofs [hgi, hx, hak, hac, wk1, ha0, ha1, wa, hga, hxa, ca, cb, *]) | ((with_reducible refine qaaf ?_); (try simp -implicitDefEqProofs [hgi, hx, hak, hac, wk1, ha0, ha1, wa, hga, hxa, ca, cb, *])) | ((with_reducible refine qaaa rfl (fun h => ?_) (fun h => ?_)) <;> have h' := h <;> (try simp at h') <;> (try subst h')) | (with_reducible first | refine za ?_ ?_ | refine zb ?_ ?_ ?_ ?_ | refine zc ?_ ?_ ?_ ?_) | (with_reducible first | exact qaab | exact qaad) | ((with_reducible first | refine zga ?_ | refine zgb ?_); rfl) | ((with_reducible refine zgc ?_); (first | (with_reducible rfl) | rfl | (simp; done))) | ((with_reducible first | refine zgd ?_ | refine zge ?_); (first | omega | (simp; done))) | (exact Co.refl _) | (exact CoL.refl _) | ((refine qaai hJ ((k + 1, ?_, ?_)) ?_ ?_ ?_; rotate_left 2; (with_reducible refine qaah [] hm ?_ ?_ ?_ ?_) <;> (try simp only [zT, puth, Nat.reduceEqDiff, reduceIte, Nat.reduceAdd]))) | fail)
     all_goals exact ⟨by omega, g2.out⟩
    ·rw [if_pos ca, if_neg cb] at g2
     replace g2 := Lib.hid g2
     repeat' (first | (with_reducible first | refine zA ?_ | refine qaae ?_ | refine zK ?_) | ((with_reducible first | refine qaac ?_ | refine qaaz (by rw [hP]; exact qacz) ?_); (try rw [hP]); simp -implicitDefEqProofs [hgi, hx, hak, hac, wk1, ha0, ha1, wa, hga, hxa, ca, cb, *]) | ((with_reducible refine qaaf ?_); (try simp -implicitDefEqProofs [hgi, hx, hak, hac, wk1, ha0, ha1, wa, hga, hxa, ca, cb, *])) | ((with_reducible refine qaaa rfl (fun h => ?_) (fun h => ?_)) <;> have h' := h <;> (try simp at h') <;> (try subst h')) | (with_reducible first | refine za ?_ ?_ | refine zb ?_ ?_ ?_ ?_ | refine zc ?_ ?_ ?_ ?_) | (with_reducible first | exact qaab | exact qaad) | ((with_reducible first | refine zga ?_ | refine zgb ?_); rfl) | ((with_reducible refine zgc ?_); (first | (with_reducible rfl) | rfl | (simp; done))) | ((with_reducible first | refine zgd ?_ | refine zge ?_); (first | omega | (simp; done))) | (exact Co.refl _) | (exact CoL.refl _) | ((refine qaai hJ ((k + 1, ?_, ?_)) ?_ ?_ ?_; rotate_left 2; (with_reducible refine qaah [] hm ?_ ?_ ?_ ?_) <;> (try simp only [zT, puth, Nat.reduceEqDiff, reduceIte, Nat.reduceAdd]))) | fail)
     all_goals exact ⟨by omega, g2.out⟩
   ·by_cases cb : z2 < (w.length : Int)
    ·rw [if_neg ca, if_pos cb] at g2
     replace g2 := Lib.hid g2
     repeat' (first | (with_reducible first | refine zA ?_ | refine qaae ?_ | refine zK ?_) | ((with_reducible first | refine qaac ?_ | refine qaaz (by rw [hP]; exact qacz) ?_); (try rw [hP]); simp -implicitDefEqProofs [hgi, hx, hak, hac, wk1, ha0, ha1, wa, hga, hxa, ca, cb, *]) | ((with_reducible refine qaaf ?_); (try simp -implicitDefEqProofs [hgi, hx, hak, hac, wk1, ha0, ha1, wa, hga, hxa, ca, cb, *])) | ((with_reducible refine qaaa rfl (fun h => ?_) (fun h => ?_)) <;> have h' := h <;> (try simp at h') <;> (try subst h')) | (with_reducible first | refine za ?_ ?_ | refine zb ?_ ?_ ?_ ?_ | refine zc ?_ ?_ ?_ ?_) | (with_reducible first | exact qaab | exact qaad) | ((with_reducible first | refine zga ?_ | refine zgb ?_); rfl) | ((with_reducible refine zgc ?_); (first | (with_reducible rfl) | rfl | (simp; done))) | ((with_reducible first | refine zgd ?_ | refine zge ?_); (first | omega | (simp; done))) | (exact Co.refl _) | (exact CoL.refl _) | ((refine qaai hJ ((k + 1, ?_, ?_)) ?_ ?_ ?_; rotate_left 2; (with_reducible refine qaah [] hm ?_ ?_ ?_ ?_) <;> (try simp only [zT, puth, Nat.reduceEqDiff, reduceIte, Nat.reduceAdd]))) | fail)
     all_goals exact ⟨by omega, g2.out⟩
    ·rw [if_neg ca, if_neg cb] at g2
     replace g2 := Lib.hid g2
     repeat' (first | (with_reducible first | refine zA ?_ | refine qaae ?_ | refine zK ?_) | ((with_reducible first | refine qaac ?_ | refine qaaz (by rw [hP]; exact qacz) ?_); (try rw [hP]); simp -implicitDefEqProofs [hgi, hx, hak, hac, wk1, ha0, ha1, wa, hga, hxa, ca, cb, *]) | ((with_reducible refine qaaf ?_); (try simp -implicitDefEqProofs [hgi, hx, hak, hac, wk1, ha0, ha1, wa, hga, hxa, ca, cb, *])) | ((with_reducible refine qaaa rfl (fun h => ?_) (fun h => ?_)) <;> have h' := h <;> (try simp at h') <;> (try subst h')) | (with_reducible first | refine za ?_ ?_ | refine zb ?_ ?_ ?_ ?_ | refine zc ?_ ?_ ?_ ?_) | (with_reducible first | exact qaab | exact qaad) | ((with_reducible first | refine zga ?_ | refine zgb ?_); rfl) | ((with_reducible refine zgc ?_); (first | (with_reducible rfl) | rfl | (simp; done))) | ((with_reducible first | refine zgd ?_ | refine zge ?_); (first | omega | (simp; done))) | (exact Co.refl _) | (exact CoL.refl _) | ((refine qaai hJ ((k + 1, ?_, ?_)) ?_ ?_ ?_; rotate_left 2; (with_reducible refine qaah [] hm ?_ ?_ ?_ ?_) <;> (try simp only [zT, puth, Nat.reduceEqDiff, reduceIte, Nat.reduceAdd]))) | fail)
     all_goals exact ⟨by omega, g2.out⟩
  ·obtain rfl : k = ac.length := by omega
   rw [List.drop_length] at g2
   have g3 : F = (z1, z2) := g2
   rw [g3] at hrow
   clear hJ g2 g3 hF
   have hbm : M.length + 1 ≤ maxLen := by unfold maxLen; omega
   repeat' (first | (with_reducible refine zA ?_) | ((with_reducible refine qaac ?_); (try rw [hP]); simp -implicitDefEqProofs [hgi, hx, hlr, wi, *]) | ((with_reducible refine qaak ?_); (try simp -implicitDefEqProofs [hgi, hx, hlr, wi, *])) | ((with_reducible refine qaaa rfl (fun h => ?_) (fun h => ?_)) <;> have h' := h <;> (try simp at h') <;> (try subst h')) | ((with_reducible refine qabo ?_ ?_); (first | omega | (unfold maxLen; omega)); simp -implicitDefEqProofs [hgi, hx, hlr, wi, *]) | (with_reducible first | refine za ?_ ?_ | refine zb ?_ ?_ ?_ ?_ | refine zc ?_ ?_ ?_ ?_) | (with_reducible first | exact qaab | exact qaad) | ((with_reducible first | refine zga ?_ | refine zgb ?_); rfl) | ((with_reducible first | refine zgd ?_ | refine zge ?_); (first | omega | (simp; done))) | (exact Co.refl _) | (exact CoL.refl _) | ((refine qaai hJo (i + 1) ?_ ?_ ?_; (with_reducible refine qaah [(4, ?_)] hm ?_ ?_ ?_ ?_) <;> (try simp only [zT, puth, Nat.reduceEqDiff, reduceIte, Nat.reduceAdd]))) | fail)
   all_goals first | exact hrow.out.symm | omega
 ·obtain rfl : i = p.tabs.length := by omega
  have hrow : (p.tabs.take p.tabs.length).map (shpC p) = shpL p := by rw [List.take_length]
  rw [hrow]
  have hll : (shpL p).length = p.tabs.length := List.length_map ..
  repeat' (first | (with_reducible refine zA ?_) | ((with_reducible refine qaac ?_); (try rw [hP]); simp -implicitDefEqProofs [*]) | ((with_reducible refine qaak ?_); (try simp -implicitDefEqProofs [*])) | ((with_reducible refine qaam ?_); (try simp only [qaap, qaag, qaaj])) | ((with_reducible refine qaaa rfl (fun h => ?_) (fun h => ?_)) <;> have h' := h <;> (try simp at h') <;> (try subst h')) | (refine qaiv hm rfl rfl ?_ rfl) | fail)
  all_goals simp
end Go.Proofs.YteoijlmgiemffaaGreat
namespace Go.Proofs.YteoijlmgiemffaaGreat
set_option linter.all false
open Go.RowKit
attribute [local simp] qabi qabh qaax qaa7 qaay qaa6 qabf qabg qaar qabr SOp.run SX.ev putd puts argS upds SOp.touch SSt.keep SSt.skip gets geth puth delh idOf SV.cells? setL qadh qadi sbin eq0 eq1 eqL qadf qab9 qaca qaap qabk qaag qabl qabs qaaj qaaq FrzOk qaba qaa1 qaa8 qaa9 qaat qaa0 qabm qaa2 qaav qabb qaau frzS frzH frz frz1 frz0 SlotsM ObjsM ObjM rn ren ren1 ren0 qabu qab7 qacf qabt qabn qacg qace CoL qabc qab3 dels adds idsH qabz
attribute [local simp] qadt refc qaes qaei qab8 opc actc tabc qaea qacm nums
theorem qag0 (m b : BitVec 64) : IntKind.u64.wrap ((m.toNat : Int) - ((m &&& b).toNat : Int)) = ((m &&& ~~~b).toNat : Int) := by
 have hz : (m &&& b) &&& (m &&& ~~~b) = 0#64 := by
  ext i hi
  simp only [BitVec.getElem_and, BitVec.getElem_not, BitVec.getElem_zero]
  cases m[i] <;> cases b[i] <;> rfl
 have ho : (m &&& b) ||| (m &&& ~~~b) = m := by
  ext i hi
  simp only [BitVec.getElem_or, BitVec.getElem_and, BitVec.getElem_not]
  cases m[i] <;> cases b[i] <;> rfl
 have ha := BitVec.toNat_add_of_and_eq_zero hz
 rw [BitVec.add_eq_or_of_and_eq_zero _ _ hz, ho] at ha
 have e : (m.toNat : Int) - ((m &&& b).toNat : Int) = ((m &&& ~~~b).toNat : Int) := by omega
 rw [e]
 exact qaki (by omega) (by have := (m &&& ~~~b).isLt; omega)
set_option maxHeartbeats 4000000 in
theorem qbho (p : PlanD) (k : Nat) (hk : k < p.acts.length) (hal : p.acts.length ≤ 1000) (hops : ∀ o ∈ p.acts[k].ops, OpOk p o) (h6 : p.heads.length ≤ 6) (hol : p.acts[k].ops.length ≤ 1000) (htl : ∀ o ∈ p.acts[k].ops, o.e.length ≤ 1000) (m : BitVec 64) (q : Nat) :
  SCalls Tryz.prog 54 [.agg (qacm p), .int .i64 k, .int .u64 m.toNat] [] q (.tup [.int .u64 (opsM p.acts[k].ops m).toNat, .bool (qac3 p.acts[k].ops m)]) [] := by
 refine qabj ?_ (fun _ => rfl) (fun _ => rfl) rfl q
 refine qaas (N := 92) Tryz.func54 rfl rfl (by kernel_rfl) qaon (by simp) (by repeat' (first | exact trivial | refine And.intro ?_ ?_ | rfl | decide | exact PureR.ren _)) (by repeat' (first | exact trivial | refine And.intro ?_ ?_ | rfl | decide | exact PureR.ren _)) ?_
 rintro X hP hN hm
 unfold c_rbact
 have hF : qac3 p.acts[k].ops m = (false || qac3 (p.acts[k].ops.drop 0) m) := rfl
 have hM : opsM p.acts[k].ops m = opsM (p.acts[k].ops.drop 0) m := rfl
 generalize qac3 p.acts[k].ops m = F at hF
 generalize opsM p.acts[k].ops m = M at hM
 generalize hxx : p.acts[k] = x at hF hM hops hol htl
 generalize hyy : x.ops = ops at hF hM hops hol htl
 replace hF := Lib.hid hF
 replace hM := Lib.hid hM
 replace hops := Lib.hid hops
 replace htl := Lib.hid htl
 repeat' (first | (with_reducible refine zA ?_) | ((with_reducible refine qaac ?_); (try rw [hP]); simp -implicitDefEqProofs [*]) | fail)
 refine qaal (qaa5 (fun s (z : Nat × Bool × BitVec 64) => s.turn [(2, .int .u64 z.2.2.toNat), (8, .bool z.2.1), (9, .int .i64 z.1)] []) (fun z => z.1 ≤ ops.length ∧ F = (z.2.1 || qac3 (ops.drop z.1) z.2.2) ∧ M = opsM (ops.drop z.1) z.2.2) (fun z => ops.length - z.1) (0, false, m) ?_ ⟨by simp, hF.out, hM.out⟩ ?_)
 ·repeat' (first | ((with_reducible refine qaah [] hm ?_ ?_ ?_ ?_) <;> (try simp only [zT, puth, Nat.reduceEqDiff, reduceIte, Nat.reduceAdd])) | (with_reducible first | refine za ?_ ?_ | refine zb ?_ ?_ ?_ ?_) | (with_reducible first | exact qaab | exact qaad) | ((with_reducible first | refine zga ?_ | refine zgb ?_); rfl) | ((with_reducible refine zgd ?_); (first | omega | (simp; done))) | (exact Co.refl _) | (exact CoL.refl _) | fail)
 rintro J hJ ⟨i, bb, mm⟩ ⟨h1, h2, h3⟩
 unfold qama
 simp only [zT, puth, Nat.reduceEqDiff, reduceIte, Nat.reduceAdd] at h1 h2 h3 ⊢
 clear hF hM
 rcases Nat.lt_or_ge i ops.length with hi | hi
 ·have ok := hops.out ops[i] (List.getElem_mem hi)
  have hel := htl.out ops[i] (List.getElem_mem hi)
  rw [List.drop_eq_getElem_cons hi] at h2 h3
  generalize hoo : ops[i] = o at ok hel h2 h3
  have h2' : F = ((bb || qacq o mm) || qac3 (ops.drop (i + 1)) (qaf3 o mm)) := by rw [h2, Bool.or_assoc]; rfl
  have h3' : M = opsM (ops.drop (i + 1)) (qaf3 o mm) := h3
  clear h2 h3
  have wi : IntKind.i64.wrap ((i : Int) + 1) = (i : Int) + 1 := qaao (by omega) (by omega)
  have kinds : o.kind = 1 ∨ o.kind = 2 ∨ o.kind = 3 ∨ o.kind = 4 ∨ o.kind = 5 ∨ o.kind = 6 := by have := ok.kind; omega
  have htree := fun hx q => qa49 p o.e mm hx h6 hel q
  have href := fun hx q => qa5b o.r mm hx q
  have hbit := fun h0 h1 q => qat4 o.head h0 h1 q
  have okr := ok.ref
  have oke := ok.ex
  have okh := ok.head
  clear ok
  replace htree := Lib.hid htree
  replace href := Lib.hid href
  replace hbit := Lib.hid hbit
  rcases kinds with kk | kk | kk | kk | kk | kk
  ·have hb : qacq o mm = (qad7 o.e mm || qaet o.r mm) := by unfold qacq; rw [if_pos kk]
   have hd : qaf3 o mm = mm := by unfold qaf3; rw [if_neg (by omega), if_neg (by omega)]
   have k1 : (o.kind == 1) = true := by simpa using kk
   rw [hd, hb] at h2'
   rw [hd] at h3'
   have hte := fun q => htree.out (oke (.inl kk)) q
   have hre := fun q => href.out (by have := okr (.inl kk); omega) q
   generalize qad7 o.e mm = G1 at h2' hte
   generalize qaet o.r mm = G2 at h2' hre
   clear kk okr oke okh hb hd
   replace h3' := Lib.hid h3'
   replace hte := Lib.hid hte
   replace hre := Lib.hid hre
   cases bb <;> cases G1
   all_goals
    replace h2' := Lib.hid h2'
    repeat' (first | (with_reducible first | refine zA ?_ | refine qaae ?_) | ((with_reducible refine qaac ?_); (try rw [hP]); simp -implicitDefEqProofs [*]) | ((with_reducible refine qaaf ?_); (try simp -implicitDefEqProofs [*])) | ((with_reducible refine qaaa rfl (fun h => ?_) (fun h => ?_)) <;> have h' := h <;> (try simp at h') <;> (try subst h')) | ((first | refine qaaw (hte.out _) ?_ | refine qaaw (hre.out _) ?_); simp -implicitDefEqProofs [*]) | (with_reducible first | refine za ?_ ?_ | refine zb ?_ ?_ ?_ ?_) | (with_reducible first | exact qaab | exact qaad) | ((with_reducible first | refine zga ?_ | refine zgb ?_); rfl) | ((with_reducible first | refine zgd ?_ | refine zge ?_); (first | omega | (simp; done))) | (exact Co.refl _) | (exact CoL.refl _) | ((refine qaai hJ (i + 1, ?_, mm) ?_ ?_ ?_; rotate_left 1; (with_reducible refine qaah [] hm ?_ ?_ ?_ ?_) <;> (try simp only [zT, puth, Nat.reduceEqDiff, reduceIte, Nat.reduceAdd]))) | fail)
    all_goals (try dsimp only)
    all_goals (exact ⟨by omega, h2'.out, h3'.out⟩)
  ·have hb : qacq o mm = false := by unfold qacq; rw [if_neg (by omega), if_neg (by omega), if_neg (by omega)]
   have hd : qaf3 o mm = mm ||| bitB o.head := by unfold qaf3; rw [if_pos kk]
   have k1 : (o.kind == 1) = false := by rw [kk]; rfl
   have k5 : (o.kind == 5) = false := by rw [kk]; rfl
   have k6 : (o.kind == 6) = false := by rw [kk]; rfl
   have k2 : (o.kind == 2) = true := by simpa using kk
   have hh := okh (.inl kk)
   rw [hd, hb, Bool.or_false] at h2'
   rw [hd] at h3'
   have hbi := fun q => hbit.out hh.1 (by omega) q
   obtain ⟨MM, hMM⟩ : ∃ MM, mm ||| bitB o.head = MM := ⟨_, rfl⟩
   rw [hMM] at h2' h3'
   clear kk okr oke okh hb hd
   replace h2' := Lib.hid h2'
   replace h3' := Lib.hid h3'
   replace hbi := Lib.hid hbi
   repeat' (first | (with_reducible first | refine zA ?_ | refine qaae ?_) | ((with_reducible refine qaac ?_); (try rw [hP]); simp -implicitDefEqProofs [-BitVec.toNat_or, qabq, *]) | ((with_reducible refine qaaf ?_); (try simp -implicitDefEqProofs [-BitVec.toNat_or, qabq, *])) | ((with_reducible refine qaaa rfl (fun h => ?_) (fun h => ?_)) <;> have h' := h <;> (try simp at h') <;> (try subst h')) | (refine qaaw (hbi.out _) ?_; simp -implicitDefEqProofs [-BitVec.toNat_or, qabq, *]) | (with_reducible first | refine za ?_ ?_ | refine zb ?_ ?_ ?_ ?_) | (with_reducible first | exact qaab | exact qaad) | ((with_reducible first | refine zga ?_ | refine zgb ?_); rfl) | ((with_reducible first | refine zgd ?_ | refine zge ?_); (first | omega | (simp; done))) | (exact Co.refl _) | (exact CoL.refl _) | ((refine qaai hJ (i + 1, bb, MM) ?_ ?_ ?_; (with_reducible refine qaah [] hm ?_ ?_ ?_ ?_) <;> (try simp only [zT, puth, Nat.reduceEqDiff, reduceIte, Nat.reduceAdd]))) | fail)
   all_goals (try dsimp only)
   all_goals (exact ⟨by omega, h2'.out, h3'.out⟩)
  ·have hb : qacq o mm = false := by unfold qacq; rw [if_neg (by omega), if_neg (by omega), if_neg (by omega)]
   have hd : qaf3 o mm = mm &&& ~~~(bitB o.head) := by unfold qaf3; rw [if_neg (by omega), if_pos kk]
   have k1 : (o.kind == 1) = false := by rw [kk]; rfl
   have k5 : (o.kind == 5) = false := by rw [kk]; rfl
   have k6 : (o.kind == 6) = false := by rw [kk]; rfl
   have k2 : (o.kind == 2) = false := by rw [kk]; rfl
   have k3 : (o.kind == 3) = true := by simpa using kk
   have hh := okh (.inr (.inl kk))
   rw [hd, hb, Bool.or_false] at h2'
   rw [hd] at h3'
   have hbi := fun q => hbit.out hh.1 (by omega) q
   clear kk okr oke okh hb hd
   replace h2' := Lib.hid h2'
   replace h3' := Lib.hid h3'
   replace hbi := Lib.hid hbi
   repeat' (first | (with_reducible first | refine zA ?_ | refine qaae ?_) | ((with_reducible refine qaac ?_); (try rw [hP]); simp -implicitDefEqProofs [-BitVec.toNat_and, -BitVec.toNat_not, qaa3, qag0, *]) | ((with_reducible refine qaaf ?_); (try simp -implicitDefEqProofs [-BitVec.toNat_and, -BitVec.toNat_not, qaa3, qag0, *])) | ((with_reducible refine qaaa rfl (fun h => ?_) (fun h => ?_)) <;> have h' := h <;> (try simp at h') <;> (try subst h')) | (refine qaaw (hbi.out _) ?_; simp -implicitDefEqProofs [-BitVec.toNat_and, -BitVec.toNat_not, qaa3, qag0, *]) | (with_reducible first | refine za ?_ ?_ | refine zb ?_ ?_ ?_ ?_) | (with_reducible first | exact qaab | exact qaad) | ((with_reducible first | refine zga ?_ | refine zgb ?_); rfl) | ((with_reducible first | refine zgd ?_ | refine zge ?_); (first | omega | (simp; done))) | (exact Co.refl _) | (exact CoL.refl _) | ((refine qaai hJ (i + 1, bb, mm &&& ~~~(bitB o.head)) ?_ ?_ ?_; (with_reducible refine qaah [] hm ?_ ?_ ?_ ?_) <;> (try simp only [zT, puth, Nat.reduceEqDiff, reduceIte, Nat.reduceAdd]))) | fail)
   all_goals (try dsimp only)
   all_goals (exact ⟨by omega, h2'.out, h3'.out⟩)
  ·have hb : qacq o mm = false := by unfold qacq; rw [if_neg (by omega), if_neg (by omega), if_neg (by omega)]
   have hd : qaf3 o mm = mm := by unfold qaf3; rw [if_neg (by omega), if_neg (by omega)]
   have k1 : (o.kind == 1) = false := by rw [kk]; rfl
   have k2 : (o.kind == 2) = false := by rw [kk]; rfl
   have k3 : (o.kind == 3) = false := by rw [kk]; rfl
   have k5 : (o.kind == 5) = false := by rw [kk]; rfl
   have k6 : (o.kind == 6) = false := by rw [kk]; rfl
   rw [hd, hb, Bool.or_false] at h2'
   rw [hd] at h3'
   clear kk okr oke okh hb hd
   replace h2' := Lib.hid h2'
   replace h3' := Lib.hid h3'
   repeat' (first | (with_reducible first | refine zA ?_ | refine qaae ?_) | ((with_reducible refine qaac ?_); (try rw [hP]); simp -implicitDefEqProofs [*]) | ((with_reducible refine qaaf ?_); (try simp -implicitDefEqProofs [*])) | ((with_reducible refine qaaa rfl (fun h => ?_) (fun h => ?_)) <;> have h' := h <;> (try simp at h') <;> (try subst h')) | (with_reducible first | refine za ?_ ?_ | refine zb ?_ ?_ ?_ ?_) | (with_reducible first | exact qaab | exact qaad) | ((with_reducible first | refine zga ?_ | refine zgb ?_); rfl) | ((with_reducible first | refine zgd ?_ | refine zge ?_); (first | omega | (simp; done))) | (exact Co.refl _) | (exact CoL.refl _) | ((refine qaai hJ (i + 1, bb, mm) ?_ ?_ ?_; (with_reducible refine qaah [] hm ?_ ?_ ?_ ?_) <;> (try simp only [zT, puth, Nat.reduceEqDiff, reduceIte, Nat.reduceAdd]))) | fail)
   all_goals (try dsimp only)
   all_goals (exact ⟨by omega, h2'.out, h3'.out⟩)
  ·have hb : qacq o mm = qad7 o.e mm := by unfold qacq; rw [if_neg (by omega), if_pos kk]
   have hd : qaf3 o mm = mm := by unfold qaf3; rw [if_neg (by omega), if_neg (by omega)]
   have k1 : (o.kind == 1) = false := by rw [kk]; rfl
   have k5 : (o.kind == 5) = true := by simpa using kk
   rw [hd, hb] at h2'
   rw [hd] at h3'
   have hte := fun q => htree.out (oke (.inr kk)) q
   generalize qad7 o.e mm = G1 at h2' hte
   clear kk okr oke okh hb hd
   replace h3' := Lib.hid h3'
   replace hte := Lib.hid hte
   cases bb
   all_goals
    replace h2' := Lib.hid h2'
    repeat' (first | (with_reducible first | refine zA ?_ | refine qaae ?_) | ((with_reducible refine qaac ?_); (try rw [hP]); simp -implicitDefEqProofs [*]) | ((with_reducible refine qaaf ?_); (try simp -implicitDefEqProofs [*])) | ((with_reducible refine qaaa rfl (fun h => ?_) (fun h => ?_)) <;> have h' := h <;> (try simp at h') <;> (try subst h')) | (refine qaaw (hte.out _) ?_; simp -implicitDefEqProofs [*]) | (with_reducible first | refine za ?_ ?_ | refine zb ?_ ?_ ?_ ?_) | (with_reducible first | exact qaab | exact qaad) | ((with_reducible first | refine zga ?_ | refine zgb ?_); rfl) | ((with_reducible first | refine zgd ?_ | refine zge ?_); (first | omega | (simp; done))) | (exact Co.refl _) | (exact CoL.refl _) | ((refine qaai hJ (i + 1, ?_, mm) ?_ ?_ ?_; rotate_left 1; (with_reducible refine qaah [] hm ?_ ?_ ?_ ?_) <;> (try simp only [zT, puth, Nat.reduceEqDiff, reduceIte, Nat.reduceAdd]))) | fail)
    all_goals (try dsimp only)
    all_goals (exact ⟨by omega, h2'.out, h3'.out⟩)
  ·have hb : qacq o mm = ((mm &&& bitB o.head == 0) || qaet o.r mm) := by unfold qacq; rw [if_neg (by omega), if_neg (by omega), if_pos kk]
   have hd : qaf3 o mm = mm := by unfold qaf3; rw [if_neg (by omega), if_neg (by omega)]
   have k1 : (o.kind == 1) = false := by rw [kk]; rfl
   have k5 : (o.kind == 5) = false := by rw [kk]; rfl
   have k6 : (o.kind == 6) = true := by simpa using kk
   have hh := okh (.inr (.inr kk))
   rw [hd, hb] at h2'
   rw [hd] at h3'
   have hbi := fun q => hbit.out hh.1 (by omega) q
   have hre := fun q => href.out (by have := okr (.inr kk); omega) q
   generalize qaet o.r mm = G2 at h2' hre
   clear kk okr oke okh hb hd
   replace h3' := Lib.hid h3'
   replace hbi := Lib.hid hbi
   replace hre := Lib.hid hre
   cases hg : (mm &&& bitB o.head == 0#64) <;> cases bb
   all_goals
    replace h2' := Lib.hid h2'
    repeat' (first | (with_reducible first | refine zA ?_ | refine qaae ?_) | ((with_reducible refine qaac ?_); (try rw [hP]); simp -implicitDefEqProofs [-BitVec.toNat_and, qaa3, qacn, *]) | ((with_reducible refine qaaf ?_); (try simp -implicitDefEqProofs [-BitVec.toNat_and, qaa3, qacn, *])) | ((with_reducible refine qaaa rfl (fun h => ?_) (fun h => ?_)) <;> have h' := h <;> (try simp at h') <;> (try subst h')) | ((first | refine qaaw (hbi.out _) ?_ | refine qaaw (hre.out _) ?_); simp -implicitDefEqProofs [-BitVec.toNat_and, qaa3, qacn, *]) | (with_reducible first | refine za ?_ ?_ | refine zb ?_ ?_ ?_ ?_) | (with_reducible first | exact qaab | exact qaad) | ((with_reducible first | refine zga ?_ | refine zgb ?_); rfl) | ((with_reducible first | refine zgd ?_ | refine zge ?_); (first | omega | (simp; done))) | (exact Co.refl _) | (exact CoL.refl _) | ((refine qaai hJ (i + 1, ?_, mm) ?_ ?_ ?_; rotate_left 1; (with_reducible refine qaah [] hm ?_ ?_ ?_ ?_) <;> (try simp only [zT, puth, Nat.reduceEqDiff, reduceIte, Nat.reduceAdd]))) | fail)
    all_goals (try dsimp only)
    all_goals first | (exact ⟨by omega, h2'.out, h3'.out⟩) | (exact ⟨by omega, by have := h2'.out; simpa [hg] using this, h3'.out⟩) | trace_state
 ·obtain rfl : i = ops.length := by omega
  rw [List.drop_length] at h2 h3
  have h4 : F = bb := by rw [h2]; exact Bool.or_false _
  have h5 : M = mm := h3
  subst h4
  subst h5
  clear h2 h3
  repeat' (first | (with_reducible refine zA ?_) | ((with_reducible refine qaac ?_); (try rw [hP]); simp -implicitDefEqProofs [*]) | ((with_reducible refine qaak ?_); (try simp -implicitDefEqProofs [*])) | ((with_reducible refine qaam ?_); (try simp only [qaap, qaag, qaaj])) | ((with_reducible refine qaaa rfl (fun h => ?_) (fun h => ?_)) <;> have h' := h <;> (try simp at h') <;> (try subst h')) | (refine fin_tt hm (by decide) rfl rfl (fun _ => rfl) (fun _ => rfl)) | fail)
end Go.Proofs.YteoijlmgiemffaaGreat
namespace Go.Proofs.YteoijlmgiemffaaGreat
set_option linter.all false
open Go.RowKit
attribute [local simp] qabi qabh qaax qaa7 qaay qaa6 qabf qabg qaar qabr SOp.run SX.ev putd puts argS upds SOp.touch SSt.keep SSt.skip gets geth puth delh idOf SV.cells? setL qadh qadi sbin eq0 eq1 eqL qadf qab9 qaca qaap qabk qaag qabl qabs qaaj qaaq FrzOk qaba qaa1 qaa8 qaa9 qaat qaa0 qabm qaa2 qaav qabb qaau frzS frzH frz frz1 frz0 SlotsM ObjsM ObjM rn ren ren1 ren0 qabu qab7 qacf qabt qabn qacg qace CoL qabc qab3 dels adds idsH qabz
attribute [local simp] qadt refc qaes qaei qab8 opc actc tabc qaea qacm nums
set_option maxHeartbeats 4000000 in
theorem qa5f (p : PlanD) (hf : FOk p) (hp : PlOk p) (hs : SmallP p) (i : Nat) (hi : i < p.nodes.length) (m : BitVec 64) (q : Nat) :
  SCalls Tryz.prog 23 [.agg (qacm p), .int .i64 i, .int .u64 m.toNat] [] q (.tup [.int .u64 (qacp p p.nodes[i] m).toNat, .int .u64 (qadr p.nodes[i] m).toNat, .bool (qacx p p.nodes[i] m)]) [] := by
 refine qabj ?_ (fun _ => rfl) (fun _ => rfl) rfl q
 refine qaas (N := 112) Tryz.func23 rfl rfl (by kernel_rfl) qalf (by simp) (by repeat' (first | exact trivial | refine And.intro ?_ ?_ | rfl | decide | exact PureR.ren _)) (by repeat' (first | exact trivial | refine And.intro ?_ ?_ | rfl | decide | exact PureR.ren _)) ?_
 rintro X hP hN hm
 unfold c_rbnode
 have hns := hs.nodes
 have hac0 := hs.acts
 have h6 : p.heads.length ≤ 6 := hp.heads
 have ok := hf.nodes i hi
 have hnt := hs.node _ (List.getElem_mem hi)
 have hkind := ok.kind
 generalize hxx : p.nodes[i] = x at ok hnt hkind
 rcases hkind with kk | kk | kk | kk
 ·have hnn := ok.tab kk
  have hlt : x.n.toNat < p.tabs.length := by omega
  have hto : qbij p x.n = p.tabs[x.n.toNat] := by unfold qbij; rw [List.getElem?_eq_getElem hlt]; rfl
  have hB : qacx p x m = ((false || (p.tabs[x.n.toNat].keys.drop 0).any (fun r => qaet r m)) || (p.tabs[x.n.toNat].acts.drop 0).any (fun a => qac3 (qac6 p a) m)) := by unfold qacx; rw [if_pos kk, hto]; rfl
  have hY : qacp p x m = yesT p m (p.tabs[x.n.toNat].acts.drop 0) allB := by unfold qacp; rw [if_pos kk, hto]; rfl
  have hN2 : qadr x m = m := by unfold qadr; rw [if_neg (by omega)]
  have hkeys := hf.keys _ (List.getElem_mem hlt)
  have htac := hf.tacts _ (List.getElem_mem hlt)
  have hkl := hs.keys _ (List.getElem_mem hlt)
  rw [hB, hY, hN2]
  obtain ⟨E1, hE1⟩ : ∃ z, z = (false || (p.tabs[x.n.toNat].keys.drop 0).any (fun r => qaet r m)) := ⟨_, rfl⟩
  rw [← hE1]
  obtain ⟨F, hF⟩ : ∃ F, F = (E1 || (p.tabs[x.n.toNat].acts.drop 0).any (fun a => qac3 (qac6 p a) m)) := ⟨_, rfl⟩
  rw [← hF]
  obtain ⟨YY, hYY⟩ : ∃ YY, YY = yesT p m (p.tabs[x.n.toNat].acts.drop 0) allB := ⟨_, rfl⟩
  rw [← hYY]
  have k1 : (x.kind == 1) = true := by simpa using kk
  have hre := fun r hr q => qa5b r m hr q
  have hao : ∀ k : Int, ∀ h0 : 0 ≤ k ∧ k < p.acts.length, qac6 p k = (p.acts[k.toNat]'(by omega)).ops := fun k h0 => by unfold qac6; rw [List.getElem?_eq_getElem (by omega)]; rfl
  have hac : ∀ (k : Int) (h0 : 0 ≤ k ∧ k < p.acts.length) (q : Nat), SCalls Tryz.prog 54 [.agg (qacm p), .int .i64 k, .int .u64 m.toNat] [] q (.tup [.int .u64 (opsM (qac6 p k) m).toNat, .bool (qac3 (qac6 p k) m)]) [] := fun k h0 q => by
   have := qbho p k.toNat (by omega) (by omega) (hf.ops _ (List.getElem_mem (by omega))) h6 (hs.ops _ (List.getElem_mem (by omega))) (hs.tree _ (List.getElem_mem (by omega))) m q
   rw [show ((k.toNat : Nat) : Int) = k by omega] at this
   rw [hao k h0]; exact this
  generalize htt : p.tabs[x.n.toNat] = t at hE1 hF hYY hkeys htac hkl
  have n0 := hnn.1
  have n1 := hnn.2
  clear hB kk hnn hto hY hN2
  replace ok := Lib.hid ok
  replace hf := Lib.hid hf
  replace hp := Lib.hid hp
  replace hs := Lib.hid hs
  replace hre := Lib.hid hre
  replace hac := Lib.hid hac
  replace hao := Lib.hid hao
  replace hkeys := Lib.hid hkeys
  replace htac := Lib.hid htac
  replace hE1 := Lib.hid hE1
  replace hF := Lib.hid hF
  replace hYY := Lib.hid hYY
  repeat' (first | (with_reducible first | refine zA ?_ | refine qaae ?_) | ((with_reducible refine qaac ?_); (try rw [hP]); simp -implicitDefEqProofs [*]) | ((with_reducible refine qaaa rfl (fun h => ?_) (fun h => ?_)) <;> have h' := h <;> (try simp at h') <;> (try subst h')) | fail)
  refine qaal (qaa5 (fun s (z : Nat × Bool) => s.turn [(11, .bool z.2), (12, .int .i64 z.1)] []) (fun z => z.1 ≤ t.keys.length ∧ E1 = (z.2 || (t.keys.drop z.1).any (fun r => qaet r m))) (fun z => t.keys.length - z.1) (0, false) ?_ ⟨by simp, hE1.out⟩ ?_)
  ·repeat' (first | ((with_reducible refine qaah [] hm ?_ ?_ ?_ ?_) <;> (try simp only [zT, puth, Nat.reduceEqDiff, reduceIte, Nat.reduceAdd])) | (with_reducible first | refine za ?_ ?_ | refine zb ?_ ?_ ?_ ?_) | (with_reducible first | exact qaab | exact qaad) | ((with_reducible first | refine zga ?_ | refine zgb ?_); rfl) | ((with_reducible refine zgd ?_); (first | omega | (simp; done))) | (exact Co.refl _) | (exact CoL.refl _) | fail)
  rintro J hJ ⟨j, bb⟩ ⟨h1, h2⟩
  unfold qajd
  simp only [zT, puth, Nat.reduceEqDiff, reduceIte, Nat.reduceAdd] at h1 h2 ⊢
  clear hE1
  rcases Nat.lt_or_ge j t.keys.length with hj | hj
  ·have hx := hkeys.out t.keys[j] (List.getElem_mem hj)
   rw [qac8 _ hj, ← Bool.or_assoc] at h2
   generalize hrr : t.keys[j] = r at hx h2
   have wj : IntKind.i64.wrap ((j : Int) + 1) = (j : Int) + 1 := qaao (by omega) (by omega)
   have hr2 := fun q => hre.out r (by omega) q
   generalize qaet r m = G at h2 hr2
   replace hr2 := Lib.hid hr2
   cases bb
   all_goals
    replace h2 := Lib.hid h2
    repeat' (first | (with_reducible first | refine zA ?_ | refine qaeh ?_) | ((with_reducible refine qaac ?_); (try rw [hP]); simp -implicitDefEqProofs [*]) | ((with_reducible refine qaaf ?_); (try simp -implicitDefEqProofs [*])) | ((with_reducible refine qaaa rfl (fun h => ?_) (fun h => ?_)) <;> have h' := h <;> (try simp at h') <;> (try subst h')) | (refine qaaw (hr2.out _) ?_; simp -implicitDefEqProofs [*]) | (with_reducible first | refine za ?_ ?_ | refine zb ?_ ?_ ?_ ?_) | (with_reducible first | exact qaab | exact qaad) | ((with_reducible first | refine zga ?_ | refine zgb ?_); rfl) | ((with_reducible first | refine zgd ?_ | refine zge ?_); (first | omega | (simp; done))) | (exact Co.refl _) | (exact CoL.refl _) | ((refine qaai hJ (j + 1, ?_) ?_ ?_ ?_; rotate_left 1; (with_reducible refine qaah [] hm ?_ ?_ ?_ ?_) <;> (try simp only [zT, puth, Nat.reduceEqDiff, reduceIte, Nat.reduceAdd]))) | fail)
    all_goals (try dsimp only)
    all_goals first | (exact ⟨by omega, h2.out⟩) | trace_state
  ·obtain rfl : j = t.keys.length := by omega
   rw [List.drop_length] at h2
   have h3 : E1 = bb := by rw [h2]; exact Bool.or_false _
   subst h3
   clear h2 hJ
   repeat' (first | (with_reducible refine zA ?_) | ((with_reducible refine qaac ?_); (try rw [hP]); simp -implicitDefEqProofs [*]) | ((with_reducible refine qaak ?_); (try simp -implicitDefEqProofs [*])) | ((with_reducible refine qaaa rfl (fun h => ?_) (fun h => ?_)) <;> have h' := h <;> (try simp at h') <;> (try subst h')) | fail)
   refine qaal (qaa5 (fun s (z : Nat × Bool × BitVec 64) => s.turn [(11, .bool z.2.1), (13, .int .u64 z.2.2.toNat), (14, .int .i64 z.1)] []) (fun z => z.1 ≤ t.acts.length ∧ F = (z.2.1 || (t.acts.drop z.1).any (fun a => qac3 (qac6 p a) m)) ∧ YY = yesT p m (t.acts.drop z.1) z.2.2) (fun z => t.acts.length - z.1) (0, E1, allB) ?_ ⟨by simp, hF.out, hYY.out⟩ ?_)
   ·repeat' (first | ((with_reducible refine qaah [] hm ?_ ?_ ?_ ?_) <;> (try simp only [zT, puth, Nat.reduceEqDiff, reduceIte, Nat.reduceAdd])) | (with_reducible first | refine za ?_ ?_ | refine zb ?_ ?_ ?_ ?_) | (with_reducible first | exact qaab | exact qaad) | ((with_reducible first | refine zga ?_ | refine zgb ?_); rfl) | ((with_reducible refine zgd ?_); (first | omega | (simp; done))) | (exact Co.refl _) | (exact CoL.refl _) | fail)
    all_goals trace_state
   rintro J hJ ⟨j, bb, y⟩ ⟨h1, h2, h4⟩
   unfold qajc
   simp only [zT, puth, Nat.reduceEqDiff, reduceIte, Nat.reduceAdd] at h1 h2 h4 ⊢
   clear hF hYY
   rcases Nat.lt_or_ge j t.acts.length with hj | hj
   ·have hx := htac.out t.acts[j] (List.getElem_mem hj)
    rw [List.drop_eq_getElem_cons hj] at h2 h4
    generalize hrr : t.acts[j] = k at hx h2 h4
    have h2' : F = ((bb || qac3 (qac6 p k) m) || (t.acts.drop (j + 1)).any (fun a => qac3 (qac6 p a) m)) := by rw [h2, Bool.or_assoc]; rfl
    have h4' : YY = yesT p m (t.acts.drop (j + 1)) (y &&& opsM (qac6 p k) m) := h4
    have wj : IntKind.i64.wrap ((j : Int) + 1) = (j : Int) + 1 := qaao (by omega) (by omega)
    have hr2 := fun q => hac.out k hx q
    obtain ⟨YN, hYN⟩ : ∃ YN, y &&& opsM (qac6 p k) m = YN := ⟨_, rfl⟩
    rw [hYN] at h4'
    generalize qac3 (qac6 p k) m = G at h2' hr2
    generalize opsM (qac6 p k) m = O at hYN hr2
    clear h2 h4
    replace h4' := Lib.hid h4'
    replace hr2 := Lib.hid hr2
    cases bb
    all_goals
     replace h2' := Lib.hid h2'
     repeat' (first | (with_reducible first | refine zA ?_ | refine qaae ?_ | refine zK ?_) | ((with_reducible first | refine qaac ?_ | refine qaaz (by rw [hP]; exact qacz) ?_); (try rw [hP]); simp -implicitDefEqProofs [-BitVec.toNat_and, qaa3, *]) | ((with_reducible refine qaaf ?_); (try simp -implicitDefEqProofs [-BitVec.toNat_and, qaa3, *])) | ((with_reducible refine qaaa rfl (fun h => ?_) (fun h => ?_)) <;> have h' := h <;> (try simp at h') <;> (try subst h')) | (refine qaaw (hr2.out _) ?_; simp -implicitDefEqProofs [-BitVec.toNat_and, qaa3, *]) | (with_reducible first | refine za ?_ ?_ | refine zb ?_ ?_ ?_ ?_) | (with_reducible first | exact qaab | exact qaad) | ((with_reducible first | refine zga ?_ | refine zgb ?_); rfl) | ((with_reducible first | refine zgd ?_ | refine zge ?_); (first | omega | (simp; done))) | (exact Co.refl _) | (exact CoL.refl _) | ((refine qaai hJ (j + 1, ?_, YN) ?_ ?_ ?_; rotate_left 1; (with_reducible refine qaah [] hm ?_ ?_ ?_ ?_) <;> (try simp only [zT, puth, Nat.reduceEqDiff, reduceIte, Nat.reduceAdd]))) | fail)
     all_goals (try dsimp only)
     all_goals first | (exact ⟨by omega, h2'.out, h4'.out⟩) | trace_state
   ·obtain rfl : j = t.acts.length := by omega
    rw [List.drop_length] at h2 h4
    have h3 : F = bb := by rw [h2]; exact Bool.or_false _
    have h5 : YY = y := h4
    subst h3 h5
    clear h2 h4
    repeat' (first | (with_reducible refine zA ?_) | ((with_reducible refine qaac ?_); (try rw [hP]); simp -implicitDefEqProofs [*]) | ((with_reducible refine qaak ?_); (try simp -implicitDefEqProofs [*])) | ((with_reducible refine qaam ?_); (try simp only [qaap, qaag, qaaj])) | ((with_reducible refine qaaa rfl (fun h => ?_) (fun h => ?_)) <;> have h' := h <;> (try simp at h') <;> (try subst h')) | (refine qatd hm (by decide) (by decide) (by decide) rfl rfl rfl (fun _ => rfl) (fun _ => rfl) (fun _ => rfl)) | fail)
 ·have hnn := ok.act kk
  have hlt : x.n.toNat < p.acts.length := by omega
  have hao : qac6 p x.n = p.acts[x.n.toNat].ops := by unfold qac6; rw [List.getElem?_eq_getElem hlt]; rfl
  have hB : qacx p x m = qac3 p.acts[x.n.toNat].ops m := by unfold qacx; rw [if_neg (by omega), if_pos kk, hao]
  have hY : qacp p x m = opsM p.acts[x.n.toNat].ops m := by unfold qacp; rw [if_neg (by omega), if_pos kk, hao]
  have hN2 : qadr x m = m := by unfold qadr; rw [if_neg (by omega)]
  have hact := fun q => qbho p x.n.toNat hlt (by omega) (hf.ops _ (List.getElem_mem hlt)) h6 (hs.ops _ (List.getElem_mem hlt)) (hs.tree _ (List.getElem_mem hlt)) m q
  rw [show ((x.n.toNat : Nat) : Int) = x.n by omega] at hact
  rw [hB, hY, hN2]
  have k1 : (x.kind == 1) = false := by rw [kk]; rfl
  have k2 : (x.kind == 2) = true := by simpa using kk
  generalize qac3 p.acts[x.n.toNat].ops m = B at hact
  generalize opsM p.acts[x.n.toNat].ops m = YY at hact
  clear hB hao kk hnn hY hN2
  replace ok := Lib.hid ok
  replace hf := Lib.hid hf
  replace hp := Lib.hid hp
  replace hs := Lib.hid hs
  replace hact := Lib.hid hact
  repeat' (first | (with_reducible first | refine zA ?_ | refine qaae ?_) | ((with_reducible refine qaac ?_); (try rw [hP]); simp -implicitDefEqProofs [*]) | ((with_reducible refine qaam ?_); (try simp only [qaap, qaag, qaaj])) | ((with_reducible refine qaaa rfl (fun h => ?_) (fun h => ?_)) <;> have h' := h <;> (try simp at h') <;> (try subst h')) | (refine qaaw (hact.out _) ?_; simp -implicitDefEqProofs [*]) | (refine qatd hm (by decide) (by decide) (by decide) rfl rfl rfl (fun _ => rfl) (fun _ => rfl) (fun _ => rfl)) | fail)
 ·have hB : qacx p x m = qad7 x.e m := by unfold qacx; rw [if_neg (by omega), if_neg (by omega), if_pos kk]
  have hY : qacp p x m = m := by unfold qacp; rw [if_neg (by omega), if_neg (by omega), if_pos kk]
  have hN2 : qadr x m = m := by unfold qadr; rw [if_neg (by omega)]
  have htr := fun q => qa49 p x.e m (ok.ex kk) h6 hnt q
  rw [hB, hY, hN2]
  have k1 : (x.kind == 1) = false := by rw [kk]; rfl
  have k2 : (x.kind == 2) = false := by rw [kk]; rfl
  have k3 : (x.kind == 3) = true := by simpa using kk
  generalize qad7 x.e m = B at htr
  clear hB kk hY hN2
  replace ok := Lib.hid ok
  replace hf := Lib.hid hf
  replace hp := Lib.hid hp
  replace hs := Lib.hid hs
  replace htr := Lib.hid htr
  repeat' (first | (with_reducible first | refine zA ?_ | refine qaae ?_) | ((with_reducible refine qaac ?_); (try rw [hP]); simp -implicitDefEqProofs [*]) | ((with_reducible refine qaam ?_); (try simp only [qaap, qaag, qaaj])) | ((with_reducible refine qaaa rfl (fun h => ?_) (fun h => ?_)) <;> have h' := h <;> (try simp at h') <;> (try subst h')) | (refine qaaw (htr.out _) ?_; simp -implicitDefEqProofs [*]) | (refine qatd hm (by decide) (by decide) (by decide) rfl rfl rfl (fun _ => rfl) (fun _ => rfl) (fun _ => rfl)) | fail)
 ·have hnn := ok.head kk
  have hB : qacx p x m = false := by unfold qacx; rw [if_neg (by omega), if_neg (by omega), if_neg (by omega)]
  have hY : qacp p x m = m ||| bitB x.n := by unfold qacp; rw [if_neg (by omega), if_neg (by omega), if_neg (by omega)]
  have hN2 : qadr x m = m &&& ~~~(bitB x.n) := by unfold qadr; rw [if_pos kk]
  have hbi := fun q => qat4 x.n hnn.1 (by omega) q
  rw [hB, hY, hN2]
  have k1 : (x.kind == 1) = false := by rw [kk]; rfl
  have k2 : (x.kind == 2) = false := by rw [kk]; rfl
  have k3 : (x.kind == 3) = false := by rw [kk]; rfl
  clear hB kk hY hN2
  replace ok := Lib.hid ok
  replace hf := Lib.hid hf
  replace hp := Lib.hid hp
  replace hs := Lib.hid hs
  replace hbi := Lib.hid hbi
  repeat' (first | (with_reducible first | refine zA ?_ | refine qaae ?_ | refine zK ?_) | ((with_reducible first | refine qaac ?_ | refine qaaz (by rw [hP]; exact qacz) ?_); (try rw [hP]); simp -implicitDefEqProofs [-BitVec.toNat_or, -BitVec.toNat_and, -BitVec.toNat_not, qabq, qaa3, qag0, *]) | ((with_reducible refine qaaf ?_); (try simp -implicitDefEqProofs [-BitVec.toNat_or, -BitVec.toNat_and, -BitVec.toNat_not, qabq, qaa3, qag0, *])) | ((with_reducible refine qaam ?_); (try simp only [qaap, qaag, qaaj])) | ((with_reducible refine qaaa rfl (fun h => ?_) (fun h => ?_)) <;> have h' := h <;> (try simp at h') <;> (try subst h')) | (refine qaaw (hbi.out _) ?_; simp -implicitDefEqProofs [-BitVec.toNat_or, -BitVec.toNat_and, -BitVec.toNat_not, qabq, qaa3, qag0, *]) | (refine qatd hm (by decide) (by decide) (by decide) rfl rfl rfl (fun _ => rfl) (fun _ => rfl) (fun _ => rfl)) | fail)
end Go.Proofs.YteoijlmgiemffaaGreat
namespace Go.Proofs.YteoijlmgiemffaaGreat
set_option linter.all false
open Go.RowKit
attribute [local simp] qabi qabh qaax qaa7 qaay qaa6 qabf qabg qaar qabr SOp.run SX.ev putd puts argS upds SOp.touch SSt.keep SSt.skip gets geth puth delh idOf SV.cells? setL qadh qadi sbin eq0 eq1 eqL qadf qab9 qaca qaap qabk qaag qabl qabs qaaj qaaq FrzOk qaba qaa1 qaa8 qaa9 qaat qaa0 qabm qaa2 qaav qabb qaau frzS frzH frz frz1 frz0 SlotsM ObjsM ObjM rn ren ren1 ren0 qabu qab7 qacf qabt qabn qacg qace CoL qabc qab3 dels adds idsH qabz
attribute [local simp] qadt refc qaes qaei qab8 opc actc tabc qaea qacm nums
def qahn (p : PlanD) (s : BitVec 64) (i j : Nat) : BitVec 64 := (atGo p s j).getD i allB
theorem qa4v {p : PlanD} (hf : FOk p) (s : BitVec 64) {i j : Nat} (hi : i ≤ p.nodes.length) (hj : j < i) : qahn p s i (j + 1) = if qahn p s j j = allB then qahn p s i j else qa5z p (p.nodes[j]'(by omega)) (qahn p s j j) i (qahn p s i j) := by
 have hlt : j < p.nodes.length := by omega
 have ok := hf.nodes j hlt
 unfold qahn
 rw [qahl p s hlt]
 by_cases ha : (atGo p s j).getD j allB = allB
 ·rw [if_pos ha]; unfold qa5v; rw [if_pos ha]
 ·rw [if_neg ha]
  exact qa5u (by rw [qadu]; omega) (by have := ok.yes; omega) (fun ht => by have := ok.no ht; omega) ha
theorem sureG_0 (p : PlanD) (s : BitVec 64) : qahn p s 0 0 = s := rfl
theorem sureG_s (p : PlanD) (s : BitVec 64) (i : Nat) (hi : i + 1 ≤ p.nodes.length) : qahn p s (i + 1) 0 = allB := by
 unfold qahn atGo
 rw [List.getD_eq_getElem?_getD, List.getElem?_set_ne (by omega), List.getElem?_replicate, if_pos (by omega)]; rfl
theorem qbd6 (S : BitVec 64) : ((S.toNat : Int) == 18446744073709551615) = (S == 18446744073709551615#64) := by
 rw [Bool.eq_iff_iff, beq_iff_eq, beq_iff_eq]
 constructor
 ·intro h
  have h2 : S.toNat = 18446744073709551615 := by omega
  apply BitVec.eq_of_toNat_eq
  rw [h2]; rfl
 ·intro h
  rw [h]; rfl
set_option maxHeartbeats 4000000 in
theorem rsure_s (p : PlanD) (hf : FOk p) (hp : PlOk p) (hs : SmallP p) (s : BitVec 64) (i : Nat) : i ≤ p.nodes.length → ∀ q, SCalls Tryz.prog 22 [.agg (qacm p), .int .u64 s.toNat, .int .i64 i] [] q (.int .u64 (qahn p s i i).toNat) [] := by
 induction i using Nat.strongRecOn with
 | ind i ih =>
 intro hi q
 refine qabj ?_ (fun _ => rfl) (fun _ => rfl) rfl q
 refine qaas (N := 82) Tryz.func22 rfl rfl (by kernel_rfl) qaoc (by simp) (by repeat' (first | exact trivial | refine And.intro ?_ ?_ | rfl | decide | exact PureR.ren _)) (by repeat' (first | exact trivial | refine And.intro ?_ ?_ | rfl | decide | exact PureR.ren _)) ?_
 rintro X hP hN hm
 unfold c_rsure
 have hns := hs.nodes
 by_cases h0 : i = 0
 ·subst h0
  rw [sureG_0]
  replace ih := Lib.hid ih
  replace hf := Lib.hid hf
  replace hp := Lib.hid hp
  replace hs := Lib.hid hs
  repeat' (first | (with_reducible refine zA ?_) | ((with_reducible refine qaac ?_); (try rw [hP]); simp -implicitDefEqProofs [*]) | ((with_reducible refine qaam ?_); (try simp only [qaap, qaag, qaaj])) | ((with_reducible refine qaaa rfl (fun h => ?_) (fun h => ?_)) <;> have h' := h <;> (try simp at h') <;> (try subst h')) | (with_reducible refine zM hm ?_) | fail)
  all_goals rfl
 obtain ⟨i', rfl⟩ : ∃ i', i = i' + 1 := ⟨i - 1, by omega⟩
 have hst := sureG_s p s i' hi
 generalize hii : i' + 1 = i at *
 have k0 : ((i : Int) == 0) = false := by simp; omega
 obtain ⟨F, hF⟩ : ∃ F, F = qahn p s i i := ⟨_, rfl⟩
 rw [← hF]
 have hrn := fun j hj m q => qa5f p hf hp hs j hj m q
 have hstep := fun j (hj : j < i) => qa4v hf s hi hj
 replace ih := Lib.hid ih
 replace hf := Lib.hid hf
 replace hp := Lib.hid hp
 replace hs := Lib.hid hs
 replace hF := Lib.hid hF
 replace hrn := Lib.hid hrn
 replace hstep := Lib.hid hstep
 replace hst := Lib.hid hst
 repeat' (first | (with_reducible refine zA ?_) | ((with_reducible refine qaac ?_); (try rw [hP]); simp -implicitDefEqProofs [*]) | ((with_reducible refine qaaf ?_); (try simp -implicitDefEqProofs [*])) | ((with_reducible refine qaaa rfl (fun h => ?_) (fun h => ?_)) <;> have h' := h <;> (try simp at h') <;> (try subst h')) | fail)
 refine qaal (qaa5 (fun st (z : Nat × BitVec 64) => st.turn [(7, .int .u64 z.2.toNat), (8, .int .i64 z.1)] []) (fun z => z.1 ≤ i ∧ z.2 = qahn p s i z.1) (fun z => i - z.1) (0, allB) ?_ ⟨by simp, hst.out.symm⟩ ?_)
 ·repeat' (first | ((with_reducible refine qaah [] hm ?_ ?_ ?_ ?_) <;> (try simp only [zT, puth, Nat.reduceEqDiff, reduceIte, Nat.reduceAdd])) | (with_reducible first | refine za ?_ ?_ | refine zb ?_ ?_ ?_ ?_) | (with_reducible first | exact qaab | exact qaad) | ((with_reducible first | refine zga ?_ | refine zgb ?_); rfl) | ((with_reducible refine zgd ?_); (first | omega | (simp; done))) | (exact Co.refl _) | (exact CoL.refl _) | fail)
  all_goals rfl
 rintro J hJ ⟨j, g⟩ ⟨h1, h2⟩
 unfold qals
 simp only [zT, puth, Nat.reduceEqDiff, reduceIte, Nat.reduceAdd] at h1 h2 ⊢
 rcases Nat.lt_or_ge j i with hj | hj
 ·have hlt : j < p.nodes.length := by omega
  have wj : IntKind.i64.wrap ((j : Int) + 1) = (j : Int) + 1 := qaao (by omega) (by omega)
  have hs1 := hstep.out j hj
  have hc := fun q => ih.out j hj (by omega) q
  have hr := fun q => hrn.out j hlt (qahn p s j j) q
  generalize qahn p s j j = S at hs1 hc hr
  rw [← h2] at hs1
  generalize hxx : p.nodes[j] = x at hs1 hr
  have hle : qa5z p x S i g = if x.yes = i then (if twoB x && decide (x.no = i) then (g &&& qacp p x S) &&& qadr x S else g &&& qacp p x S) else if twoB x && decide (x.no = i) then g &&& qadr x S else g := rfl
  have ht : twoB x = (decide (x.kind = 3) || decide (x.kind = 4)) := rfl
  rw [hle, ht] at hs1
  generalize qacp p x S = Y at hs1 hr
  generalize qadr x S = N at hs1 hr
  generalize qacx p x S = B at hr
  clear hle ht
  generalize hG : qahn p s i (j + 1) = G' at hs1
  obtain ⟨A1, hA1⟩ : ∃ A, g &&& Y = A := ⟨_, rfl⟩
  obtain ⟨A2, hA2⟩ : ∃ A, A1 &&& N = A := ⟨_, rfl⟩
  obtain ⟨A3, hA3⟩ : ∃ A, g &&& N = A := ⟨_, rfl⟩
  rw [hA1, hA2, hA3] at hs1
  replace hc := Lib.hid hc
  replace hr := Lib.hid hr
  replace hG := Lib.hid hG
  clear h2
  cases k3 : (x.kind == 3) <;> cases k4 : (x.kind == 4) <;> cases ky : (x.yes == (i : Int)) <;> cases kn : (x.no == (i : Int)) <;> cases ks : (S == 18446744073709551615#64)
  all_goals
   have hs2 : G' = _ := hs1
   simp only [show (x.kind = 3) ↔ ((x.kind == 3) = true) by simp, show (x.kind = 4) ↔ ((x.kind == 4) = true) by simp, show (x.yes = (i : Int)) ↔ ((x.yes == (i : Int)) = true) by simp, show (x.no = (i : Int)) ↔ ((x.no == (i : Int)) = true) by simp, show (S = allB) ↔ ((S == 18446744073709551615#64) = true) by simp [allB], k3, k4, ky, kn, ks, decide_true, decide_false, Bool.or_false, Bool.or_true, Bool.false_or, Bool.true_or, Bool.and_false, Bool.and_true, Bool.false_and, Bool.true_and, if_true, if_false, Bool.false_eq_true] at hs2
   clear hs1
   replace hs2 := Lib.hid hs2
   have ky' : (x.yes != (i : Int)) = !(x.yes == (i : Int)) := rfl
   have kn' : (x.no != (i : Int)) = !(x.no == (i : Int)) := rfl
   have ks' := qbd6 S
   rw [ks] at ks'
   rw [ky] at ky'
   rw [kn] at kn'
   repeat' (first | (with_reducible first | refine zA ?_ | refine qaae ?_) | ((with_reducible refine qaac ?_); (try rw [hP]); simp -implicitDefEqProofs [-BitVec.toNat_and, qaa3, *]) | ((with_reducible first | refine qaaf ?_ | refine qaak ?_); (try simp -implicitDefEqProofs [-BitVec.toNat_and, qaa3, *])) | ((with_reducible refine qaaa rfl (fun h => ?_) (fun h => ?_)) <;> have h' := h <;> (try simp at h') <;> (try subst h')) | ((first | refine qaaw (hc.out _) ?_ | refine qaaw (hr.out _) ?_); simp -implicitDefEqProofs [-BitVec.toNat_and, qaa3, *]) | (with_reducible first | refine za ?_ ?_ | refine zb ?_ ?_ ?_ ?_) | (with_reducible first | exact qaab | exact qaad) | ((with_reducible first | refine zga ?_ | refine zgb ?_); rfl) | ((with_reducible first | refine zgd ?_ | refine zge ?_); (first | omega | (simp; done))) | (exact Co.refl _) | (exact CoL.refl _) | ((refine qaai hJ (j + 1, ?_) ?_ ?_ ?_; rotate_left 1; (with_reducible refine qaah [] hm ?_ ?_ ?_ ?_) <;> (try simp only [zT, puth, Nat.reduceEqDiff, reduceIte, Nat.reduceAdd]))) | fail)
   all_goals (try dsimp only)
   all_goals first | (exact ⟨by omega, by rw [hG.out]; exact hs2.out.symm⟩) | trace_state
 ·obtain rfl : j = i := by omega
  have h3 : F = g := by rw [hF.out, h2]
  subst h3
  clear h2
  repeat' (first | (with_reducible refine zA ?_) | ((with_reducible refine qaac ?_); (try rw [hP]); simp -implicitDefEqProofs [*]) | ((with_reducible refine qaak ?_); (try simp -implicitDefEqProofs [*])) | ((with_reducible refine qaam ?_); (try simp only [qaap, qaag, qaaj])) | ((with_reducible refine qaaa rfl (fun h => ?_) (fun h => ?_)) <;> have h' := h <;> (try simp at h') <;> (try subst h')) | (with_reducible refine zM hm ?_) | fail)
  all_goals rfl
end Go.Proofs.YteoijlmgiemffaaGreat
namespace Go.Proofs.YteoijlmgiemffaaGreat
set_option linter.all false
open Go.RowKit
attribute [local simp] qabi qabh qaax qaa7 qaay qaa6 qabf qabg qaar qabr SOp.run SX.ev putd puts argS upds SOp.touch SSt.keep SSt.skip gets geth puth delh idOf SV.cells? setL qadh qadi sbin eq0 eq1 eqL qadf qab9 qaca qaap qabk qaag qabl qabs qaaj qaaq FrzOk qaba qaa1 qaa8 qaa9 qaat qaa0 qabm qaa2 qaav qabb qaau frzS frzH frz frz1 frz0 SlotsM ObjsM ObjM rn ren ren1 ren0 qabu qab7 qacf qabt qabn qacg qace CoL qabc qab3 dels adds idsH qabz
theorem row_at {p : PlanD} (hf : FOk p) (s : BitVec 64) {m : Nat} (hm : m ≤ p.nodes.length) : (atGo p s p.nodes.length)[m]'(by rw [qadu]; omega) = qahn p s m m := by
 have h := qbia hf s (i := m) p.nodes.length hm (Nat.le_refl _)
 rw [List.getD_eq_getElem?_getD, List.getElem?_eq_getElem (by rw [qadu]; omega)] at h
 exact h
theorem qbix {p : PlanD} (hf : FOk p) (s : BitVec 64) {m : Nat} (hm : m ≤ p.nodes.length) : (atGo p s p.nodes.length).take (m + 1) = (atGo p s p.nodes.length).take m ++ [qahn p s m m] := by
 rw [← row_at hf s hm]
 exact (List.take_append_getElem (by rw [qadu]; omega)).symm
theorem row_all (p : PlanD) (s : BitVec 64) : (atGo p s p.nodes.length).take (p.nodes.length + 1) = atGo p s p.nodes.length := List.take_of_length_le (by rw [qadu]; exact Nat.le_refl _)
end Go.Proofs.YteoijlmgiemffaaGreat
namespace Go.Proofs.YteoijlmgiemffaaGreat
set_option linter.all false
open Go.RowKit
attribute [local simp] qabi qabh qaax qaa7 qaay qaa6 qabf qabg qaar qabr SOp.run SX.ev putd puts argS upds SOp.touch SSt.keep SSt.skip gets geth puth delh idOf SV.cells? setL qadh qadi sbin eq0 eq1 eqL qadf qab9 qaca qaap qabk qaag qabl qabs qaaj qaaq FrzOk qaba qaa1 qaa8 qaa9 qaat qaa0 qabm qaa2 qaav qabb qaau frzS frzH frz frz1 frz0 SlotsM ObjsM ObjM rn ren ren1 ren0 qabu qab7 qacf qabt qabn qacg qace CoL qabc qab3 dels adds idsH qabz
attribute [local simp] qadt refc qaes qaei qab8 opc actc tabc qaea qacm nums
set_option maxHeartbeats 4000000 in
theorem ract_s (p : PlanD) (a : ActD) (h1 : a.w.length ≤ 1000000) (h2 : a.ops.length ≤ 1000000) (h3 : ∀ o ∈ a.ops, o.e.length ≤ 1000000) (q : Nat) : SCalls Tryz.prog 102 [.agg (qacm p), .agg (actc a)] [] q (.int .i64 (actF p a)) [] := by
 refine qabj ?_ (fun _ => rfl) (fun _ => rfl) rfl q
 refine qaas (N := 58) Tryz.func102 rfl rfl (by kernel_rfl) qauj (by simp) (by repeat' (first | exact trivial | refine And.intro ?_ ?_ | rfl | decide | exact PureR.ren _)) (by repeat' (first | exact trivial | refine And.intro ?_ ?_ | rfl | decide | exact PureR.ren _)) ?_
 rintro X hP hN hm
 unfold c_ract
 by_cases g1 : 3 < a.w.length ∨ 5 < a.ops.length
 ·have hz : actF p a = 2 := by unfold actF; rw [if_pos g1]
  rw [hz]
  replace g1 := Lib.hid g1
  repeat' (first | (with_reducible refine zA ?_) | ((with_reducible refine qaac ?_); (try rw [hP]); simp -implicitDefEqProofs [*]) | ((with_reducible refine qaaf ?_); (try simp -implicitDefEqProofs [*])) | ((with_reducible refine qaam ?_); (try simp only [qaap, qaag, qaaj])) | ((with_reducible refine qaaa rfl (fun h => ?_) (fun h => ?_)) <;> have h' := h <;> (try simp at h') <;> (try subst h')) | ((with_reducible refine qaan (fun h => ?_) (fun h => ?_)) <;> have h' := h <;> (try simp at h') <;> (try subst h') <;> simp -implicitDefEqProofs [*]) | (with_reducible refine zM hm ?_) | fail)
  all_goals (first | rfl | (exfalso; have q := g1.out; omega))
 have hF : actF p a = if (a.w.drop 0).any wOut = true then 6 else qacj (fun o => qahj p o a.w) (a.ops.drop 0) := by unfold actF; rw [if_neg g1]; rfl
 generalize actF p a = F at hF
 have l3 : decide (3 < (a.w.length : Int)) = false := by rw [decide_eq_false_iff_not]; omega
 have l5 : decide (5 < (a.ops.length : Int)) = false := by rw [decide_eq_false_iff_not]; omega
 clear g1
 replace hF := Lib.hid hF
 replace h3 := Lib.hid h3
 repeat' (first | (with_reducible refine zA ?_) | ((with_reducible refine qaac ?_); (try rw [hP]); simp -implicitDefEqProofs [*]) | ((with_reducible refine qaaf ?_); (try simp -implicitDefEqProofs [*])) | ((with_reducible refine qaaa rfl (fun h => ?_) (fun h => ?_)) <;> have h' := h <;> (try simp at h') <;> (try subst h')) | fail)
 refine qaal (qaa5 (fun s (i : Nat) => s.turn [(5, .int .i64 i)] []) (fun i => i ≤ a.w.length ∧ F = if (a.w.drop i).any wOut = true then 6 else qacj (fun o => qahj p o a.w) (a.ops.drop 0)) (fun i => a.w.length - i) 0 ?_ ⟨by simp, hF.out⟩ ?_)
 ·repeat' (first | ((with_reducible refine qaah [] hm ?_ ?_ ?_ ?_) <;> (try simp only [zT, puth, Nat.reduceEqDiff, reduceIte, Nat.reduceAdd])) | (with_reducible first | refine za ?_ ?_ | refine zb ?_ ?_ ?_ ?_) | (with_reducible first | exact qaab | exact qaad) | ((with_reducible first | refine zga ?_ | refine zgb ?_); rfl) | ((with_reducible refine zgd ?_); (first | omega | (simp; done))) | (exact Co.refl _) | (exact CoL.refl _) | fail)
 rintro J hJ i ⟨h5, h6⟩
 unfold qatn
 simp only [zT, puth, Nat.reduceEqDiff, reduceIte, Nat.reduceAdd] at h5 h6 ⊢
 rcases Nat.lt_or_ge i a.w.length with hi | hi
 ·rw [qac8 _ hi] at h6
  generalize hxx : a.w[i] = x at h6
  have wi : IntKind.i64.wrap ((i : Int) + 1) = (i : Int) + 1 := qaao (by omega) (by omega)
  replace h6 := Lib.hid h6
  cases hv : wOut x
  ·have hv1 : decide (x < 1) = false ∧ decide (48 < x) = false := by simpa [wOut] using hv
   obtain ⟨v1, v2⟩ := hv1
   repeat' (first | (with_reducible first | refine zA ?_ | refine qaae ?_) | ((with_reducible refine qaac ?_); (try rw [hP]); simp -implicitDefEqProofs [*]) | ((with_reducible refine qaaf ?_); (try simp -implicitDefEqProofs [*])) | ((with_reducible refine qaaa rfl (fun h => ?_) (fun h => ?_)) <;> have h' := h <;> (try simp at h') <;> (try subst h')) | (with_reducible first | refine za ?_ ?_ | refine zb ?_ ?_ ?_ ?_) | (with_reducible first | exact qaab | exact qaad) | ((with_reducible first | refine zga ?_ | refine zgb ?_); rfl) | ((with_reducible first | refine zgd ?_ | refine zge ?_); (first | omega | (simp; done))) | (exact Co.refl _) | (exact CoL.refl _) | ((refine qaai hJ (i + 1) ?_ ?_ ?_; (with_reducible refine qaah [] hm ?_ ?_ ?_ ?_) <;> (try simp only [zT, puth, Nat.reduceEqDiff, reduceIte, Nat.reduceAdd]))) | fail)
   exact ⟨by omega, by rw [h6.out, hv, Bool.false_or]⟩
  ·replace hv := Lib.hid hv
   repeat' (first | (with_reducible first | refine zA ?_ | refine qaae ?_) | ((with_reducible refine qaac ?_); (try rw [hP]); simp -implicitDefEqProofs [*]) | ((with_reducible refine qaaf ?_); (try simp -implicitDefEqProofs [*])) | ((with_reducible refine qaam ?_); (try simp only [qaap, qaag, qaaj])) | ((with_reducible refine qaaa rfl (fun h => ?_) (fun h => ?_)) <;> have h' := h <;> (try simp at h') <;> (try subst h')) | ((with_reducible refine qaan (fun h => ?_) (fun h => ?_)) <;> have h' := h <;> (try simp at h') <;> (try subst h') <;> simp -implicitDefEqProofs [*]) | (with_reducible refine zM hm ?_) | (with_reducible first | refine za ?_ ?_ | refine zb ?_ ?_ ?_ ?_) | (with_reducible first | exact qaab | exact qaad) | ((with_reducible first | refine zga ?_ | refine zgb ?_); rfl) | ((with_reducible first | refine zgd ?_ | refine zge ?_); (first | omega | (simp; done))) | (exact Co.refl _) | (exact CoL.refl _) | ((refine qaai hJ (i + 1) ?_ ?_ ?_; (with_reducible refine qaah [] hm ?_ ?_ ?_ ?_) <;> (try simp only [zT, puth, Nat.reduceEqDiff, reduceIte, Nat.reduceAdd]))) | fail)
   all_goals (first | (exfalso; have q := hv.out; simp only [wOut, Bool.or_eq_true, decide_eq_true_eq] at q; omega) | (rw [h6.out, hv.out]; rfl))
 ·obtain rfl : i = a.w.length := by omega
  have h7 : F = qacj (fun o => qahj p o a.w) (a.ops.drop 0) := by rw [h6, List.drop_length]; rfl
  replace h7 := Lib.hid h7
  replace h6 := Lib.hid h6
  repeat' (first | (with_reducible refine zA ?_) | ((with_reducible refine qaac ?_); (try rw [hP]); simp -implicitDefEqProofs [*]) | ((with_reducible refine qaak ?_); (try simp -implicitDefEqProofs [*])) | ((with_reducible refine qaaa rfl (fun h => ?_) (fun h => ?_)) <;> have h' := h <;> (try simp at h') <;> (try subst h')) | fail)
  refine qaal (qaa5 (fun s (i : Nat) => s.turn [(6, .int .i64 i)] []) (fun i => i ≤ a.ops.length ∧ F = qacj (fun o => qahj p o a.w) (a.ops.drop i)) (fun i => a.ops.length - i) 0 ?_ ⟨by simp, h7.out⟩ ?_)
  ·repeat' (first | ((with_reducible refine qaah [] hm ?_ ?_ ?_ ?_) <;> (try simp only [zT, puth, Nat.reduceEqDiff, reduceIte, Nat.reduceAdd])) | (with_reducible first | refine za ?_ ?_ | refine zb ?_ ?_ ?_ ?_) | (with_reducible first | exact qaab | exact qaad) | ((with_reducible first | refine zga ?_ | refine zgb ?_); rfl) | ((with_reducible refine zgd ?_); (first | omega | (simp; done))) | (exact Co.refl _) | (exact CoL.refl _) | fail)
  rintro J hJ i ⟨h8, h10⟩
  unfold qatm
  simp only [zT, puth, Nat.reduceEqDiff, reduceIte, Nat.reduceAdd] at h8 h10 ⊢
  rcases Nat.lt_or_ge i a.ops.length with hi | hi
  ·rw [qae7 _ hi] at h10
   have hdl := fun q => rdeed_s p a.ops[i] a.w (h3.out _ (List.getElem_mem hi)) q
   generalize hxx : a.ops[i] = x at h10 hdl
   generalize qahj p x a.w = D at h10 hdl
   have wi : IntKind.i64.wrap ((i : Int) + 1) = (i : Int) + 1 := qaao (by omega) (by omega)
   replace h10 := Lib.hid h10
   replace hdl := Lib.hid hdl
   cases kD : (D != 0)
   all_goals
    have kD' := kD
    simp at kD'
    replace kD' := Lib.hid kD'
    repeat' (first | (with_reducible first | refine zA ?_ | refine qaae ?_ | refine zK ?_) | ((with_reducible first | refine qaac ?_ | refine qaaz (by rw [hP]; exact qacz) ?_); (try rw [hP]); simp -implicitDefEqProofs [*]) | ((with_reducible refine qaaf ?_); (try simp -implicitDefEqProofs [*])) | ((with_reducible refine qaam ?_); (try simp only [qaap, qaag, qaaj])) | ((with_reducible refine qaaa rfl (fun h => ?_) (fun h => ?_)) <;> have h' := h <;> (try simp at h') <;> (try subst h')) | (refine qaaw (hdl.out _) ?_; simp -implicitDefEqProofs [*]) | (with_reducible refine zM hm ?_) | (with_reducible first | refine za ?_ ?_ | refine zb ?_ ?_ ?_ ?_) | (with_reducible first | exact qaab | exact qaad) | ((with_reducible first | refine zga ?_ | refine zgb ?_); rfl) | ((with_reducible first | refine zgd ?_ | refine zge ?_); (first | omega | (simp; done))) | (exact Co.refl _) | (exact CoL.refl _) | ((refine qaai hJ (i + 1) ?_ ?_ ?_; (with_reducible refine qaah [] hm ?_ ?_ ?_ ?_) <;> (try simp only [zT, puth, Nat.reduceEqDiff, reduceIte, Nat.reduceAdd]))) | fail)
    first | (refine ⟨by omega, ?_⟩; rw [h10.out, if_pos kD'.out]) | (rw [h10.out, if_neg kD'.out]) | skip
  ·obtain rfl : i = a.ops.length := by omega
   rw [List.drop_length] at h10
   replace h10 := Lib.hid h10
   repeat' (first | (with_reducible refine zA ?_) | ((with_reducible refine qaac ?_); (try rw [hP]); simp -implicitDefEqProofs [*]) | ((with_reducible refine qaak ?_); (try simp -implicitDefEqProofs [*])) | ((with_reducible refine qaam ?_); (try simp only [qaap, qaag, qaaj])) | ((with_reducible refine qaaa rfl (fun h => ?_) (fun h => ?_)) <;> have h' := h <;> (try simp at h') <;> (try subst h')) | (with_reducible refine zM hm ?_) | fail)
   rw [h10.out]; rfl
theorem rsays_s (t : TabD) (acts : List ActD) (act : Int) (args : List Int) (hl : t.acts.length ≤ 1000000) (hl2 : args.length ≤ 1000000) (hr : ∀ k ∈ t.acts, 0 ≤ k ∧ k < acts.length) (q : Nat) : SCalls Tryz.prog 136 [.agg (tabc t), .view 2 (acts.map actc), .agg [.int .i64 act, nums .u64 args]] [] q (.int .i64 (qahr t.acts acts act args)) [] := by
 refine qabj ?_ (fun _ => rfl) (fun _ => rfl) rfl q
 refine qaas (N := 43) Tryz.func136 rfl rfl (by kernel_rfl) qaoe (by simp) (by repeat' (first | exact trivial | refine And.intro ?_ ?_ | rfl | decide | exact PureR.ren _)) (by repeat' (first | exact trivial | refine And.intro ?_ ?_ | rfl | decide | exact PureR.ren _)) ?_
 rintro X hP hN hm
 have hc := fun q => rin_s t.acts act hl q
 unfold c_rsays
 cases hin : t.acts.contains act
 ·rw [hin] at hc
  have hz : qahr t.acts acts act args = 5 := by unfold qahr; rw [hin]; rfl
  rw [hz]
  repeat' (first | (with_reducible refine zA ?_) | ((with_reducible refine qaac ?_); (try rw [hP]); simp -implicitDefEqProofs [*]) | ((with_reducible refine qaam ?_); (try simp only [qaap, qaag, qaaj])) | ((with_reducible refine qaaa rfl (fun h => ?_) (fun h => ?_)) <;> have h' := h <;> (try simp at h') <;> (try subst h')) | (refine qaaw (hc _) ?_; simp -implicitDefEqProofs [*]) | (with_reducible refine zM hm ?_) | fail)
  rfl
 ·rw [hin] at hc
  obtain ⟨hr0, hr1⟩ := hr act (by simpa using hin)
  have hlt : act.toNat < acts.length := by omega
  have hF : qahr t.acts acts act args = if args.length ≠ acts[act.toNat].w.length then 2 else if qag1 args acts[act.toNat].w = true then 6 else 0 := by
   unfold qahr
   have : actW acts act = acts[act.toNat].w := by unfold actW; rw [List.getElem?_eq_getElem hlt]; rfl
   rw [hin, this]; rfl
  generalize qahr t.acts acts act args = F at hF
  generalize hA : acts[act.toNat] = A at hF
  by_cases hlen : args.length = A.w.length
  ·rw [if_neg (by simpa using hlen)] at hF
   have kl : ((A.w.length : Int) != (args.length : Int)) = false := by simp [hlen]
   replace hF := Lib.hid hF
   replace hlen := Lib.hid hlen
   repeat' (first | (with_reducible refine zA ?_) | ((with_reducible refine qaac ?_); (try rw [hP]); simp -implicitDefEqProofs [*]) | ((with_reducible refine qaaf ?_); (try simp -implicitDefEqProofs [*])) | ((with_reducible refine qaaa rfl (fun h => ?_) (fun h => ?_)) <;> have h' := h <;> (try simp at h') <;> (try subst h')) | (refine qaaw (hc _) ?_; simp -implicitDefEqProofs [*]) | fail)
   refine qaal (qaa5 (fun s (i : Nat) => s.turn [(8, .int .i64 i)] []) (fun i => i ≤ A.w.length ∧ F = if qag1 (args.drop i) (A.w.drop i) = true then 6 else 0) (fun i => A.w.length - i) 0 ?_ ⟨by simp, hF.out⟩ ?_)
   ·repeat' (first | ((with_reducible refine qaah [] hm ?_ ?_ ?_ ?_) <;> (try simp only [zT, puth, Nat.reduceEqDiff, reduceIte, Nat.reduceAdd])) | (with_reducible first | refine za ?_ ?_ | refine zb ?_ ?_ ?_ ?_) | (with_reducible first | exact qaab | exact qaad) | ((with_reducible first | refine zga ?_ | refine zgb ?_); rfl) | ((with_reducible refine zgd ?_); (first | omega | (simp; done))) | (exact Co.refl _) | (exact CoL.refl _) | fail)
   rintro J hJ i ⟨h1, h2⟩
   unfold qal1
   simp only [zT, puth, Nat.reduceEqDiff, reduceIte, Nat.reduceAdd] at h1 h2 ⊢
   rcases Nat.lt_or_ge i A.w.length with hi2 | hi
   ·have hi : i < args.length := by have := hlen.out; omega
    rw [qahm hi hi2] at h2
    have hms := fun q => qath args[i] A.w[i] q
    generalize hw : A.w[i] = w at h2 hms
    generalize hx : args[i] = x at h2 hms
    have wi : IntKind.i64.wrap ((i : Int) + 1) = (i : Int) + 1 := qaao (by have := hlen.out; omega) (by have := hlen.out; omega)
    cases hv : qand x w <;> rw [hv] at h2 hms <;> replace h2 := Lib.hid h2
    ·repeat' (first | (with_reducible first | refine zA ?_ | refine qaae ?_ | refine zK ?_) | ((with_reducible first | refine qaac ?_ | refine qaaz (by rw [hP]; exact qacz) ?_); (try rw [hP]); simp -implicitDefEqProofs [*]) | ((with_reducible refine qaaf ?_); (try simp -implicitDefEqProofs [*])) | ((with_reducible refine qaaa rfl (fun h => ?_) (fun h => ?_)) <;> have h' := h <;> (try simp at h') <;> (try subst h')) | (refine qaaw (hms _) ?_; simp -implicitDefEqProofs [*]) | (with_reducible first | refine za ?_ ?_ | refine zb ?_ ?_ ?_ ?_) | (with_reducible first | exact qaab | exact qaad) | ((with_reducible first | refine zga ?_ | refine zgb ?_); rfl) | ((with_reducible first | refine zgd ?_ | refine zge ?_); (first | omega | (simp; done))) | (exact Co.refl _) | (exact CoL.refl _) | ((refine qaai hJ (i + 1) ?_ ?_ ?_; (with_reducible refine qaah [] hm ?_ ?_ ?_ ?_) <;> (try simp only [zT, puth, Nat.reduceEqDiff, reduceIte, Nat.reduceAdd]))) | fail)
     exact ⟨by omega, by rw [h2.out, Bool.false_or]⟩
    ·repeat' (first | (with_reducible first | refine zA ?_ | refine qaae ?_ | refine zK ?_) | ((with_reducible first | refine qaac ?_ | refine qaaz (by rw [hP]; exact qacz) ?_); (try rw [hP]); simp -implicitDefEqProofs [*]) | ((with_reducible refine qaaf ?_); (try simp -implicitDefEqProofs [*])) | ((with_reducible refine qaam ?_); (try simp only [qaap, qaag, qaaj])) | ((with_reducible refine qaaa rfl (fun h => ?_) (fun h => ?_)) <;> have h' := h <;> (try simp at h') <;> (try subst h')) | (refine qaaw (hms _) ?_; simp -implicitDefEqProofs [*]) | (with_reducible refine zM hm ?_) | fail)
     rw [h2.out]; rfl
   ·obtain rfl : i = A.w.length := by omega
    rw [← hlen.out, List.drop_length] at h2
    replace h2 := Lib.hid h2
    repeat' (first | (with_reducible refine zA ?_) | ((with_reducible refine qaac ?_); (try rw [hP]); simp -implicitDefEqProofs [*]) | ((with_reducible refine qaak ?_); (try simp -implicitDefEqProofs [*])) | ((with_reducible refine qaam ?_); (try simp only [qaap, qaag, qaaj])) | ((with_reducible refine qaaa rfl (fun h => ?_) (fun h => ?_)) <;> have h' := h <;> (try simp at h') <;> (try subst h')) | (with_reducible refine zM hm ?_) | fail)
    rw [h2.out]; rfl
  ·rw [if_pos (by simpa using hlen)] at hF
   have kl : ((A.w.length : Int) != (args.length : Int)) = true := by simp; omega
   replace hF := Lib.hid hF
   repeat' (first | (with_reducible refine zA ?_) | ((with_reducible refine qaac ?_); (try rw [hP]); simp -implicitDefEqProofs [*]) | ((with_reducible refine qaaf ?_); (try simp -implicitDefEqProofs [*])) | ((with_reducible refine qaam ?_); (try simp only [qaap, qaag, qaaj])) | ((with_reducible refine qaaa rfl (fun h => ?_) (fun h => ?_)) <;> have h' := h <;> (try simp at h') <;> (try subst h')) | (refine qaaw (hc _) ?_; simp -implicitDefEqProofs [*]) | (with_reducible refine zM hm ?_) | fail)
   rw [hF.out]
set_option maxHeartbeats 4000000 in
theorem qbiv (t : TabD) (ws : List Int) (acts : List ActD) (h1 : t.acts.length ≤ 1000000) (h2 : t.args.length ≤ 1000000) (h3 : ws.length ≤ 1000000) (h4 : acts.length ≤ 1000000) (q : Nat) : SCalls Tryz.prog 105 [.agg (tabc t), nums .i64 ws, .view 2 (acts.map actc)] [] q (.int .i64 (qadk t ws acts)) [] := by
 refine qabj ?_ (fun _ => rfl) (fun _ => rfl) rfl q
 refine qaas (N := 104) Tryz.func105 rfl rfl (by kernel_rfl) qalc (by simp) (by repeat' (first | exact trivial | refine And.intro ?_ ?_ | rfl | decide | exact PureR.ren _)) (by repeat' (first | exact trivial | refine And.intro ?_ ?_ | rfl | decide | exact PureR.ren _)) ?_
 rintro X hP hN hm
 have hsays := fun (hr : ∀ k ∈ t.acts, 0 ≤ k ∧ k < acts.length) q => rsays_s t acts t.def_ t.args h1 h2 hr q
 replace hsays := Lib.hid hsays
 obtain ⟨n, hn⟩ : ∃ n, ws.length = n := ⟨_, rfl⟩
 obtain ⟨m, hma⟩ : ∃ m, t.acts.length = m := ⟨_, rfl⟩
 unfold c_rtable
 by_cases g1 : t.kind < 1 ∨ 3 < t.kind
 ·have hz : qadk t ws acts = 5 := by unfold qadk; rw [if_pos g1]
  rw [hz]
  replace g1 := Lib.hid g1
  repeat' (first | (with_reducible refine zA ?_) | ((with_reducible refine qaac ?_); (try rw [hP]); simp -implicitDefEqProofs [*]) | ((with_reducible refine qaaf ?_); (try simp -implicitDefEqProofs [*])) | ((with_reducible refine qaam ?_); (try simp only [qaap, qaag, qaaj])) | ((with_reducible refine qaaa rfl (fun h => ?_) (fun h => ?_)) <;> have h' := h <;> (try simp at h') <;> (try subst h')) | ((with_reducible refine qaan (fun h => ?_) (fun h => ?_)) <;> have h' := h <;> (try simp at h') <;> (try subst h') <;> simp -implicitDefEqProofs [*]) | (with_reducible refine zM hm ?_) | fail)
  all_goals (first | rfl | (exfalso; have q1 := g1.out; omega))
 have g11 : decide (t.kind < 1) = false := by rw [decide_eq_false_iff_not]; omega
 have g12 : decide (3 < t.kind) = false := by rw [decide_eq_false_iff_not]; omega
 by_cases g2 : ws.length < 1 ∨ 3 < ws.length ∨ (t.kind = 2 ∧ 1 < ws.length) ∨ t.acts.length < 1 ∨ 4 < t.acts.length
 ·have hz : qadk t ws acts = 2 := by unfold qadk; rw [if_neg g1, if_pos g2]
  rw [hz]
  replace g1 := Lib.hid g1
  replace g2 := Lib.hid g2
  repeat' (first | (with_reducible refine zA ?_) | ((with_reducible refine qaac ?_); (try rw [hP]); simp -implicitDefEqProofs [*]) | ((with_reducible refine qaaf ?_); (try simp -implicitDefEqProofs [*])) | ((with_reducible refine qaam ?_); (try simp only [qaap, qaag, qaaj])) | ((with_reducible refine qaaa rfl (fun h => ?_) (fun h => ?_)) <;> have h' := h <;> (try simp at h') <;> (try subst h')) | ((with_reducible refine qaan (fun h => ?_) (fun h => ?_)) <;> have h' := h <;> (try simp at h') <;> (try subst h') <;> simp -implicitDefEqProofs [*]) | (with_reducible refine zM hm ?_) | fail)
  all_goals (first | rfl | (exfalso; have q := g2.out; have q1 := g1.out; omega))
 by_cases g3 : t.cap < 0 ∨ 16 < t.cap
 ·have hz : qadk t ws acts = 1 := by unfold qadk; rw [if_neg g1, if_neg g2, if_pos g3]
  rw [hz]
  replace g1 := Lib.hid g1
  replace g2 := Lib.hid g2
  replace g3 := Lib.hid g3
  repeat' (first | (with_reducible refine zA ?_) | ((with_reducible refine qaac ?_); (try rw [hP]); simp -implicitDefEqProofs [*]) | ((with_reducible refine qaaf ?_); (try simp -implicitDefEqProofs [*])) | ((with_reducible refine qaam ?_); (try simp only [qaap, qaag, qaaj])) | ((with_reducible refine qaaa rfl (fun h => ?_) (fun h => ?_)) <;> have h' := h <;> (try simp at h') <;> (try subst h')) | ((with_reducible refine qaan (fun h => ?_) (fun h => ?_)) <;> have h' := h <;> (try simp at h') <;> (try subst h') <;> simp -implicitDefEqProofs [*]) | (with_reducible refine zM hm ?_) | fail)
  all_goals (first | rfl | (exfalso; have q := g2.out; have q1 := g1.out; have q3 := g3.out; omega))
 have hF : qadk t ws acts = if (ws.drop 0).any wOut = true then 6 else if (t.acts.drop 0).any (aOut acts.length) = true then 1 else qahr t.acts acts t.def_ t.args := by
  unfold qadk; rw [if_neg g1, if_neg g2, if_neg g3]; rfl
 generalize qadk t ws acts = F at hF
 replace hF := Lib.hid hF
 have l0 : decide ((ws.length : Int) < 1) = false := by rw [decide_eq_false_iff_not]; omega
 have l3 : decide (3 < (ws.length : Int)) = false := by rw [decide_eq_false_iff_not]; omega
 have a0 : decide ((t.acts.length : Int) < 1) = false := by rw [decide_eq_false_iff_not]; omega
 have a4 : decide (4 < (t.acts.length : Int)) = false := by rw [decide_eq_false_iff_not]; omega
 have q0 : decide (t.cap < 0) = false := by rw [decide_eq_false_iff_not]; omega
 have q16 : decide (16 < t.cap) = false := by rw [decide_eq_false_iff_not]; omega
 have hks : (t.kind == 2) = false ∨ ((t.kind == 2) = true ∧ decide (1 < (ws.length : Int)) = false) := by
  by_cases e2 : t.kind = 2
  ·right; refine ⟨by simpa using e2, ?_⟩
   rw [decide_eq_false_iff_not]; omega
  ·left; simpa using e2
 clear g1 g2 g3 hn hma n m
 rcases hks with k1 | ⟨k1, k2⟩
 all_goals
  repeat' (first | (with_reducible refine zA ?_) | ((with_reducible refine qaac ?_); (try rw [hP]); simp -implicitDefEqProofs [*]) | ((with_reducible refine qaaf ?_); (try simp -implicitDefEqProofs [*])) | ((with_reducible refine qaaa rfl (fun h => ?_) (fun h => ?_)) <;> have h' := h <;> (try simp at h') <;> (try subst h')) | fail)
  clear k1 a0 a4 q0 q16 l0 l3
  refine qaal (qaa5 (fun s (i : Nat) => s.turn [(7, .int .i64 i)] []) (fun i => i ≤ ws.length ∧ F = if (ws.drop i).any wOut = true then 6 else if (t.acts.drop 0).any (aOut acts.length) = true then 1 else qahr t.acts acts t.def_ t.args) (fun i => ws.length - i) 0 ?_ ⟨by simp, hF.out⟩ ?_)
  ·repeat' (first | ((with_reducible refine qaah [] hm ?_ ?_ ?_ ?_) <;> (try simp only [zT, puth, Nat.reduceEqDiff, reduceIte, Nat.reduceAdd])) | (with_reducible first | refine za ?_ ?_ | refine zb ?_ ?_ ?_ ?_) | (with_reducible first | exact qaab | exact qaad) | ((with_reducible first | refine zga ?_ | refine zgb ?_); rfl) | ((with_reducible refine zgd ?_); (first | omega | (simp; done))) | (exact Co.refl _) | (exact CoL.refl _) | fail)
  rintro J hJ i ⟨h5, h6⟩
  unfold qaja
  simp only [zT, puth, Nat.reduceEqDiff, reduceIte, Nat.reduceAdd] at h5 h6 ⊢
  rcases Nat.lt_or_ge i ws.length with hi | hi
  ·rw [qac8 _ hi] at h6
   generalize hxx : ws[i] = x at h6
   have wi : IntKind.i64.wrap ((i : Int) + 1) = (i : Int) + 1 := qaao (by omega) (by omega)
   replace h6 := Lib.hid h6
   cases hv : wOut x
   ·have hv1 : decide (x < 1) = false ∧ decide (48 < x) = false := by simpa [wOut] using hv
    obtain ⟨v1, v2⟩ := hv1
    repeat' (first | (with_reducible first | refine zA ?_ | refine qaae ?_) | ((with_reducible refine qaac ?_); (try rw [hP]); simp -implicitDefEqProofs [*]) | ((with_reducible refine qaaf ?_); (try simp -implicitDefEqProofs [*])) | ((with_reducible refine qaaa rfl (fun h => ?_) (fun h => ?_)) <;> have h' := h <;> (try simp at h') <;> (try subst h')) | (with_reducible first | refine za ?_ ?_ | refine zb ?_ ?_ ?_ ?_) | (with_reducible first | exact qaab | exact qaad) | ((with_reducible first | refine zga ?_ | refine zgb ?_); rfl) | ((with_reducible first | refine zgd ?_ | refine zge ?_); (first | omega | (simp; done))) | (exact Co.refl _) | (exact CoL.refl _) | ((refine qaai hJ (i + 1) ?_ ?_ ?_; (with_reducible refine qaah [] hm ?_ ?_ ?_ ?_) <;> (try simp only [zT, puth, Nat.reduceEqDiff, reduceIte, Nat.reduceAdd]))) | fail)
    exact ⟨by omega, by rw [h6.out, hv, Bool.false_or]⟩
   ·replace hv := Lib.hid hv
    repeat' (first | (with_reducible first | refine zA ?_ | refine qaae ?_) | ((with_reducible refine qaac ?_); (try rw [hP]); simp -implicitDefEqProofs [*]) | ((with_reducible refine qaaf ?_); (try simp -implicitDefEqProofs [*])) | ((with_reducible refine qaam ?_); (try simp only [qaap, qaag, qaaj])) | ((with_reducible refine qaaa rfl (fun h => ?_) (fun h => ?_)) <;> have h' := h <;> (try simp at h') <;> (try subst h')) | ((with_reducible refine qaan (fun h => ?_) (fun h => ?_)) <;> have h' := h <;> (try simp at h') <;> (try subst h') <;> simp -implicitDefEqProofs [*]) | (with_reducible refine zM hm ?_) | (with_reducible first | refine za ?_ ?_ | refine zb ?_ ?_ ?_ ?_) | (with_reducible first | exact qaab | exact qaad) | ((with_reducible first | refine zga ?_ | refine zgb ?_); rfl) | ((with_reducible first | refine zgd ?_ | refine zge ?_); (first | omega | (simp; done))) | (exact Co.refl _) | (exact CoL.refl _) | ((refine qaai hJ (i + 1) ?_ ?_ ?_; (with_reducible refine qaah [] hm ?_ ?_ ?_ ?_) <;> (try simp only [zT, puth, Nat.reduceEqDiff, reduceIte, Nat.reduceAdd]))) | fail)
    all_goals (first | (exfalso; have q := hv.out; simp only [wOut, Bool.or_eq_true, decide_eq_true_eq] at q; omega) | (rw [h6.out, hv.out]; rfl))
  ·obtain rfl : i = ws.length := by omega
   have h7 : F = if (t.acts.drop 0).any (aOut acts.length) = true then 1 else qahr t.acts acts t.def_ t.args := by rw [h6, List.drop_length]; rfl
   replace h7 := Lib.hid h7
   replace h6 := Lib.hid h6
   repeat' (first | (with_reducible refine zA ?_) | ((with_reducible refine qaac ?_); (try rw [hP]); simp -implicitDefEqProofs [*]) | ((with_reducible refine qaak ?_); (try simp -implicitDefEqProofs [*])) | ((with_reducible refine qaaa rfl (fun h => ?_) (fun h => ?_)) <;> have h' := h <;> (try simp at h') <;> (try subst h')) | fail)
   refine qaal (qaa5 (fun s (i : Nat) => s.turn [(8, .int .i64 i)] []) (fun i => i ≤ t.acts.length ∧ (∀ k ∈ t.acts.take i, aOut acts.length k = false) ∧ F = if (t.acts.drop i).any (aOut acts.length) = true then 1 else qahr t.acts acts t.def_ t.args) (fun i => t.acts.length - i) 0 ?_ ⟨by simp, by simp, h7.out⟩ ?_)
   ·repeat' (first | ((with_reducible refine qaah [] hm ?_ ?_ ?_ ?_) <;> (try simp only [zT, puth, Nat.reduceEqDiff, reduceIte, Nat.reduceAdd])) | (with_reducible first | refine za ?_ ?_ | refine zb ?_ ?_ ?_ ?_) | (with_reducible first | exact qaab | exact qaad) | ((with_reducible first | refine zga ?_ | refine zgb ?_); rfl) | ((with_reducible refine zgd ?_); (first | omega | (simp; done))) | (exact Co.refl _) | (exact CoL.refl _) | fail)
   rintro J hJ i ⟨h8, h9, h10⟩
   unfold qai9
   simp only [zT, puth, Nat.reduceEqDiff, reduceIte, Nat.reduceAdd] at h8 h9 h10 ⊢
   replace h9 := Lib.hid h9
   rcases Nat.lt_or_ge i t.acts.length with hi | hi
   ·rw [qac8 _ hi] at h10
    have htk : t.acts.take (i + 1) = t.acts.take i ++ [t.acts[i]] := List.take_succ_eq_append_getElem hi
    generalize hxx : t.acts[i] = x at h10 htk
    have wi : IntKind.i64.wrap ((i : Int) + 1) = (i : Int) + 1 := qaao (by omega) (by omega)
    replace h10 := Lib.hid h10
    replace htk := Lib.hid htk
    cases hv : aOut acts.length x
    ·have hv1 : decide (x < 0) = false ∧ decide ((acts.length : Int) ≤ x) = false := by simpa [aOut] using hv
     obtain ⟨v1, v2⟩ := hv1
     replace hv := Lib.hid hv
     repeat' (first | (with_reducible first | refine zA ?_ | refine qaae ?_) | ((with_reducible refine qaac ?_); (try rw [hP]); simp -implicitDefEqProofs [*]) | ((with_reducible refine qaaf ?_); (try simp -implicitDefEqProofs [*])) | ((with_reducible refine qaaa rfl (fun h => ?_) (fun h => ?_)) <;> have h' := h <;> (try simp at h') <;> (try subst h')) | (with_reducible first | refine za ?_ ?_ | refine zb ?_ ?_ ?_ ?_) | (with_reducible first | exact qaab | exact qaad) | ((with_reducible first | refine zga ?_ | refine zgb ?_); rfl) | ((with_reducible first | refine zgd ?_ | refine zge ?_); (first | omega | (simp; done))) | (exact Co.refl _) | (exact CoL.refl _) | ((refine qaai hJ (i + 1) ?_ ?_ ?_; (with_reducible refine qaah [] hm ?_ ?_ ?_ ?_) <;> (try simp only [zT, puth, Nat.reduceEqDiff, reduceIte, Nat.reduceAdd]))) | fail)
     refine ⟨by omega, fun k hk => ?_, by rw [h10.out, hv.out, Bool.false_or]⟩
     rw [htk.out, List.mem_append] at hk
     rcases hk with hk | hk
     ·exact h9.out k hk
     ·rw [List.mem_singleton.1 hk]; exact hv.out
    ·replace hv := Lib.hid hv
     repeat' (first | (with_reducible first | refine zA ?_ | refine qaae ?_) | ((with_reducible refine qaac ?_); (try rw [hP]); simp -implicitDefEqProofs [*]) | ((with_reducible refine qaaf ?_); (try simp -implicitDefEqProofs [*])) | ((with_reducible refine qaam ?_); (try simp only [qaap, qaag, qaaj])) | ((with_reducible refine qaaa rfl (fun h => ?_) (fun h => ?_)) <;> have h' := h <;> (try simp at h') <;> (try subst h')) | ((with_reducible refine qaan (fun h => ?_) (fun h => ?_)) <;> have h' := h <;> (try simp at h') <;> (try subst h') <;> simp -implicitDefEqProofs [*]) | (with_reducible refine zM hm ?_) | (with_reducible first | refine za ?_ ?_ | refine zb ?_ ?_ ?_ ?_) | (with_reducible first | exact qaab | exact qaad) | ((with_reducible first | refine zga ?_ | refine zgb ?_); rfl) | ((with_reducible first | refine zgd ?_ | refine zge ?_); (first | omega | (simp; done))) | (exact Co.refl _) | (exact CoL.refl _) | ((refine qaai hJ (i + 1) ?_ ?_ ?_; (with_reducible refine qaah [] hm ?_ ?_ ?_ ?_) <;> (try simp only [zT, puth, Nat.reduceEqDiff, reduceIte, Nat.reduceAdd]))) | fail)
     all_goals (first | (exfalso; have q := hv.out; simp only [aOut, Bool.or_eq_true, decide_eq_true_eq] at q; omega) | (rw [h10.out, hv.out]; rfl))
   ·obtain rfl : i = t.acts.length := by omega
    have h11 : ∀ k ∈ t.acts, 0 ≤ k ∧ k < acts.length := fun k hk => by
     have := h9.out k (by rw [List.take_length]; exact hk)
     unfold aOut at this; rw [Bool.or_eq_false_iff, decide_eq_false_iff_not, decide_eq_false_iff_not] at this; omega
    have h12 : F = qahr t.acts acts t.def_ t.args := by rw [h10, List.drop_length]; rfl
    have hs := hsays.out h11
    replace hs := Lib.hid hs
    replace h11 := Lib.hid h11
    replace h10 := Lib.hid h10
    replace h12 := Lib.hid h12
    repeat' (first | (with_reducible refine zA ?_) | ((with_reducible refine qaac ?_); (try rw [hP]); simp -implicitDefEqProofs [*]) | ((with_reducible refine qaak ?_); (try simp -implicitDefEqProofs [*])) | ((with_reducible refine qaam ?_); (try simp only [qaap, qaag, qaaj])) | ((with_reducible refine qaaa rfl (fun h => ?_) (fun h => ?_)) <;> have h' := h <;> (try simp at h') <;> (try subst h')) | (refine qaaw (hs.out _) ?_; simp -implicitDefEqProofs [*]) | (with_reducible refine zM hm ?_) | fail)
    rw [h12.out]
end Go.Proofs.YteoijlmgiemffaaGreat
namespace Go.Proofs.YteoijlmgiemffaaGreat
set_option linter.all false
open Go.RowKit
attribute [local simp] qabi qabh qaax qaa7 qaay qaa6 qabf qabg qaar qabr SOp.run SX.ev putd puts argS upds SOp.touch SSt.keep SSt.skip gets geth puth delh idOf SV.cells? setL qadh qadi sbin eq0 eq1 eqL qadf qab9 qaca qaap qabk qaag qabl qabs qaaj qaaq FrzOk qaba qaa1 qaa8 qaa9 qaat qaa0 qabm qaa2 qaav qabb qaau frzS frzH frz frz1 frz0 SlotsM ObjsM ObjM rn ren ren1 ren0 qabu qab7 qacf qabt qabn qacg qace CoL qabc qab3 dels adds idsH qabz
attribute [local simp] qadt refc qaes qaei qab8 opc actc tabc qaea qacm nums
theorem qadq {t e R : Int} (h : t = e) : (if t = 0 then R else t) = if e = 0 then R else e := by rw [h]
set_option maxHeartbeats 8000000 in
theorem rnode_s (p : PlanD) (i : Nat) (hi : i < p.nodes.length) (hnl : p.nodes.length ≤ 1000000) (hw : p.nodes[i].e.length ≤ 1000000) (q : Nat) : SCalls Tryz.prog 106 [.agg (qacm p), .int .i64 i] [] q (.int .i64 (qant p i p.nodes[i])) [] := by
 refine qabj ?_ (fun _ => rfl) (fun _ => rfl) rfl q
 refine qaas (N := 109) Tryz.func106 rfl rfl (by kernel_rfl) qaof (by simp) (by repeat' (first | exact trivial | refine And.intro ?_ ?_ | rfl | decide | exact PureR.ren _)) (by repeat' (first | exact trivial | refine And.intro ?_ ?_ | rfl | decide | exact PureR.ren _)) ?_
 rintro X hP hN hm
 unfold c_rnode
 generalize hxx : p.nodes[i] = x at hw
 have hA : qant p i x = qat7 p i x := qasx p i x
 generalize qant p i x = F at hA
 unfold qat7 at hA
 by_cases kn1 : x.kind = 1
 ·have k1 : (x.kind == 1) = true := by simpa using kn1
  rw [if_pos kn1] at hA
  clear kn1
  cases kb : (decide (x.n < 0) || decide ((p.tabs.length : Int) ≤ x.n)) <;> rw [kb] at hA
  ·have hI : F = if (0 : Int) = 0 then qadp p i ([x.yes].drop 0) else 0 := hA
   obtain ⟨b1, b2⟩ := Bool.or_eq_false_iff.1 kb
   clear hA kb
   replace hI := Lib.hid hI
   repeat' (first | (with_reducible first | refine zA ?_ | refine qaae ?_) | ((with_reducible refine qaac ?_); (try rw [hP]); simp -implicitDefEqProofs [*]) | ((with_reducible refine qaaf ?_); (try simp -implicitDefEqProofs [*])) | ((with_reducible refine qaaa rfl (fun h => ?_) (fun h => ?_)) <;> have h' := h <;> (try simp at h') <;> (try subst h')) | fail)
   refine qaal (qaa5 (fun s (y : Nat × Int) => s.turn [(6, .int .i64 y.2), (8, .int .i64 y.1)] []) (fun y => y.1 ≤ 1 ∧ F = if y.2 = 0 then qadp p i ([x.yes].drop y.1) else y.2) (fun y => 1 - y.1) (0, 0) ?_ ⟨by simp, hI.out⟩ ?_)
   ·repeat' (first | ((with_reducible refine qaah [] hm ?_ ?_ ?_ ?_) <;> (try simp only [zT, puth, Nat.reduceEqDiff, reduceIte, Nat.reduceAdd])) | (with_reducible first | refine za ?_ ?_ | refine zb ?_ ?_ ?_ ?_ | refine zd ?_ ?_ ?_ ?_) | (with_reducible first | exact qaab | exact qaad) | ((with_reducible first | refine zga ?_ | refine zgb ?_); rfl) | ((with_reducible refine zgd ?_); (first | omega | (simp; done))) | (exact Co.refl _) | (exact CoL.refl _) | (exact CoLL.refl _) | fail)
   rintro J hJ ⟨k, e⟩ ⟨h3, h4⟩
   unfold qada
   simp only [zT, puth, Nat.reduceEqDiff, reduceIte, Nat.reduceAdd] at h3 h4 ⊢
   by_cases he : e = 0
   ·subst he
    rw [if_pos rfl] at h4
    have hk : k = 0 ∨ k = 1 := by omega
    rcases hk with rfl | rfl
    ·have h5 : F = if toF p i x.yes = 0 then qadp p i [] else toF p i x.yes := h4
     clear h4
     replace h5 := Lib.hid h5
     repeat' (first | (with_reducible first | refine zA ?_ | refine qaae ?_ | refine zK ?_) | ((with_reducible first | refine qaac ?_ | refine qaaz (by rw [hP]; exact qacz) ?_); (try rw [hP]); simp -implicitDefEqProofs [*]) | ((with_reducible refine qaaf ?_); (try simp -implicitDefEqProofs [*])) | ((with_reducible refine qaaa rfl (fun h => ?_) (fun h => ?_)) <;> have h' := h <;> (try simp at h') <;> (try subst h')) | ((with_reducible refine qaan (fun h => ?_) (fun h => ?_)) <;> have h' := h <;> (try simp at h') <;> (try subst h') <;> simp -implicitDefEqProofs [*]) | (with_reducible first | refine za ?_ ?_ | refine zb ?_ ?_ ?_ ?_ | refine zd ?_ ?_ ?_ ?_) | (with_reducible first | exact qaab | exact qaad) | ((with_reducible first | refine zga ?_ | refine zgb ?_); rfl) | ((with_reducible first | refine zgd ?_ | refine zge ?_); (first | omega | (simp; done))) | (exact Co.refl _) | (exact CoL.refl _) | (exact CoLL.refl _) | ((refine qaai hJ (1, ?_) ?_ ?_ ?_; rotate_left 1; (with_reducible refine qaah [] hm ?_ ?_ ?_ ?_) <;> (try simp only [zT, puth, Nat.reduceEqDiff, reduceIte, Nat.reduceAdd]))) | fail)
     all_goals (try dsimp only)
     all_goals (refine ⟨by omega, ?_⟩; rw [h5.out]; clear h5; refine qadq ?_; unfold toF; (repeat' split) <;> first | rfl | (exfalso; simp_all; omega) | (exfalso; simp_all; done))
    ·replace h4 := Lib.hid h4
     repeat' (first | (with_reducible refine zA ?_) | ((with_reducible refine qaac ?_); (try rw [hP]); simp -implicitDefEqProofs [*]) | ((with_reducible refine qaak ?_); (try simp -implicitDefEqProofs [*])) | ((with_reducible refine qaam ?_); (try simp only [qaap, qaag, qaaj])) | ((with_reducible refine qaaa rfl (fun h => ?_) (fun h => ?_)) <;> have h' := h <;> (try simp at h') <;> (try subst h')) | (with_reducible refine zM hm ?_) | fail)
     rw [h4.out]; rfl
   ·rw [if_neg he] at h4
    have ke : (e == 0) = false := by simpa using he
    replace h4 := Lib.hid h4
    repeat' (first | (with_reducible refine zA ?_) | ((with_reducible refine qaac ?_); (try rw [hP]); simp -implicitDefEqProofs [*]) | ((with_reducible refine qaak ?_); (try simp -implicitDefEqProofs [*])) | ((with_reducible refine qaam ?_); (try simp only [qaap, qaag, qaaj])) | ((with_reducible refine qaaa rfl (fun h => ?_) (fun h => ?_)) <;> have h' := h <;> (try simp at h') <;> (try subst h')) | ((with_reducible refine qaan (fun h => ?_) (fun h => ?_)) <;> have h' := h <;> (try simp at h') <;> (try subst h') <;> simp -implicitDefEqProofs [*]) | (with_reducible refine zM hm ?_) | fail)
    all_goals (rw [h4.out])
  ·have hI : F = if (1 : Int) = 0 then qadp p i ([x.yes].drop 0) else 1 := hA
   replace kb := Lib.hid kb
   clear hA
   replace hI := Lib.hid hI
   repeat' (first | (with_reducible first | refine zA ?_ | refine qaae ?_) | ((with_reducible refine qaac ?_); (try rw [hP]); simp -implicitDefEqProofs [*]) | ((with_reducible refine qaaf ?_); (try simp -implicitDefEqProofs [*])) | ((with_reducible refine qaaa rfl (fun h => ?_) (fun h => ?_)) <;> have h' := h <;> (try simp at h') <;> (try subst h')) | ((with_reducible refine qaan (fun h => ?_) (fun h => ?_)) <;> have h' := h <;> (try simp at h') <;> (try subst h') <;> simp -implicitDefEqProofs [*]) | fail)
   all_goals (try (exfalso; have q := kb.out; simp only [Bool.or_eq_true, decide_eq_true_eq] at q; omega))
   all_goals
    refine qaal (qaa5 (fun s (y : Nat × Int) => s.turn [(6, .int .i64 y.2), (8, .int .i64 y.1)] []) (fun y => y.1 ≤ 1 ∧ F = if y.2 = 0 then qadp p i ([x.yes].drop y.1) else y.2) (fun y => 1 - y.1) (0, 1) ?_ ⟨by simp, hI.out⟩ ?_)
    ·repeat' (first | ((with_reducible refine qaah [] hm ?_ ?_ ?_ ?_) <;> (try simp only [zT, puth, Nat.reduceEqDiff, reduceIte, Nat.reduceAdd])) | (with_reducible first | refine za ?_ ?_ | refine zb ?_ ?_ ?_ ?_ | refine zd ?_ ?_ ?_ ?_) | (with_reducible first | exact qaab | exact qaad) | ((with_reducible first | refine zga ?_ | refine zgb ?_); rfl) | ((with_reducible refine zgd ?_); (first | omega | (simp; done))) | (exact Co.refl _) | (exact CoL.refl _) | (exact CoLL.refl _) | fail)
    rintro J hJ ⟨k, e⟩ ⟨h3, h4⟩
    unfold qada
    simp only [zT, puth, Nat.reduceEqDiff, reduceIte, Nat.reduceAdd] at h3 h4 ⊢
    by_cases he : e = 0
    ·subst he
     rw [if_pos rfl] at h4
     have hk : k = 0 ∨ k = 1 := by omega
     rcases hk with rfl | rfl
     ·have h5 : F = if toF p i x.yes = 0 then qadp p i [] else toF p i x.yes := h4
      clear h4
      replace h5 := Lib.hid h5
      repeat' (first | (with_reducible first | refine zA ?_ | refine qaae ?_ | refine zK ?_) | ((with_reducible first | refine qaac ?_ | refine qaaz (by rw [hP]; exact qacz) ?_); (try rw [hP]); simp -implicitDefEqProofs [*]) | ((with_reducible refine qaaf ?_); (try simp -implicitDefEqProofs [*])) | ((with_reducible refine qaaa rfl (fun h => ?_) (fun h => ?_)) <;> have h' := h <;> (try simp at h') <;> (try subst h')) | ((with_reducible refine qaan (fun h => ?_) (fun h => ?_)) <;> have h' := h <;> (try simp at h') <;> (try subst h') <;> simp -implicitDefEqProofs [*]) | (with_reducible first | refine za ?_ ?_ | refine zb ?_ ?_ ?_ ?_ | refine zd ?_ ?_ ?_ ?_) | (with_reducible first | exact qaab | exact qaad) | ((with_reducible first | refine zga ?_ | refine zgb ?_); rfl) | ((with_reducible first | refine zgd ?_ | refine zge ?_); (first | omega | (simp; done))) | (exact Co.refl _) | (exact CoL.refl _) | (exact CoLL.refl _) | ((refine qaai hJ (1, ?_) ?_ ?_ ?_; rotate_left 1; (with_reducible refine qaah [] hm ?_ ?_ ?_ ?_) <;> (try simp only [zT, puth, Nat.reduceEqDiff, reduceIte, Nat.reduceAdd]))) | fail)
      all_goals (try dsimp only)
      all_goals (refine ⟨by omega, ?_⟩; rw [h5.out]; clear h5; refine qadq ?_; unfold toF; (repeat' split) <;> first | rfl | (exfalso; simp_all; omega) | (exfalso; simp_all; done))
     ·replace h4 := Lib.hid h4
      repeat' (first | (with_reducible refine zA ?_) | ((with_reducible refine qaac ?_); (try rw [hP]); simp -implicitDefEqProofs [*]) | ((with_reducible refine qaak ?_); (try simp -implicitDefEqProofs [*])) | ((with_reducible refine qaam ?_); (try simp only [qaap, qaag, qaaj])) | ((with_reducible refine qaaa rfl (fun h => ?_) (fun h => ?_)) <;> have h' := h <;> (try simp at h') <;> (try subst h')) | (with_reducible refine zM hm ?_) | fail)
      rw [h4.out]; rfl
    ·rw [if_neg he] at h4
     have ke : (e == 0) = false := by simpa using he
     replace h4 := Lib.hid h4
     repeat' (first | (with_reducible refine zA ?_) | ((with_reducible refine qaac ?_); (try rw [hP]); simp -implicitDefEqProofs [*]) | ((with_reducible refine qaak ?_); (try simp -implicitDefEqProofs [*])) | ((with_reducible refine qaam ?_); (try simp only [qaap, qaag, qaaj])) | ((with_reducible refine qaaa rfl (fun h => ?_) (fun h => ?_)) <;> have h' := h <;> (try simp at h') <;> (try subst h')) | ((with_reducible refine qaan (fun h => ?_) (fun h => ?_)) <;> have h' := h <;> (try simp at h') <;> (try subst h') <;> simp -implicitDefEqProofs [*]) | (with_reducible refine zM hm ?_) | fail)
     all_goals (rw [h4.out])
 have k1 : (x.kind == 1) = false := by simpa using kn1
 rw [if_neg kn1] at hA
 clear kn1
 by_cases kn2 : x.kind = 2
 ·have k2 : (x.kind == 2) = true := by simpa using kn2
  rw [if_pos kn2] at hA
  clear kn2
  cases kb : (decide (x.n < 0) || decide ((p.acts.length : Int) ≤ x.n)) <;> rw [kb] at hA
  ·obtain ⟨b1, b2⟩ := Bool.or_eq_false_iff.1 kb
   have b3 := of_decide_eq_false b1
   have b4 := of_decide_eq_false b2
   have hlt : x.n.toNat < p.acts.length := by omega
   have : actW p.acts x.n = p.acts[x.n.toNat].w := by unfold actW; rw [List.getElem?_eq_getElem hlt]; rfl
   rw [this] at hA
   generalize hB : p.acts[x.n.toNat] = B at hA
   rw [show decide (0 < (B.w.length : Int)) = decide (0 < B.w.length) from decide_eq_decide.2 (by omega)] at hA
   clear kb this
   cases kw : decide (0 < B.w.length) <;> rw [kw] at hA
   ·have hI : F = if (0 : Int) = 0 then qadp p i ([x.yes].drop 0) else 0 := hA
    clear hA
    replace hI := Lib.hid hI
    repeat' (first | (with_reducible first | refine zA ?_ | refine qaae ?_) | ((with_reducible refine qaac ?_); (try rw [hP]); simp -implicitDefEqProofs [*]) | ((with_reducible refine qaaf ?_); (try simp -implicitDefEqProofs [*])) | ((with_reducible refine qaaa rfl (fun h => ?_) (fun h => ?_)) <;> have h' := h <;> (try simp at h') <;> (try subst h')) | ((with_reducible refine qabo ?_ ?_); (first | omega | (unfold maxLen; omega)); simp -implicitDefEqProofs [*]) | fail)
    refine qaal (qaa5 (fun s (y : Nat × Int) => s.turn [(6, .int .i64 y.2), (8, .int .i64 y.1)] []) (fun y => y.1 ≤ 1 ∧ F = if y.2 = 0 then qadp p i ([x.yes].drop y.1) else y.2) (fun y => 1 - y.1) (0, 0) ?_ ⟨by simp, hI.out⟩ ?_)
    ·repeat' (first | ((with_reducible refine qaah [] hm ?_ ?_ ?_ ?_) <;> (try simp only [zT, puth, Nat.reduceEqDiff, reduceIte, Nat.reduceAdd])) | (with_reducible first | refine za ?_ ?_ | refine zb ?_ ?_ ?_ ?_ | refine zd ?_ ?_ ?_ ?_) | (with_reducible first | exact qaab | exact qaad) | ((with_reducible first | refine zga ?_ | refine zgb ?_); rfl) | ((with_reducible refine zgd ?_); (first | omega | (simp; done))) | (exact Co.refl _) | (exact CoL.refl _) | (exact CoLL.refl _) | fail)
    rintro J hJ ⟨k, e⟩ ⟨h3, h4⟩
    unfold qada
    simp only [zT, puth, Nat.reduceEqDiff, reduceIte, Nat.reduceAdd] at h3 h4 ⊢
    by_cases he : e = 0
    ·subst he
     rw [if_pos rfl] at h4
     have hk : k = 0 ∨ k = 1 := by omega
     rcases hk with rfl | rfl
     ·have h5 : F = if toF p i x.yes = 0 then qadp p i [] else toF p i x.yes := h4
      clear h4
      replace h5 := Lib.hid h5
      repeat' (first | (with_reducible first | refine zA ?_ | refine qaae ?_ | refine zK ?_) | ((with_reducible first | refine qaac ?_ | refine qaaz (by rw [hP]; exact qacz) ?_); (try rw [hP]); simp -implicitDefEqProofs [*]) | ((with_reducible refine qaaf ?_); (try simp -implicitDefEqProofs [*])) | ((with_reducible refine qaaa rfl (fun h => ?_) (fun h => ?_)) <;> have h' := h <;> (try simp at h') <;> (try subst h')) | ((with_reducible refine qaan (fun h => ?_) (fun h => ?_)) <;> have h' := h <;> (try simp at h') <;> (try subst h') <;> simp -implicitDefEqProofs [*]) | (with_reducible first | refine za ?_ ?_ | refine zb ?_ ?_ ?_ ?_ | refine zd ?_ ?_ ?_ ?_) | (with_reducible first | exact qaab | exact qaad) | ((with_reducible first | refine zga ?_ | refine zgb ?_); rfl) | ((with_reducible first | refine zgd ?_ | refine zge ?_); (first | omega | (simp; done))) | (exact Co.refl _) | (exact CoL.refl _) | (exact CoLL.refl _) | ((refine qaai hJ (1, ?_) ?_ ?_ ?_; rotate_left 1; (with_reducible refine qaah [] hm ?_ ?_ ?_ ?_) <;> (try simp only [zT, puth, Nat.reduceEqDiff, reduceIte, Nat.reduceAdd]))) | fail)
      all_goals (try dsimp only)
      all_goals (refine ⟨by omega, ?_⟩; rw [h5.out]; clear h5; refine qadq ?_; unfold toF; (repeat' split) <;> first | rfl | (exfalso; simp_all; omega) | (exfalso; simp_all; done))
     ·replace h4 := Lib.hid h4
      repeat' (first | (with_reducible refine zA ?_) | ((with_reducible refine qaac ?_); (try rw [hP]); simp -implicitDefEqProofs [*]) | ((with_reducible refine qaak ?_); (try simp -implicitDefEqProofs [*])) | ((with_reducible refine qaam ?_); (try simp only [qaap, qaag, qaaj])) | ((with_reducible refine qaaa rfl (fun h => ?_) (fun h => ?_)) <;> have h' := h <;> (try simp at h') <;> (try subst h')) | (with_reducible refine zM hm ?_) | fail)
      rw [h4.out]; rfl
    ·rw [if_neg he] at h4
     have ke : (e == 0) = false := by simpa using he
     replace h4 := Lib.hid h4
     repeat' (first | (with_reducible refine zA ?_) | ((with_reducible refine qaac ?_); (try rw [hP]); simp -implicitDefEqProofs [*]) | ((with_reducible refine qaak ?_); (try simp -implicitDefEqProofs [*])) | ((with_reducible refine qaam ?_); (try simp only [qaap, qaag, qaaj])) | ((with_reducible refine qaaa rfl (fun h => ?_) (fun h => ?_)) <;> have h' := h <;> (try simp at h') <;> (try subst h')) | ((with_reducible refine qaan (fun h => ?_) (fun h => ?_)) <;> have h' := h <;> (try simp at h') <;> (try subst h') <;> simp -implicitDefEqProofs [*]) | (with_reducible refine zM hm ?_) | fail)
     all_goals (rw [h4.out])
   ·have hI : F = if (2 : Int) = 0 then qadp p i ([x.yes].drop 0) else 2 := hA
    clear hA
    replace hI := Lib.hid hI
    repeat' (first | (with_reducible first | refine zA ?_ | refine qaae ?_) | ((with_reducible refine qaac ?_); (try rw [hP]); simp -implicitDefEqProofs [*]) | ((with_reducible refine qaaa rfl (fun h => ?_) (fun h => ?_)) <;> have h' := h <;> (try simp at h') <;> (try subst h')) | ((with_reducible refine qabo ?_ ?_); (first | omega | (unfold maxLen; omega)); simp -implicitDefEqProofs [*]) | fail)
    refine qaal (qaa5 (fun s (y : Nat × Int) => s.turn [(6, .int .i64 y.2), (8, .int .i64 y.1)] []) (fun y => y.1 ≤ 1 ∧ F = if y.2 = 0 then qadp p i ([x.yes].drop y.1) else y.2) (fun y => 1 - y.1) (0, 2) ?_ ⟨by simp, hI.out⟩ ?_)
    ·repeat' (first | ((with_reducible refine qaah [] hm ?_ ?_ ?_ ?_) <;> (try simp only [zT, puth, Nat.reduceEqDiff, reduceIte, Nat.reduceAdd])) | (with_reducible first | refine za ?_ ?_ | refine zb ?_ ?_ ?_ ?_ | refine zd ?_ ?_ ?_ ?_) | (with_reducible first | exact qaab | exact qaad) | ((with_reducible first | refine zga ?_ | refine zgb ?_); rfl) | ((with_reducible refine zgd ?_); (first | omega | (simp; done))) | (exact Co.refl _) | (exact CoL.refl _) | (exact CoLL.refl _) | fail)
    rintro J hJ ⟨k, e⟩ ⟨h3, h4⟩
    unfold qada
    simp only [zT, puth, Nat.reduceEqDiff, reduceIte, Nat.reduceAdd] at h3 h4 ⊢
    by_cases he : e = 0
    ·subst he
     rw [if_pos rfl] at h4
     have hk : k = 0 ∨ k = 1 := by omega
     rcases hk with rfl | rfl
     ·have h5 : F = if toF p i x.yes = 0 then qadp p i [] else toF p i x.yes := h4
      clear h4
      replace h5 := Lib.hid h5
      repeat' (first | (with_reducible first | refine zA ?_ | refine qaae ?_ | refine zK ?_) | ((with_reducible first | refine qaac ?_ | refine qaaz (by rw [hP]; exact qacz) ?_); (try rw [hP]); simp -implicitDefEqProofs [*]) | ((with_reducible refine qaaf ?_); (try simp -implicitDefEqProofs [*])) | ((with_reducible refine qaaa rfl (fun h => ?_) (fun h => ?_)) <;> have h' := h <;> (try simp at h') <;> (try subst h')) | ((with_reducible refine qaan (fun h => ?_) (fun h => ?_)) <;> have h' := h <;> (try simp at h') <;> (try subst h') <;> simp -implicitDefEqProofs [*]) | (with_reducible first | refine za ?_ ?_ | refine zb ?_ ?_ ?_ ?_ | refine zd ?_ ?_ ?_ ?_) | (with_reducible first | exact qaab | exact qaad) | ((with_reducible first | refine zga ?_ | refine zgb ?_); rfl) | ((with_reducible first | refine zgd ?_ | refine zge ?_); (first | omega | (simp; done))) | (exact Co.refl _) | (exact CoL.refl _) | (exact CoLL.refl _) | ((refine qaai hJ (1, ?_) ?_ ?_ ?_; rotate_left 1; (with_reducible refine qaah [] hm ?_ ?_ ?_ ?_) <;> (try simp only [zT, puth, Nat.reduceEqDiff, reduceIte, Nat.reduceAdd]))) | fail)
      all_goals (try dsimp only)
      all_goals (refine ⟨by omega, ?_⟩; rw [h5.out]; clear h5; refine qadq ?_; unfold toF; (repeat' split) <;> first | rfl | (exfalso; simp_all; omega) | (exfalso; simp_all; done))
     ·replace h4 := Lib.hid h4
      repeat' (first | (with_reducible refine zA ?_) | ((with_reducible refine qaac ?_); (try rw [hP]); simp -implicitDefEqProofs [*]) | ((with_reducible refine qaak ?_); (try simp -implicitDefEqProofs [*])) | ((with_reducible refine qaam ?_); (try simp only [qaap, qaag, qaaj])) | ((with_reducible refine qaaa rfl (fun h => ?_) (fun h => ?_)) <;> have h' := h <;> (try simp at h') <;> (try subst h')) | (with_reducible refine zM hm ?_) | fail)
      rw [h4.out]; rfl
    ·rw [if_neg he] at h4
     have ke : (e == 0) = false := by simpa using he
     replace h4 := Lib.hid h4
     repeat' (first | (with_reducible refine zA ?_) | ((with_reducible refine qaac ?_); (try rw [hP]); simp -implicitDefEqProofs [*]) | ((with_reducible refine qaak ?_); (try simp -implicitDefEqProofs [*])) | ((with_reducible refine qaam ?_); (try simp only [qaap, qaag, qaaj])) | ((with_reducible refine qaaa rfl (fun h => ?_) (fun h => ?_)) <;> have h' := h <;> (try simp at h') <;> (try subst h')) | ((with_reducible refine qaan (fun h => ?_) (fun h => ?_)) <;> have h' := h <;> (try simp at h') <;> (try subst h') <;> simp -implicitDefEqProofs [*]) | (with_reducible refine zM hm ?_) | fail)
     all_goals (rw [h4.out])
  ·have hI : F = if (1 : Int) = 0 then qadp p i ([x.yes].drop 0) else 1 := hA
   replace kb := Lib.hid kb
   clear hA
   replace hI := Lib.hid hI
   repeat' (first | (with_reducible first | refine zA ?_ | refine qaae ?_) | ((with_reducible refine qaac ?_); (try rw [hP]); simp -implicitDefEqProofs [*]) | ((with_reducible refine qaaf ?_); (try simp -implicitDefEqProofs [*])) | ((with_reducible refine qaaa rfl (fun h => ?_) (fun h => ?_)) <;> have h' := h <;> (try simp at h') <;> (try subst h')) | ((with_reducible refine qaan (fun h => ?_) (fun h => ?_)) <;> have h' := h <;> (try simp at h') <;> (try subst h') <;> simp -implicitDefEqProofs [*]) | fail)
   all_goals (try (exfalso; have q := kb.out; simp only [Bool.or_eq_true, decide_eq_true_eq] at q; omega))
   all_goals
    refine qaal (qaa5 (fun s (y : Nat × Int) => s.turn [(6, .int .i64 y.2), (8, .int .i64 y.1)] []) (fun y => y.1 ≤ 1 ∧ F = if y.2 = 0 then qadp p i ([x.yes].drop y.1) else y.2) (fun y => 1 - y.1) (0, 1) ?_ ⟨by simp, hI.out⟩ ?_)
    ·repeat' (first | ((with_reducible refine qaah [] hm ?_ ?_ ?_ ?_) <;> (try simp only [zT, puth, Nat.reduceEqDiff, reduceIte, Nat.reduceAdd])) | (with_reducible first | refine za ?_ ?_ | refine zb ?_ ?_ ?_ ?_ | refine zd ?_ ?_ ?_ ?_) | (with_reducible first | exact qaab | exact qaad) | ((with_reducible first | refine zga ?_ | refine zgb ?_); rfl) | ((with_reducible refine zgd ?_); (first | omega | (simp; done))) | (exact Co.refl _) | (exact CoL.refl _) | (exact CoLL.refl _) | fail)
    rintro J hJ ⟨k, e⟩ ⟨h3, h4⟩
    unfold qada
    simp only [zT, puth, Nat.reduceEqDiff, reduceIte, Nat.reduceAdd] at h3 h4 ⊢
    by_cases he : e = 0
    ·subst he
     rw [if_pos rfl] at h4
     have hk : k = 0 ∨ k = 1 := by omega
     rcases hk with rfl | rfl
     ·have h5 : F = if toF p i x.yes = 0 then qadp p i [] else toF p i x.yes := h4
      clear h4
      replace h5 := Lib.hid h5
      repeat' (first | (with_reducible first | refine zA ?_ | refine qaae ?_ | refine zK ?_) | ((with_reducible first | refine qaac ?_ | refine qaaz (by rw [hP]; exact qacz) ?_); (try rw [hP]); simp -implicitDefEqProofs [*]) | ((with_reducible refine qaaf ?_); (try simp -implicitDefEqProofs [*])) | ((with_reducible refine qaaa rfl (fun h => ?_) (fun h => ?_)) <;> have h' := h <;> (try simp at h') <;> (try subst h')) | ((with_reducible refine qaan (fun h => ?_) (fun h => ?_)) <;> have h' := h <;> (try simp at h') <;> (try subst h') <;> simp -implicitDefEqProofs [*]) | (with_reducible first | refine za ?_ ?_ | refine zb ?_ ?_ ?_ ?_ | refine zd ?_ ?_ ?_ ?_) | (with_reducible first | exact qaab | exact qaad) | ((with_reducible first | refine zga ?_ | refine zgb ?_); rfl) | ((with_reducible first | refine zgd ?_ | refine zge ?_); (first | omega | (simp; done))) | (exact Co.refl _) | (exact CoL.refl _) | (exact CoLL.refl _) | ((refine qaai hJ (1, ?_) ?_ ?_ ?_; rotate_left 1; (with_reducible refine qaah [] hm ?_ ?_ ?_ ?_) <;> (try simp only [zT, puth, Nat.reduceEqDiff, reduceIte, Nat.reduceAdd]))) | fail)
      all_goals (try dsimp only)
      all_goals (refine ⟨by omega, ?_⟩; rw [h5.out]; clear h5; refine qadq ?_; unfold toF; (repeat' split) <;> first | rfl | (exfalso; simp_all; omega) | (exfalso; simp_all; done))
     ·replace h4 := Lib.hid h4
      repeat' (first | (with_reducible refine zA ?_) | ((with_reducible refine qaac ?_); (try rw [hP]); simp -implicitDefEqProofs [*]) | ((with_reducible refine qaak ?_); (try simp -implicitDefEqProofs [*])) | ((with_reducible refine qaam ?_); (try simp only [qaap, qaag, qaaj])) | ((with_reducible refine qaaa rfl (fun h => ?_) (fun h => ?_)) <;> have h' := h <;> (try simp at h') <;> (try subst h')) | (with_reducible refine zM hm ?_) | fail)
      rw [h4.out]; rfl
    ·rw [if_neg he] at h4
     have ke : (e == 0) = false := by simpa using he
     replace h4 := Lib.hid h4
     repeat' (first | (with_reducible refine zA ?_) | ((with_reducible refine qaac ?_); (try rw [hP]); simp -implicitDefEqProofs [*]) | ((with_reducible refine qaak ?_); (try simp -implicitDefEqProofs [*])) | ((with_reducible refine qaam ?_); (try simp only [qaap, qaag, qaaj])) | ((with_reducible refine qaaa rfl (fun h => ?_) (fun h => ?_)) <;> have h' := h <;> (try simp at h') <;> (try subst h')) | ((with_reducible refine qaan (fun h => ?_) (fun h => ?_)) <;> have h' := h <;> (try simp at h') <;> (try subst h') <;> simp -implicitDefEqProofs [*]) | (with_reducible refine zM hm ?_) | fail)
     all_goals (rw [h4.out])
 have k2 : (x.kind == 2) = false := by simpa using kn2
 rw [if_neg kn2] at hA
 clear kn2
 by_cases kn3 : x.kind = 3
 ·have k3 : (x.kind == 3) = true := by simpa using kn3
  rw [if_pos kn3] at hA
  have hce : ∀ q, SCalls Tryz.prog 137 [.agg (qacm p), qab2 x.e, .nilsl] [] q (.int .i64 (qafi p x.e [])) [] := fun q => qahc (qbhl p x.e [] hw q) ⟨Co.refl _, Co.refl _, Co.nilsl _, trivial⟩
  generalize qafi p x.e [] = E at hA hce
  have hI : F = if E = 0 then qadp p i ([x.yes, x.no].drop 0) else E := hA
  clear kn3 hA
  replace hI := Lib.hid hI
  replace hce := Lib.hid hce
  repeat' (first | (with_reducible first | refine zA ?_ | refine qaae ?_) | ((with_reducible refine qaac ?_); (try rw [hP]); simp -implicitDefEqProofs [*]) | ((with_reducible refine qaaa rfl (fun h => ?_) (fun h => ?_)) <;> have h' := h <;> (try simp at h') <;> (try subst h')) | (refine qaaw (hce.out _) ?_; simp -implicitDefEqProofs [*]) | fail)
  refine qaal (qaa5 (fun s (y : Nat × Int) => s.turn [(6, .int .i64 y.2), (8, .int .i64 y.1)] []) (fun y => y.1 ≤ 2 ∧ F = if y.2 = 0 then qadp p i ([x.yes, x.no].drop y.1) else y.2) (fun y => 2 - y.1) (0, E) ?_ ⟨by simp, hI.out⟩ ?_)
  ·repeat' (first | ((with_reducible refine qaah [] hm ?_ ?_ ?_ ?_) <;> (try simp only [zT, puth, Nat.reduceEqDiff, reduceIte, Nat.reduceAdd])) | (with_reducible first | refine za ?_ ?_ | refine zb ?_ ?_ ?_ ?_ | refine zd ?_ ?_ ?_ ?_) | (with_reducible first | exact qaab | exact qaad) | ((with_reducible first | refine zga ?_ | refine zgb ?_); rfl) | ((with_reducible refine zgd ?_); (first | omega | (simp; done))) | (exact Co.refl _) | (exact CoL.refl _) | (exact CoLL.refl _) | fail)
  rintro J hJ ⟨k, e⟩ ⟨h3, h4⟩
  unfold qada
  simp only [zT, puth, Nat.reduceEqDiff, reduceIte, Nat.reduceAdd] at h3 h4 ⊢
  by_cases he : e = 0
  ·subst he
   rw [if_pos rfl] at h4
   have hk : k = 0 ∨ k = 1 ∨ k = 2 := by omega
   rcases hk with rfl | rfl | rfl
   ·have h5 : F = if toF p i x.yes = 0 then qadp p i [x.no] else toF p i x.yes := h4
    clear h4
    replace h5 := Lib.hid h5
    repeat' (first | (with_reducible first | refine zA ?_ | refine qaae ?_ | refine zK ?_) | ((with_reducible first | refine qaac ?_ | refine qaaz (by rw [hP]; exact qacz) ?_); (try rw [hP]); simp -implicitDefEqProofs [*]) | ((with_reducible refine qaaf ?_); (try simp -implicitDefEqProofs [*])) | ((with_reducible refine qaaa rfl (fun h => ?_) (fun h => ?_)) <;> have h' := h <;> (try simp at h') <;> (try subst h')) | ((with_reducible refine qaan (fun h => ?_) (fun h => ?_)) <;> have h' := h <;> (try simp at h') <;> (try subst h') <;> simp -implicitDefEqProofs [*]) | (with_reducible first | refine za ?_ ?_ | refine zb ?_ ?_ ?_ ?_ | refine zd ?_ ?_ ?_ ?_) | (with_reducible first | exact qaab | exact qaad) | ((with_reducible first | refine zga ?_ | refine zgb ?_); rfl) | ((with_reducible first | refine zgd ?_ | refine zge ?_); (first | omega | (simp; done))) | (exact Co.refl _) | (exact CoL.refl _) | (exact CoLL.refl _) | ((refine qaai hJ (1, ?_) ?_ ?_ ?_; rotate_left 1; (with_reducible refine qaah [] hm ?_ ?_ ?_ ?_) <;> (try simp only [zT, puth, Nat.reduceEqDiff, reduceIte, Nat.reduceAdd]))) | fail)
    all_goals (try dsimp only)
    all_goals (refine ⟨by omega, ?_⟩; rw [h5.out]; clear h5; refine qadq ?_; unfold toF; (repeat' split) <;> first | rfl | (exfalso; simp_all; omega) | (exfalso; simp_all; done))
   ·have h5 : F = if toF p i x.no = 0 then qadp p i [] else toF p i x.no := h4
    clear h4
    replace h5 := Lib.hid h5
    repeat' (first | (with_reducible first | refine zA ?_ | refine qaae ?_ | refine zK ?_) | ((with_reducible first | refine qaac ?_ | refine qaaz (by rw [hP]; exact qacz) ?_); (try rw [hP]); simp -implicitDefEqProofs [*]) | ((with_reducible refine qaaf ?_); (try simp -implicitDefEqProofs [*])) | ((with_reducible refine qaaa rfl (fun h => ?_) (fun h => ?_)) <;> have h' := h <;> (try simp at h') <;> (try subst h')) | ((with_reducible refine qaan (fun h => ?_) (fun h => ?_)) <;> have h' := h <;> (try simp at h') <;> (try subst h') <;> simp -implicitDefEqProofs [*]) | (with_reducible first | refine za ?_ ?_ | refine zb ?_ ?_ ?_ ?_ | refine zd ?_ ?_ ?_ ?_) | (with_reducible first | exact qaab | exact qaad) | ((with_reducible first | refine zga ?_ | refine zgb ?_); rfl) | ((with_reducible first | refine zgd ?_ | refine zge ?_); (first | omega | (simp; done))) | (exact Co.refl _) | (exact CoL.refl _) | (exact CoLL.refl _) | ((refine qaai hJ (2, ?_) ?_ ?_ ?_; rotate_left 1; (with_reducible refine qaah [] hm ?_ ?_ ?_ ?_) <;> (try simp only [zT, puth, Nat.reduceEqDiff, reduceIte, Nat.reduceAdd]))) | fail)
    all_goals (try dsimp only)
    all_goals (refine ⟨by omega, ?_⟩; rw [h5.out]; clear h5; refine qadq ?_; unfold toF; (repeat' split) <;> first | rfl | (exfalso; simp_all; omega) | (exfalso; simp_all; done))
   ·replace h4 := Lib.hid h4
    repeat' (first | (with_reducible refine zA ?_) | ((with_reducible refine qaac ?_); (try rw [hP]); simp -implicitDefEqProofs [*]) | ((with_reducible refine qaak ?_); (try simp -implicitDefEqProofs [*])) | ((with_reducible refine qaam ?_); (try simp only [qaap, qaag, qaaj])) | ((with_reducible refine qaaa rfl (fun h => ?_) (fun h => ?_)) <;> have h' := h <;> (try simp at h') <;> (try subst h')) | (with_reducible refine zM hm ?_) | fail)
    rw [h4.out]; rfl
  ·rw [if_neg he] at h4
   have ke : (e == 0) = false := by simpa using he
   replace h4 := Lib.hid h4
   repeat' (first | (with_reducible refine zA ?_) | ((with_reducible refine qaac ?_); (try rw [hP]); simp -implicitDefEqProofs [*]) | ((with_reducible refine qaak ?_); (try simp -implicitDefEqProofs [*])) | ((with_reducible refine qaam ?_); (try simp only [qaap, qaag, qaaj])) | ((with_reducible refine qaaa rfl (fun h => ?_) (fun h => ?_)) <;> have h' := h <;> (try simp at h') <;> (try subst h')) | ((with_reducible refine qaan (fun h => ?_) (fun h => ?_)) <;> have h' := h <;> (try simp at h') <;> (try subst h') <;> simp -implicitDefEqProofs [*]) | (with_reducible refine zM hm ?_) | fail)
   all_goals (rw [h4.out])
 have k3 : (x.kind == 3) = false := by simpa using kn3
 rw [if_neg kn3] at hA
 clear kn3
 by_cases kn4 : x.kind = 4
 ·have k4 : (x.kind == 4) = true := by simpa using kn4
  rw [if_pos kn4] at hA
  have hch := fun q => qasr p x.n q
  generalize qac0 p x.n = H at hA hch
  clear kn4
  cases kH : H <;> rw [kH] at hA hch
  ·have hI : F = if (1 : Int) = 0 then qadp p i ([x.yes, x.no].drop 0) else 1 := hA
   clear hA
   replace hI := Lib.hid hI
   repeat' (first | (with_reducible first | refine zA ?_ | refine qaae ?_) | ((with_reducible refine qaac ?_); (try rw [hP]); simp -implicitDefEqProofs [*]) | ((with_reducible refine qaaa rfl (fun h => ?_) (fun h => ?_)) <;> have h' := h <;> (try simp at h') <;> (try subst h')) | (refine qaaw (hch _) ?_; simp -implicitDefEqProofs [*]) | fail)
   refine qaal (qaa5 (fun s (y : Nat × Int) => s.turn [(6, .int .i64 y.2), (8, .int .i64 y.1)] []) (fun y => y.1 ≤ 2 ∧ F = if y.2 = 0 then qadp p i ([x.yes, x.no].drop y.1) else y.2) (fun y => 2 - y.1) (0, 1) ?_ ⟨by simp, hI.out⟩ ?_)
   ·repeat' (first | ((with_reducible refine qaah [] hm ?_ ?_ ?_ ?_) <;> (try simp only [zT, puth, Nat.reduceEqDiff, reduceIte, Nat.reduceAdd])) | (with_reducible first | refine za ?_ ?_ | refine zb ?_ ?_ ?_ ?_ | refine zd ?_ ?_ ?_ ?_) | (with_reducible first | exact qaab | exact qaad) | ((with_reducible first | refine zga ?_ | refine zgb ?_); rfl) | ((with_reducible refine zgd ?_); (first | omega | (simp; done))) | (exact Co.refl _) | (exact CoL.refl _) | (exact CoLL.refl _) | fail)
   rintro J hJ ⟨k, e⟩ ⟨h3, h4⟩
   unfold qada
   simp only [zT, puth, Nat.reduceEqDiff, reduceIte, Nat.reduceAdd] at h3 h4 ⊢
   by_cases he : e = 0
   ·subst he
    rw [if_pos rfl] at h4
    have hk : k = 0 ∨ k = 1 ∨ k = 2 := by omega
    rcases hk with rfl | rfl | rfl
    ·have h5 : F = if toF p i x.yes = 0 then qadp p i [x.no] else toF p i x.yes := h4
     clear h4
     replace h5 := Lib.hid h5
     repeat' (first | (with_reducible first | refine zA ?_ | refine qaae ?_ | refine zK ?_) | ((with_reducible first | refine qaac ?_ | refine qaaz (by rw [hP]; exact qacz) ?_); (try rw [hP]); simp -implicitDefEqProofs [*]) | ((with_reducible refine qaaf ?_); (try simp -implicitDefEqProofs [*])) | ((with_reducible refine qaaa rfl (fun h => ?_) (fun h => ?_)) <;> have h' := h <;> (try simp at h') <;> (try subst h')) | ((with_reducible refine qaan (fun h => ?_) (fun h => ?_)) <;> have h' := h <;> (try simp at h') <;> (try subst h') <;> simp -implicitDefEqProofs [*]) | (with_reducible first | refine za ?_ ?_ | refine zb ?_ ?_ ?_ ?_ | refine zd ?_ ?_ ?_ ?_) | (with_reducible first | exact qaab | exact qaad) | ((with_reducible first | refine zga ?_ | refine zgb ?_); rfl) | ((with_reducible first | refine zgd ?_ | refine zge ?_); (first | omega | (simp; done))) | (exact Co.refl _) | (exact CoL.refl _) | (exact CoLL.refl _) | ((refine qaai hJ (1, ?_) ?_ ?_ ?_; rotate_left 1; (with_reducible refine qaah [] hm ?_ ?_ ?_ ?_) <;> (try simp only [zT, puth, Nat.reduceEqDiff, reduceIte, Nat.reduceAdd]))) | fail)
     all_goals (try dsimp only)
     all_goals (refine ⟨by omega, ?_⟩; rw [h5.out]; clear h5; refine qadq ?_; unfold toF; (repeat' split) <;> first | rfl | (exfalso; simp_all; omega) | (exfalso; simp_all; done))
    ·have h5 : F = if toF p i x.no = 0 then qadp p i [] else toF p i x.no := h4
     clear h4
     replace h5 := Lib.hid h5
     repeat' (first | (with_reducible first | refine zA ?_ | refine qaae ?_ | refine zK ?_) | ((with_reducible first | refine qaac ?_ | refine qaaz (by rw [hP]; exact qacz) ?_); (try rw [hP]); simp -implicitDefEqProofs [*]) | ((with_reducible refine qaaf ?_); (try simp -implicitDefEqProofs [*])) | ((with_reducible refine qaaa rfl (fun h => ?_) (fun h => ?_)) <;> have h' := h <;> (try simp at h') <;> (try subst h')) | ((with_reducible refine qaan (fun h => ?_) (fun h => ?_)) <;> have h' := h <;> (try simp at h') <;> (try subst h') <;> simp -implicitDefEqProofs [*]) | (with_reducible first | refine za ?_ ?_ | refine zb ?_ ?_ ?_ ?_ | refine zd ?_ ?_ ?_ ?_) | (with_reducible first | exact qaab | exact qaad) | ((with_reducible first | refine zga ?_ | refine zgb ?_); rfl) | ((with_reducible first | refine zgd ?_ | refine zge ?_); (first | omega | (simp; done))) | (exact Co.refl _) | (exact CoL.refl _) | (exact CoLL.refl _) | ((refine qaai hJ (2, ?_) ?_ ?_ ?_; rotate_left 1; (with_reducible refine qaah [] hm ?_ ?_ ?_ ?_) <;> (try simp only [zT, puth, Nat.reduceEqDiff, reduceIte, Nat.reduceAdd]))) | fail)
     all_goals (try dsimp only)
     all_goals (refine ⟨by omega, ?_⟩; rw [h5.out]; clear h5; refine qadq ?_; unfold toF; (repeat' split) <;> first | rfl | (exfalso; simp_all; omega) | (exfalso; simp_all; done))
    ·replace h4 := Lib.hid h4
     repeat' (first | (with_reducible refine zA ?_) | ((with_reducible refine qaac ?_); (try rw [hP]); simp -implicitDefEqProofs [*]) | ((with_reducible refine qaak ?_); (try simp -implicitDefEqProofs [*])) | ((with_reducible refine qaam ?_); (try simp only [qaap, qaag, qaaj])) | ((with_reducible refine qaaa rfl (fun h => ?_) (fun h => ?_)) <;> have h' := h <;> (try simp at h') <;> (try subst h')) | (with_reducible refine zM hm ?_) | fail)
     rw [h4.out]; rfl
   ·rw [if_neg he] at h4
    have ke : (e == 0) = false := by simpa using he
    replace h4 := Lib.hid h4
    repeat' (first | (with_reducible refine zA ?_) | ((with_reducible refine qaac ?_); (try rw [hP]); simp -implicitDefEqProofs [*]) | ((with_reducible refine qaak ?_); (try simp -implicitDefEqProofs [*])) | ((with_reducible refine qaam ?_); (try simp only [qaap, qaag, qaaj])) | ((with_reducible refine qaaa rfl (fun h => ?_) (fun h => ?_)) <;> have h' := h <;> (try simp at h') <;> (try subst h')) | ((with_reducible refine qaan (fun h => ?_) (fun h => ?_)) <;> have h' := h <;> (try simp at h') <;> (try subst h') <;> simp -implicitDefEqProofs [*]) | (with_reducible refine zM hm ?_) | fail)
    all_goals (rw [h4.out])
  ·have hI : F = if (0 : Int) = 0 then qadp p i ([x.yes, x.no].drop 0) else 0 := hA
   clear hA
   replace hI := Lib.hid hI
   repeat' (first | (with_reducible first | refine zA ?_ | refine qaae ?_) | ((with_reducible refine qaac ?_); (try rw [hP]); simp -implicitDefEqProofs [*]) | ((with_reducible refine qaaf ?_); (try simp -implicitDefEqProofs [*])) | ((with_reducible refine qaaa rfl (fun h => ?_) (fun h => ?_)) <;> have h' := h <;> (try simp at h') <;> (try subst h')) | (refine qaaw (hch _) ?_; simp -implicitDefEqProofs [*]) | fail)
   refine qaal (qaa5 (fun s (y : Nat × Int) => s.turn [(6, .int .i64 y.2), (8, .int .i64 y.1)] []) (fun y => y.1 ≤ 2 ∧ F = if y.2 = 0 then qadp p i ([x.yes, x.no].drop y.1) else y.2) (fun y => 2 - y.1) (0, 0) ?_ ⟨by simp, hI.out⟩ ?_)
   ·repeat' (first | ((with_reducible refine qaah [] hm ?_ ?_ ?_ ?_) <;> (try simp only [zT, puth, Nat.reduceEqDiff, reduceIte, Nat.reduceAdd])) | (with_reducible first | refine za ?_ ?_ | refine zb ?_ ?_ ?_ ?_ | refine zd ?_ ?_ ?_ ?_) | (with_reducible first | exact qaab | exact qaad) | ((with_reducible first | refine zga ?_ | refine zgb ?_); rfl) | ((with_reducible refine zgd ?_); (first | omega | (simp; done))) | (exact Co.refl _) | (exact CoL.refl _) | (exact CoLL.refl _) | fail)
   rintro J hJ ⟨k, e⟩ ⟨h3, h4⟩
   unfold qada
   simp only [zT, puth, Nat.reduceEqDiff, reduceIte, Nat.reduceAdd] at h3 h4 ⊢
   by_cases he : e = 0
   ·subst he
    rw [if_pos rfl] at h4
    have hk : k = 0 ∨ k = 1 ∨ k = 2 := by omega
    rcases hk with rfl | rfl | rfl
    ·have h5 : F = if toF p i x.yes = 0 then qadp p i [x.no] else toF p i x.yes := h4
     clear h4
     replace h5 := Lib.hid h5
     repeat' (first | (with_reducible first | refine zA ?_ | refine qaae ?_ | refine zK ?_) | ((with_reducible first | refine qaac ?_ | refine qaaz (by rw [hP]; exact qacz) ?_); (try rw [hP]); simp -implicitDefEqProofs [*]) | ((with_reducible refine qaaf ?_); (try simp -implicitDefEqProofs [*])) | ((with_reducible refine qaaa rfl (fun h => ?_) (fun h => ?_)) <;> have h' := h <;> (try simp at h') <;> (try subst h')) | ((with_reducible refine qaan (fun h => ?_) (fun h => ?_)) <;> have h' := h <;> (try simp at h') <;> (try subst h') <;> simp -implicitDefEqProofs [*]) | (with_reducible first | refine za ?_ ?_ | refine zb ?_ ?_ ?_ ?_ | refine zd ?_ ?_ ?_ ?_) | (with_reducible first | exact qaab | exact qaad) | ((with_reducible first | refine zga ?_ | refine zgb ?_); rfl) | ((with_reducible first | refine zgd ?_ | refine zge ?_); (first | omega | (simp; done))) | (exact Co.refl _) | (exact CoL.refl _) | (exact CoLL.refl _) | ((refine qaai hJ (1, ?_) ?_ ?_ ?_; rotate_left 1; (with_reducible refine qaah [] hm ?_ ?_ ?_ ?_) <;> (try simp only [zT, puth, Nat.reduceEqDiff, reduceIte, Nat.reduceAdd]))) | fail)
     all_goals (try dsimp only)
     all_goals (refine ⟨by omega, ?_⟩; rw [h5.out]; clear h5; refine qadq ?_; unfold toF; (repeat' split) <;> first | rfl | (exfalso; simp_all; omega) | (exfalso; simp_all; done))
    ·have h5 : F = if toF p i x.no = 0 then qadp p i [] else toF p i x.no := h4
     clear h4
     replace h5 := Lib.hid h5
     repeat' (first | (with_reducible first | refine zA ?_ | refine qaae ?_ | refine zK ?_) | ((with_reducible first | refine qaac ?_ | refine qaaz (by rw [hP]; exact qacz) ?_); (try rw [hP]); simp -implicitDefEqProofs [*]) | ((with_reducible refine qaaf ?_); (try simp -implicitDefEqProofs [*])) | ((with_reducible refine qaaa rfl (fun h => ?_) (fun h => ?_)) <;> have h' := h <;> (try simp at h') <;> (try subst h')) | ((with_reducible refine qaan (fun h => ?_) (fun h => ?_)) <;> have h' := h <;> (try simp at h') <;> (try subst h') <;> simp -implicitDefEqProofs [*]) | (with_reducible first | refine za ?_ ?_ | refine zb ?_ ?_ ?_ ?_ | refine zd ?_ ?_ ?_ ?_) | (with_reducible first | exact qaab | exact qaad) | ((with_reducible first | refine zga ?_ | refine zgb ?_); rfl) | ((with_reducible first | refine zgd ?_ | refine zge ?_); (first | omega | (simp; done))) | (exact Co.refl _) | (exact CoL.refl _) | (exact CoLL.refl _) | ((refine qaai hJ (2, ?_) ?_ ?_ ?_; rotate_left 1; (with_reducible refine qaah [] hm ?_ ?_ ?_ ?_) <;> (try simp only [zT, puth, Nat.reduceEqDiff, reduceIte, Nat.reduceAdd]))) | fail)
     all_goals (try dsimp only)
     all_goals (refine ⟨by omega, ?_⟩; rw [h5.out]; clear h5; refine qadq ?_; unfold toF; (repeat' split) <;> first | rfl | (exfalso; simp_all; omega) | (exfalso; simp_all; done))
    ·replace h4 := Lib.hid h4
     repeat' (first | (with_reducible refine zA ?_) | ((with_reducible refine qaac ?_); (try rw [hP]); simp -implicitDefEqProofs [*]) | ((with_reducible refine qaak ?_); (try simp -implicitDefEqProofs [*])) | ((with_reducible refine qaam ?_); (try simp only [qaap, qaag, qaaj])) | ((with_reducible refine qaaa rfl (fun h => ?_) (fun h => ?_)) <;> have h' := h <;> (try simp at h') <;> (try subst h')) | (with_reducible refine zM hm ?_) | fail)
     rw [h4.out]; rfl
   ·rw [if_neg he] at h4
    have ke : (e == 0) = false := by simpa using he
    replace h4 := Lib.hid h4
    repeat' (first | (with_reducible refine zA ?_) | ((with_reducible refine qaac ?_); (try rw [hP]); simp -implicitDefEqProofs [*]) | ((with_reducible refine qaak ?_); (try simp -implicitDefEqProofs [*])) | ((with_reducible refine qaam ?_); (try simp only [qaap, qaag, qaaj])) | ((with_reducible refine qaaa rfl (fun h => ?_) (fun h => ?_)) <;> have h' := h <;> (try simp at h') <;> (try subst h')) | ((with_reducible refine qaan (fun h => ?_) (fun h => ?_)) <;> have h' := h <;> (try simp at h') <;> (try subst h') <;> simp -implicitDefEqProofs [*]) | (with_reducible refine zM hm ?_) | fail)
    all_goals (rw [h4.out])
 have k4 : (x.kind == 4) = false := by simpa using kn4
 rw [if_neg kn4] at hA
 have hI : F = if (5 : Int) = 0 then qadp p i ([x.yes].drop 0) else 5 := hA
 clear kn4 hA
 replace hI := Lib.hid hI
 repeat' (first | (with_reducible first | refine zA ?_ | refine qaae ?_) | ((with_reducible refine qaac ?_); (try rw [hP]); simp -implicitDefEqProofs [*]) | ((with_reducible refine qaaa rfl (fun h => ?_) (fun h => ?_)) <;> have h' := h <;> (try simp at h') <;> (try subst h')) | fail)
 refine qaal (qaa5 (fun s (y : Nat × Int) => s.turn [(6, .int .i64 y.2), (8, .int .i64 y.1)] []) (fun y => y.1 ≤ 1 ∧ F = if y.2 = 0 then qadp p i ([x.yes].drop y.1) else y.2) (fun y => 1 - y.1) (0, 5) ?_ ⟨by simp, hI.out⟩ ?_)
 ·repeat' (first | ((with_reducible refine qaah [] hm ?_ ?_ ?_ ?_) <;> (try simp only [zT, puth, Nat.reduceEqDiff, reduceIte, Nat.reduceAdd])) | (with_reducible first | refine za ?_ ?_ | refine zb ?_ ?_ ?_ ?_ | refine zd ?_ ?_ ?_ ?_) | (with_reducible first | exact qaab | exact qaad) | ((with_reducible first | refine zga ?_ | refine zgb ?_); rfl) | ((with_reducible refine zgd ?_); (first | omega | (simp; done))) | (exact Co.refl _) | (exact CoL.refl _) | (exact CoLL.refl _) | fail)
 rintro J hJ ⟨k, e⟩ ⟨h3, h4⟩
 unfold qada
 simp only [zT, puth, Nat.reduceEqDiff, reduceIte, Nat.reduceAdd] at h3 h4 ⊢
 by_cases he : e = 0
 ·subst he
  rw [if_pos rfl] at h4
  have hk : k = 0 ∨ k = 1 := by omega
  rcases hk with rfl | rfl
  ·have h5 : F = if toF p i x.yes = 0 then qadp p i [] else toF p i x.yes := h4
   clear h4
   replace h5 := Lib.hid h5
   repeat' (first | (with_reducible first | refine zA ?_ | refine qaae ?_ | refine zK ?_) | ((with_reducible first | refine qaac ?_ | refine qaaz (by rw [hP]; exact qacz) ?_); (try rw [hP]); simp -implicitDefEqProofs [*]) | ((with_reducible refine qaaf ?_); (try simp -implicitDefEqProofs [*])) | ((with_reducible refine qaaa rfl (fun h => ?_) (fun h => ?_)) <;> have h' := h <;> (try simp at h') <;> (try subst h')) | ((with_reducible refine qaan (fun h => ?_) (fun h => ?_)) <;> have h' := h <;> (try simp at h') <;> (try subst h') <;> simp -implicitDefEqProofs [*]) | (with_reducible first | refine za ?_ ?_ | refine zb ?_ ?_ ?_ ?_ | refine zd ?_ ?_ ?_ ?_) | (with_reducible first | exact qaab | exact qaad) | ((with_reducible first | refine zga ?_ | refine zgb ?_); rfl) | ((with_reducible first | refine zgd ?_ | refine zge ?_); (first | omega | (simp; done))) | (exact Co.refl _) | (exact CoL.refl _) | (exact CoLL.refl _) | ((refine qaai hJ (1, ?_) ?_ ?_ ?_; rotate_left 1; (with_reducible refine qaah [] hm ?_ ?_ ?_ ?_) <;> (try simp only [zT, puth, Nat.reduceEqDiff, reduceIte, Nat.reduceAdd]))) | fail)
   all_goals (try dsimp only)
   all_goals (refine ⟨by omega, ?_⟩; rw [h5.out]; clear h5; refine qadq ?_; unfold toF; (repeat' split) <;> first | rfl | (exfalso; simp_all; omega) | (exfalso; simp_all; done))
  ·replace h4 := Lib.hid h4
   repeat' (first | (with_reducible refine zA ?_) | ((with_reducible refine qaac ?_); (try rw [hP]); simp -implicitDefEqProofs [*]) | ((with_reducible refine qaak ?_); (try simp -implicitDefEqProofs [*])) | ((with_reducible refine qaam ?_); (try simp only [qaap, qaag, qaaj])) | ((with_reducible refine qaaa rfl (fun h => ?_) (fun h => ?_)) <;> have h' := h <;> (try simp at h') <;> (try subst h')) | (with_reducible refine zM hm ?_) | fail)
   rw [h4.out]; rfl
 ·rw [if_neg he] at h4
  have ke : (e == 0) = false := by simpa using he
  replace h4 := Lib.hid h4
  repeat' (first | (with_reducible refine zA ?_) | ((with_reducible refine qaac ?_); (try rw [hP]); simp -implicitDefEqProofs [*]) | ((with_reducible refine qaak ?_); (try simp -implicitDefEqProofs [*])) | ((with_reducible refine qaam ?_); (try simp only [qaap, qaag, qaaj])) | ((with_reducible refine qaaa rfl (fun h => ?_) (fun h => ?_)) <;> have h' := h <;> (try simp at h') <;> (try subst h')) | ((with_reducible refine qaan (fun h => ?_) (fun h => ?_)) <;> have h' := h <;> (try simp at h') <;> (try subst h') <;> simp -implicitDefEqProofs [*]) | (with_reducible refine zM hm ?_) | fail)
  all_goals (rw [h4.out])
end Go.Proofs.YteoijlmgiemffaaGreat
namespace Go.Proofs.YteoijlmgiemffaaGreat
set_option linter.all false
open Go.RowKit
attribute [local simp] qabi qabh qaax qaa7 qaay qaa6 qabf qabg qaar qabr SOp.run SX.ev putd puts argS upds SOp.touch SSt.keep SSt.skip gets geth puth delh idOf SV.cells? setL qadh qadi sbin eq0 eq1 eqL qadf qab9 qaca qaap qabk qaag qabl qabs qaaj qaaq FrzOk qaba qaa1 qaa8 qaa9 qaat qaa0 qabm qaa2 qaav qabb qaau frzS frzH frz frz1 frz0 SlotsM ObjsM ObjM rn ren ren1 ren0 qabu qab7 qacf qabt qabn qacg qace CoL qabc qab3 dels adds idsH qabz
attribute [local simp] qadt refc qaes qaei qab8 opc actc tabc qaea qacm nums
theorem qani (c : Bool) (at_ : Int) (R S : Int × Int) : orF (0, 0) (orF (orF (qasz c at_) R) S) = if c = true then (2, at_) else orF (0, 0) (orF R S) := by
 cases c
 ·rw [show qasz false at_ = (0, 0) from rfl, qado, ← qado (0, 0) (0, 0)]; rfl
 ·rfl
theorem qbic {α : Type} (f : Nat → α → Int) (b : Int) {l : List α} {i : Nat} (hi : i < l.length) {S : Int × Int} : orF (0, 0) (orF (rowF f b i (l.drop i)) S) = if f i l[i] ≠ 0 then (f i l[i], b + i) else orF (0, 0) (orF (rowF f b (i + 1) (l.drop (i + 1))) S) := by
 rw [qadb _ _ hi]
 by_cases h : f i l[i] ≠ 0
 ·rw [if_pos h, if_pos h, qaf8 (f := (f i l[i], b + i)) h]; unfold orF; simp [h]
 ·rw [if_neg h, if_neg h]
theorem qbk8 (S : Int × Int) : orF (0, 0) (orF (0, 0) S) = orF (0, 0) S := by rw [← qado]; rfl
theorem z_last (p : PlanD) : orF (0, 0) (qagj p) = orF (0, 0) (orF (qagj p) (0, 0)) := by rw [qaci (qagj p) rfl]
set_option maxHeartbeats 16000000 in
theorem rform_s (p : PlanD) (hs : SmallP p) (q : Nat) : SCalls Tryz.prog 50 [.agg (qacm p)] [] q (.agg [.int .i64 (qafh p).1, .int .i64 (qafh p).2]) [] := by
 refine qabj ?_ (fun _ => rfl) (fun _ => rfl) rfl q
 refine qaas (N := 229) Tryz.func50 rfl rfl (by kernel_rfl) qaoj (by simp) (by repeat' (first | exact trivial | refine And.intro ?_ ?_ | rfl | decide | exact PureR.ren _)) (by repeat' (first | exact trivial | refine And.intro ?_ ?_ | rfl | decide | exact PureR.ren _)) ?_
 rintro X hP hN hm
 unfold c_rform
 have hF : qafh p = orF (0, 0) (orF (qagm p) (orF (qa4l p) (orF (qadj p) (orF (qaie p) (orF (qag7 p) (orF (qadm p) (qagj p))))))) := (qais p).symm
 generalize qafh p = F at hF
 replace hF := Lib.hid hF
 have hl1 := hs.heads
 have hl2 := hs.metas
 have hl3 := hs.states
 have hl4 := hs.acts
 have hl5 := hs.tabs
 have hl6 := hs.nodes
 have hl7 := hs.outs
 have hS : F = if decide (6 < (p.heads.length : Int)) = true then (2, -1) else orF (0, 0) (orF (rowF (fun _ h => qail h.w) 1000 0 (p.heads.drop 0)) (orF (qa4l p) (orF (qadj p) (orF (qaie p) (orF (qag7 p) (orF (qadm p) (qagj p))))))) := by
  rw [hF.out]; unfold qagm; rw [qani, show decide (6 < p.heads.length) = decide (6 < (p.heads.length : Int)) from decide_eq_decide.2 (by omega)]; rfl
 replace hF := Lib.hid hS
 clear hS
 cases km : decide (6 < (p.heads.length : Int))
 rotate_left
 ·have hz := hF.out
  rw [km, if_pos rfl] at hz
  replace hz := Lib.hid hz
  repeat' (first | (with_reducible refine zA ?_) | ((with_reducible refine qaac ?_); (try rw [hP]); simp -implicitDefEqProofs [*]) | ((with_reducible refine qaam ?_); (try simp only [qaap, qaag, qaaj])) | ((with_reducible refine qaaa rfl (fun h => ?_) (fun h => ?_)) <;> have h' := h <;> (try simp at h') <;> (try subst h')) | (refine qaaw (rF_s _ _ _) ?_; simp -implicitDefEqProofs [*]) | (refine qag9 hm rfl rfl (by rw [hP]; exact qabe) (by rw [hP]; exact qaa4) rfl (CoL.refl _) (by rw [hz.out]) (fun σ => rfl)) | fail)
 have hz := hF.out
 rw [km, if_neg Bool.false_ne_true] at hz
 replace hF := Lib.hid hz
 clear hz
 repeat' (first | (with_reducible refine zA ?_) | ((with_reducible refine qaac ?_); (try rw [hP]); simp -implicitDefEqProofs [*]) | ((with_reducible refine qaaf ?_); (try simp -implicitDefEqProofs [*])) | ((with_reducible refine qaaa rfl (fun h => ?_) (fun h => ?_)) <;> have h' := h <;> (try simp at h') <;> (try subst h')) | fail)
 clear km
 refine qaal (qaa5 (fun s (i : Nat) => s.turn [(3, .int .i64 i)] []) (fun i => i ≤ p.heads.length ∧ F = orF (0, 0) (orF (rowF (fun _ h => qail h.w) 1000 i (p.heads.drop i)) (orF (qa4l p) (orF (qadj p) (orF (qaie p) (orF (qag7 p) (orF (qadm p) (qagj p)))))))) (fun i => p.heads.length - i) 0 ?_ ⟨by simp, hF.out⟩ ?_)
 ·repeat' (first | ((with_reducible refine qaah [] hm ?_ ?_ ?_ ?_) <;> (try simp only [zT, puth, Nat.reduceEqDiff, reduceIte, Nat.reduceAdd])) | (with_reducible first | refine za ?_ ?_ | refine zb ?_ ?_ ?_ ?_) | (with_reducible first | exact qaab | exact qaad) | ((with_reducible first | refine zga ?_ | refine zgb ?_); rfl) | ((with_reducible refine zgd ?_); (first | omega | (simp; done))) | (exact Co.refl _) | (exact CoL.refl _) | fail)
 rintro J hJ i ⟨h1, h2⟩
 unfold qal8
 simp only [zT, puth, Nat.reduceEqDiff, reduceIte, Nat.reduceAdd] at h1 h2 ⊢
 clear hF
 rcases Nat.lt_or_ge i p.heads.length with hi | hi
 ·rw [qbic _ _ hi] at h2
  have hxm : p.heads[i] ∈ p.heads := List.getElem_mem hi
  have wi : IntKind.i64.wrap ((i : Int) + 1) = (i : Int) + 1 := qaao (by omega) (by omega)
  have wa : IntKind.i64.wrap (1000 + (i : Int)) = 1000 + (i : Int) := qaao (by omega) (by omega)
  have hct := fun q => qbhj p.heads[i].w q
  unfold qanf at hct
  generalize hxx : p.heads[i] = x at h2 hct hxm
  obtain ⟨E, hE⟩ : ∃ E, qail x.w = E := ⟨_, rfl⟩
  rw [hE] at h2 hct
  clear hE
  replace h2 := Lib.hid h2
  replace hct := Lib.hid hct
  cases kE : (E != 0)
  ·have kE' : ¬ E ≠ 0 := by simpa using kE
   replace kE' := Lib.hid kE'
   repeat' (first | (with_reducible first | refine zA ?_ | refine qaae ?_) | ((with_reducible refine qaac ?_); (try rw [hP]); simp -implicitDefEqProofs [*]) | ((with_reducible refine qaaf ?_); (try simp -implicitDefEqProofs [*])) | ((with_reducible refine qaaa rfl (fun h => ?_) (fun h => ?_)) <;> have h' := h <;> (try simp at h') <;> (try subst h')) | (refine qaaw (hct.out _) ?_; simp -implicitDefEqProofs [*]) | (with_reducible first | refine za ?_ ?_ | refine zb ?_ ?_ ?_ ?_) | (with_reducible first | exact qaab | exact qaad) | ((with_reducible first | refine zga ?_ | refine zgb ?_); rfl) | ((with_reducible first | refine zgd ?_ | refine zge ?_); (first | omega | (simp; done))) | (exact Co.refl _) | (exact CoL.refl _) | ((refine qaai hJ (i + 1) ?_ ?_ ?_; (with_reducible refine qaah [] hm ?_ ?_ ?_ ?_) <;> (try simp only [zT, puth, Nat.reduceEqDiff, reduceIte, Nat.reduceAdd]))) | fail)
   exact ⟨by omega, by rw [h2.out, if_neg kE'.out]⟩
  ·have kE' : E ≠ 0 := by simpa using kE
   have hz := h2.out
   rw [if_pos kE'] at hz
   replace kE' := Lib.hid kE'
   replace hz := Lib.hid hz
   repeat' (first | (with_reducible first | refine zA ?_ | refine qaae ?_) | ((with_reducible refine qaac ?_); (try rw [hP]); simp -implicitDefEqProofs [*]) | ((with_reducible refine qaaf ?_); (try simp -implicitDefEqProofs [*])) | ((with_reducible refine qaam ?_); (try simp only [qaap, qaag, qaaj])) | ((with_reducible refine qaaa rfl (fun h => ?_) (fun h => ?_)) <;> have h' := h <;> (try simp at h') <;> (try subst h')) | ((first | refine qaaw (hct.out _) ?_ | refine qaaw (rF_s _ _ _) ?_); simp -implicitDefEqProofs [*]) | (refine qag9 hm rfl rfl (by rw [hP]; exact qabe) (by rw [hP]; exact qaa4) rfl (CoL.refl _) (by rw [hz.out]) (fun σ => rfl)) | fail)
 ·obtain rfl : i = p.heads.length := by omega
  have hF : F = orF (0, 0) (orF (qa4l p) (orF (qadj p) (orF (qaie p) (orF (qag7 p) (orF (qadm p) (qagj p)))))) := by rw [h2, List.drop_length]; exact qbk8 _
  clear h2 hi h1 hJ
  replace hF := Lib.hid hF
  have hS : F = if decide (4 < (p.meta_.length : Int)) = true then (2, -2) else orF (0, 0) (orF (rowF (fun _ w => if wOut w then 6 else 0) 2000 0 (p.meta_.drop 0)) (orF (qadj p) (orF (qaie p) (orF (qag7 p) (orF (qadm p) (qagj p)))))) := by
   rw [hF.out]; unfold qa4l; rw [qani, show decide (4 < p.meta_.length) = decide (4 < (p.meta_.length : Int)) from decide_eq_decide.2 (by omega)]; rfl
  replace hF := Lib.hid hS
  clear hS
  cases km : decide (4 < (p.meta_.length : Int))
  rotate_left
  ·have hz := hF.out
   rw [km, if_pos rfl] at hz
   replace hz := Lib.hid hz
   repeat' (first | (with_reducible refine zA ?_) | ((with_reducible refine qaac ?_); (try rw [hP]); simp -implicitDefEqProofs [*]) | ((with_reducible refine qaak ?_); (try simp -implicitDefEqProofs [*])) | ((with_reducible refine qaam ?_); (try simp only [qaap, qaag, qaaj])) | ((with_reducible refine qaaa rfl (fun h => ?_) (fun h => ?_)) <;> have h' := h <;> (try simp at h') <;> (try subst h')) | (refine qaaw (rF_s _ _ _) ?_; simp -implicitDefEqProofs [*]) | (refine qag9 hm rfl rfl (by rw [hP]; exact qabe) (by rw [hP]; exact qaa4) rfl (CoL.refl _) (by rw [hz.out]) (fun σ => rfl)) | fail)
  have hz := hF.out
  rw [km, if_neg Bool.false_ne_true] at hz
  replace hF := Lib.hid hz
  clear hz
  repeat' (first | (with_reducible refine zA ?_) | ((with_reducible refine qaac ?_); (try rw [hP]); simp -implicitDefEqProofs [*]) | ((with_reducible first | refine qaaf ?_ | refine qaak ?_); (try simp -implicitDefEqProofs [*])) | ((with_reducible refine qaaa rfl (fun h => ?_) (fun h => ?_)) <;> have h' := h <;> (try simp at h') <;> (try subst h')) | fail)
  clear km
  refine qaal (qaa5 (fun s (i : Nat) => s.turn [(6, .int .i64 i)] []) (fun i => i ≤ p.meta_.length ∧ F = orF (0, 0) (orF (rowF (fun _ w => if wOut w then 6 else 0) 2000 i (p.meta_.drop i)) (orF (qadj p) (orF (qaie p) (orF (qag7 p) (orF (qadm p) (qagj p))))))) (fun i => p.meta_.length - i) 0 ?_ ⟨by simp, hF.out⟩ ?_)
  ·repeat' (first | ((with_reducible refine qaah [] hm ?_ ?_ ?_ ?_) <;> (try simp only [zT, puth, Nat.reduceEqDiff, reduceIte, Nat.reduceAdd])) | (with_reducible first | refine za ?_ ?_ | refine zb ?_ ?_ ?_ ?_) | (with_reducible first | exact qaab | exact qaad) | ((with_reducible first | refine zga ?_ | refine zgb ?_); rfl) | ((with_reducible refine zgd ?_); (first | omega | (simp; done))) | (exact Co.refl _) | (exact CoL.refl _) | fail)
  rintro J hJ i ⟨h1, h2⟩
  unfold qal7
  simp only [zT, puth, Nat.reduceEqDiff, reduceIte, Nat.reduceAdd] at h1 h2 ⊢
  clear hF
  rcases Nat.lt_or_ge i p.meta_.length with hi | hi
  ·rw [qbic _ _ hi] at h2
   have hxm : p.meta_[i] ∈ p.meta_ := List.getElem_mem hi
   have wi : IntKind.i64.wrap ((i : Int) + 1) = (i : Int) + 1 := qaao (by omega) (by omega)
   have wa : IntKind.i64.wrap (2000 + (i : Int)) = 2000 + (i : Int) := qaao (by omega) (by omega)
   generalize hxx : p.meta_[i] = x at h2 hxm
   replace h2 := Lib.hid h2
   cases hv : wOut x
   ·have hv1 : decide (x < 1) = false ∧ decide (48 < x) = false := by simpa [wOut] using hv
    obtain ⟨v1, v2⟩ := hv1
    repeat' (first | (with_reducible first | refine zA ?_ | refine qaae ?_) | ((with_reducible refine qaac ?_); (try rw [hP]); simp -implicitDefEqProofs [*]) | ((with_reducible refine qaaf ?_); (try simp -implicitDefEqProofs [*])) | ((with_reducible refine qaaa rfl (fun h => ?_) (fun h => ?_)) <;> have h' := h <;> (try simp at h') <;> (try subst h')) | (with_reducible first | refine za ?_ ?_ | refine zb ?_ ?_ ?_ ?_) | (with_reducible first | exact qaab | exact qaad) | ((with_reducible first | refine zga ?_ | refine zgb ?_); rfl) | ((with_reducible first | refine zgd ?_ | refine zge ?_); (first | omega | (simp; done))) | (exact Co.refl _) | (exact CoL.refl _) | ((refine qaai hJ (i + 1) ?_ ?_ ?_; (with_reducible refine qaah [] hm ?_ ?_ ?_ ?_) <;> (try simp only [zT, puth, Nat.reduceEqDiff, reduceIte, Nat.reduceAdd]))) | fail)
    exact ⟨by omega, by rw [h2.out, hv]; rfl⟩
   ·have hz := h2.out
    rw [hv] at hz
    replace hz : F = (6, 2000 + (i : Int)) := hz
    replace hz := Lib.hid hz
    replace hv := Lib.hid hv
    repeat' (first | (with_reducible first | refine zA ?_ | refine qaae ?_) | ((with_reducible refine qaac ?_); (try rw [hP]); simp -implicitDefEqProofs [*]) | ((with_reducible refine qaaf ?_); (try simp -implicitDefEqProofs [*])) | ((with_reducible refine qaam ?_); (try simp only [qaap, qaag, qaaj])) | ((with_reducible refine qaaa rfl (fun h => ?_) (fun h => ?_)) <;> have h' := h <;> (try simp at h') <;> (try subst h')) | ((with_reducible refine qaan (fun h => ?_) (fun h => ?_)) <;> have h' := h <;> (try simp at h') <;> (try subst h') <;> simp -implicitDefEqProofs [*]) | (refine qaaw (rF_s _ _ _) ?_; simp -implicitDefEqProofs [*]) | (with_reducible first | refine za ?_ ?_ | refine zb ?_ ?_ ?_ ?_) | (with_reducible first | exact qaab | exact qaad) | ((with_reducible first | refine zga ?_ | refine zgb ?_); rfl) | ((with_reducible first | refine zgd ?_ | refine zge ?_); (first | omega | (simp; done))) | (exact Co.refl _) | (exact CoL.refl _) | ((refine qaai hJ (i + 1) ?_ ?_ ?_; (with_reducible refine qaah [] hm ?_ ?_ ?_ ?_) <;> (try simp only [zT, puth, Nat.reduceEqDiff, reduceIte, Nat.reduceAdd]))) | (refine qag9 hm rfl rfl (by rw [hP]; exact qabe) (by rw [hP]; exact qaa4) rfl (CoL.refl _) (by rw [hz.out]) (fun σ => rfl)) | fail)
    all_goals (exfalso; have q := hv.out; simp only [wOut, Bool.or_eq_true, decide_eq_true_eq] at q; omega)
  ·obtain rfl : i = p.meta_.length := by omega
   have hF : F = orF (0, 0) (orF (qadj p) (orF (qaie p) (orF (qag7 p) (orF (qadm p) (qagj p))))) := by rw [h2, List.drop_length]; exact qbk8 _
   clear h2 hi h1 hJ
   replace hF := Lib.hid hF
   have hS : F = if (decide ((p.states.length : Int) < 1) || decide (8 < (p.states.length : Int))) = true then (2, -3) else orF (0, 0) (orF (rowF (fun i s => qafg p i s) 3000 0 (p.states.drop 0)) (orF (qaie p) (orF (qag7 p) (orF (qadm p) (qagj p))))) := by
    rw [hF.out]; unfold qadj; rw [qani, show decide (p.states.length < 1) = decide ((p.states.length : Int) < 1) from decide_eq_decide.2 (by omega), show decide (8 < p.states.length) = decide (8 < (p.states.length : Int)) from decide_eq_decide.2 (by omega)]; rfl
   replace hF := Lib.hid hS
   clear hS
   cases km1 : decide ((p.states.length : Int) < 1)
   rotate_left
   ·have hz := hF.out
    rw [km1, Bool.true_or, if_pos rfl] at hz
    replace hz := Lib.hid hz
    repeat' (first | (with_reducible refine zA ?_) | ((with_reducible refine qaac ?_); (try rw [hP]); simp -implicitDefEqProofs [*]) | ((with_reducible refine qaak ?_); (try simp -implicitDefEqProofs [*])) | ((with_reducible refine qaam ?_); (try simp only [qaap, qaag, qaaj])) | ((with_reducible refine qaaa rfl (fun h => ?_) (fun h => ?_)) <;> have h' := h <;> (try simp at h') <;> (try subst h')) | (refine qaaw (rF_s _ _ _) ?_; simp -implicitDefEqProofs [*]) | (refine qag9 hm rfl rfl (by rw [hP]; exact qabe) (by rw [hP]; exact qaa4) rfl (CoL.refl _) (by rw [hz.out]) (fun σ => rfl)) | fail)
   cases km : decide (8 < (p.states.length : Int))
   rotate_left
   ·have hz := hF.out
    rw [km1, km, Bool.or_true, if_pos rfl] at hz
    replace hz := Lib.hid hz
    repeat' (first | (with_reducible refine zA ?_) | ((with_reducible refine qaac ?_); (try rw [hP]); simp -implicitDefEqProofs [*]) | ((with_reducible refine qaak ?_); (try simp -implicitDefEqProofs [*])) | ((with_reducible refine qaam ?_); (try simp only [qaap, qaag, qaaj])) | ((with_reducible refine qaaa rfl (fun h => ?_) (fun h => ?_)) <;> have h' := h <;> (try simp at h') <;> (try subst h')) | (refine qaaw (rF_s _ _ _) ?_; simp -implicitDefEqProofs [*]) | (refine qag9 hm rfl rfl (by rw [hP]; exact qabe) (by rw [hP]; exact qaa4) rfl (CoL.refl _) (by rw [hz.out]) (fun σ => rfl)) | fail)
   have hz := hF.out
   rw [km1, km, Bool.or_false, if_neg Bool.false_ne_true] at hz
   replace hF := Lib.hid hz
   clear hz
   repeat' (first | (with_reducible refine zA ?_) | ((with_reducible refine qaac ?_); (try rw [hP]); simp -implicitDefEqProofs [*]) | ((with_reducible first | refine qaaf ?_ | refine qaak ?_); (try simp -implicitDefEqProofs [*])) | ((with_reducible refine qaaa rfl (fun h => ?_) (fun h => ?_)) <;> have h' := h <;> (try simp at h') <;> (try subst h')) | fail)
   clear km km1
   refine qaal (qaa5 (fun s (i : Nat) => s.turn [(7, .int .i64 i)] []) (fun i => i ≤ p.states.length ∧ F = orF (0, 0) (orF (rowF (fun i s => qafg p i s) 3000 i (p.states.drop i)) (orF (qaie p) (orF (qag7 p) (orF (qadm p) (qagj p)))))) (fun i => p.states.length - i) 0 ?_ ⟨by simp, hF.out⟩ ?_)
   ·repeat' (first | ((with_reducible refine qaah [] hm ?_ ?_ ?_ ?_) <;> (try simp only [zT, puth, Nat.reduceEqDiff, reduceIte, Nat.reduceAdd])) | (with_reducible first | refine za ?_ ?_ | refine zb ?_ ?_ ?_ ?_) | (with_reducible first | exact qaab | exact qaad) | ((with_reducible first | refine zga ?_ | refine zgb ?_); rfl) | ((with_reducible refine zgd ?_); (first | omega | (simp; done))) | (exact Co.refl _) | (exact CoL.refl _) | fail)
   rintro J hJ i ⟨h1, h2⟩
   unfold qal6
   simp only [zT, puth, Nat.reduceEqDiff, reduceIte, Nat.reduceAdd] at h1 h2 ⊢
   clear hF
   rcases Nat.lt_or_ge i p.states.length with hi | hi
   ·rw [qbic _ _ hi] at h2
    have hxm : p.states[i] ∈ p.states := List.getElem_mem hi
    have wi : IntKind.i64.wrap ((i : Int) + 1) = (i : Int) + 1 := qaao (by omega) (by omega)
    have wa : IntKind.i64.wrap (3000 + (i : Int)) = 3000 + (i : Int) := qaao (by omega) (by omega)
    have hct := fun q => qbiw p i hi (by omega) (by have := hs.cases_ _ hxm; omega) q
    generalize hxx : p.states[i] = x at h2 hct hxm
    generalize qafg p i x = E at h2 hct
    replace h2 := Lib.hid h2
    replace hct := Lib.hid hct
    cases kE : (E != 0)
    ·have kE' : ¬ E ≠ 0 := by simpa using kE
     replace kE' := Lib.hid kE'
     repeat' (first | (with_reducible first | refine zA ?_ | refine qaae ?_) | ((with_reducible refine qaac ?_); (try rw [hP]); simp -implicitDefEqProofs [*]) | ((with_reducible refine qaaf ?_); (try simp -implicitDefEqProofs [*])) | ((with_reducible refine qaaa rfl (fun h => ?_) (fun h => ?_)) <;> have h' := h <;> (try simp at h') <;> (try subst h')) | (refine qaaw (hct.out _) ?_; simp -implicitDefEqProofs [*]) | (with_reducible first | refine za ?_ ?_ | refine zb ?_ ?_ ?_ ?_) | (with_reducible first | exact qaab | exact qaad) | ((with_reducible first | refine zga ?_ | refine zgb ?_); rfl) | ((with_reducible first | refine zgd ?_ | refine zge ?_); (first | omega | (simp; done))) | (exact Co.refl _) | (exact CoL.refl _) | ((refine qaai hJ (i + 1) ?_ ?_ ?_; (with_reducible refine qaah [] hm ?_ ?_ ?_ ?_) <;> (try simp only [zT, puth, Nat.reduceEqDiff, reduceIte, Nat.reduceAdd]))) | fail)
     exact ⟨by omega, by rw [h2.out, if_neg kE'.out]⟩
    ·have kE' : E ≠ 0 := by simpa using kE
     have hz := h2.out
     rw [if_pos kE'] at hz
     replace kE' := Lib.hid kE'
     replace hz := Lib.hid hz
     repeat' (first | (with_reducible first | refine zA ?_ | refine qaae ?_) | ((with_reducible refine qaac ?_); (try rw [hP]); simp -implicitDefEqProofs [*]) | ((with_reducible refine qaaf ?_); (try simp -implicitDefEqProofs [*])) | ((with_reducible refine qaam ?_); (try simp only [qaap, qaag, qaaj])) | ((with_reducible refine qaaa rfl (fun h => ?_) (fun h => ?_)) <;> have h' := h <;> (try simp at h') <;> (try subst h')) | ((first | refine qaaw (hct.out _) ?_ | refine qaaw (rF_s _ _ _) ?_); simp -implicitDefEqProofs [*]) | (refine qag9 hm rfl rfl (by rw [hP]; exact qabe) (by rw [hP]; exact qaa4) rfl (CoL.refl _) (by rw [hz.out]) (fun σ => rfl)) | fail)
   ·obtain rfl : i = p.states.length := by omega
    have hF : F = orF (0, 0) (orF (qaie p) (orF (qag7 p) (orF (qadm p) (qagj p)))) := by rw [h2, List.drop_length]; exact qbk8 _
    clear h2 hi h1 hJ
    replace hF := Lib.hid hF
    have hS : F = if decide (8 < (p.acts.length : Int)) = true then (2, -4) else orF (0, 0) (orF (rowF (fun _ a => actF p a) 4000 0 (p.acts.drop 0)) (orF (qag7 p) (orF (qadm p) (qagj p)))) := by
     rw [hF.out]; unfold qaie; rw [qani, show decide (8 < p.acts.length) = decide (8 < (p.acts.length : Int)) from decide_eq_decide.2 (by omega)]; rfl
    replace hF := Lib.hid hS
    clear hS
    cases km : decide (8 < (p.acts.length : Int))
    rotate_left
    ·have hz := hF.out
     rw [km, if_pos rfl] at hz
     replace hz := Lib.hid hz
     repeat' (first | (with_reducible refine zA ?_) | ((with_reducible refine qaac ?_); (try rw [hP]); simp -implicitDefEqProofs [*]) | ((with_reducible refine qaak ?_); (try simp -implicitDefEqProofs [*])) | ((with_reducible refine qaam ?_); (try simp only [qaap, qaag, qaaj])) | ((with_reducible refine qaaa rfl (fun h => ?_) (fun h => ?_)) <;> have h' := h <;> (try simp at h') <;> (try subst h')) | (refine qaaw (rF_s _ _ _) ?_; simp -implicitDefEqProofs [*]) | (refine qag9 hm rfl rfl (by rw [hP]; exact qabe) (by rw [hP]; exact qaa4) rfl (CoL.refl _) (by rw [hz.out]) (fun σ => rfl)) | fail)
    have hz := hF.out
    rw [km, if_neg Bool.false_ne_true] at hz
    replace hF := Lib.hid hz
    clear hz
    repeat' (first | (with_reducible refine zA ?_) | ((with_reducible refine qaac ?_); (try rw [hP]); simp -implicitDefEqProofs [*]) | ((with_reducible first | refine qaaf ?_ | refine qaak ?_); (try simp -implicitDefEqProofs [*])) | ((with_reducible refine qaaa rfl (fun h => ?_) (fun h => ?_)) <;> have h' := h <;> (try simp at h') <;> (try subst h')) | fail)
    clear km
    refine qaal (qaa5 (fun s (i : Nat) => s.turn [(9, .int .i64 i)] []) (fun i => i ≤ p.acts.length ∧ F = orF (0, 0) (orF (rowF (fun _ a => actF p a) 4000 i (p.acts.drop i)) (orF (qag7 p) (orF (qadm p) (qagj p))))) (fun i => p.acts.length - i) 0 ?_ ⟨by simp, hF.out⟩ ?_)
    ·repeat' (first | ((with_reducible refine qaah [] hm ?_ ?_ ?_ ?_) <;> (try simp only [zT, puth, Nat.reduceEqDiff, reduceIte, Nat.reduceAdd])) | (with_reducible first | refine za ?_ ?_ | refine zb ?_ ?_ ?_ ?_) | (with_reducible first | exact qaab | exact qaad) | ((with_reducible first | refine zga ?_ | refine zgb ?_); rfl) | ((with_reducible refine zgd ?_); (first | omega | (simp; done))) | (exact Co.refl _) | (exact CoL.refl _) | fail)
    rintro J hJ i ⟨h1, h2⟩
    unfold qal5
    simp only [zT, puth, Nat.reduceEqDiff, reduceIte, Nat.reduceAdd] at h1 h2 ⊢
    clear hF
    rcases Nat.lt_or_ge i p.acts.length with hi | hi
    ·rw [qbic _ _ hi] at h2
     have hxm : p.acts[i] ∈ p.acts := List.getElem_mem hi
     have wi : IntKind.i64.wrap ((i : Int) + 1) = (i : Int) + 1 := qaao (by omega) (by omega)
     have wa : IntKind.i64.wrap (4000 + (i : Int)) = 4000 + (i : Int) := qaao (by omega) (by omega)
     have hct := fun q => ract_s p p.acts[i] (by have := hs.actW _ hxm; omega) (by have := hs.ops _ hxm; omega) (fun o ho => by have := hs.tree _ hxm o ho; omega) q
     generalize hxx : p.acts[i] = x at h2 hct hxm
     generalize actF p x = E at h2 hct
     replace h2 := Lib.hid h2
     replace hct := Lib.hid hct
     cases kE : (E != 0)
     ·have kE' : ¬ E ≠ 0 := by simpa using kE
      replace kE' := Lib.hid kE'
      repeat' (first | (with_reducible first | refine zA ?_ | refine qaae ?_ | refine zK ?_) | ((with_reducible first | refine qaac ?_ | refine qaaz (by rw [hP]; exact qacz) ?_); (try rw [hP]); simp -implicitDefEqProofs [*]) | ((with_reducible refine qaaf ?_); (try simp -implicitDefEqProofs [*])) | ((with_reducible refine qaaa rfl (fun h => ?_) (fun h => ?_)) <;> have h' := h <;> (try simp at h') <;> (try subst h')) | (refine qaaw (hct.out _) ?_; simp -implicitDefEqProofs [*]) | (with_reducible first | refine za ?_ ?_ | refine zb ?_ ?_ ?_ ?_) | (with_reducible first | exact qaab | exact qaad) | ((with_reducible first | refine zga ?_ | refine zgb ?_); rfl) | ((with_reducible first | refine zgd ?_ | refine zge ?_); (first | omega | (simp; done))) | (exact Co.refl _) | (exact CoL.refl _) | ((refine qaai hJ (i + 1) ?_ ?_ ?_; (with_reducible refine qaah [] hm ?_ ?_ ?_ ?_) <;> (try simp only [zT, puth, Nat.reduceEqDiff, reduceIte, Nat.reduceAdd]))) | fail)
      exact ⟨by omega, by rw [h2.out, if_neg kE'.out]⟩
     ·have kE' : E ≠ 0 := by simpa using kE
      have hz := h2.out
      rw [if_pos kE'] at hz
      replace kE' := Lib.hid kE'
      replace hz := Lib.hid hz
      repeat' (first | (with_reducible first | refine zA ?_ | refine qaae ?_ | refine zK ?_) | ((with_reducible first | refine qaac ?_ | refine qaaz (by rw [hP]; exact qacz) ?_); (try rw [hP]); simp -implicitDefEqProofs [*]) | ((with_reducible refine qaaf ?_); (try simp -implicitDefEqProofs [*])) | ((with_reducible refine qaam ?_); (try simp only [qaap, qaag, qaaj])) | ((with_reducible refine qaaa rfl (fun h => ?_) (fun h => ?_)) <;> have h' := h <;> (try simp at h') <;> (try subst h')) | ((first | refine qaaw (hct.out _) ?_ | refine qaaw (rF_s _ _ _) ?_); simp -implicitDefEqProofs [*]) | (refine qag9 hm rfl rfl (by rw [hP]; exact qabe) (by rw [hP]; exact qaa4) rfl (CoL.refl _) (by rw [hz.out]) (fun σ => rfl)) | fail)
    ·obtain rfl : i = p.acts.length := by omega
     have hF : F = orF (0, 0) (orF (qag7 p) (orF (qadm p) (qagj p))) := by rw [h2, List.drop_length]; exact qbk8 _
     clear h2 hi h1 hJ
     replace hF := Lib.hid hF
     have hS : F = if decide (5 < (p.tabs.length : Int)) = true then (2, -5) else orF (0, 0) (orF (rowF (fun _ t => tabF p t) 5000 0 (p.tabs.drop 0)) (orF (qadm p) (qagj p))) := by
      rw [hF.out]; unfold qag7; rw [qani, show decide (5 < p.tabs.length) = decide (5 < (p.tabs.length : Int)) from decide_eq_decide.2 (by omega)]; rfl
     replace hF := Lib.hid hS
     clear hS
     cases km : decide (5 < (p.tabs.length : Int))
     rotate_left
     ·have hz := hF.out
      rw [km, if_pos rfl] at hz
      replace hz := Lib.hid hz
      repeat' (first | (with_reducible refine zA ?_) | ((with_reducible refine qaac ?_); (try rw [hP]); simp -implicitDefEqProofs [*]) | ((with_reducible refine qaak ?_); (try simp -implicitDefEqProofs [*])) | ((with_reducible refine qaam ?_); (try simp only [qaap, qaag, qaaj])) | ((with_reducible refine qaaa rfl (fun h => ?_) (fun h => ?_)) <;> have h' := h <;> (try simp at h') <;> (try subst h')) | (refine qaaw (rF_s _ _ _) ?_; simp -implicitDefEqProofs [*]) | (refine qag9 hm rfl rfl (by rw [hP]; exact qabe) (by rw [hP]; exact qaa4) rfl (CoL.refl _) (by rw [hz.out]) (fun σ => rfl)) | fail)
     have hz := hF.out
     rw [km, if_neg Bool.false_ne_true] at hz
     replace hF := Lib.hid hz
     clear hz
     repeat' (first | (with_reducible refine zA ?_) | ((with_reducible refine qaac ?_); (try rw [hP]); simp -implicitDefEqProofs [*]) | ((with_reducible first | refine qaaf ?_ | refine qaak ?_); (try simp -implicitDefEqProofs [*])) | ((with_reducible refine qaaa rfl (fun h => ?_) (fun h => ?_)) <;> have h' := h <;> (try simp at h') <;> (try subst h')) | fail)
     clear km
     refine qaal (qaa5 (fun s (i : Nat) => s.turn [(11, .int .i64 i)] []) (fun i => i ≤ p.tabs.length ∧ F = orF (0, 0) (orF (rowF (fun _ t => tabF p t) 5000 i (p.tabs.drop i)) (orF (qadm p) (qagj p)))) (fun i => p.tabs.length - i) 0 ?_ ⟨by simp, hF.out⟩ ?_)
     ·repeat' (first | ((with_reducible refine qaah [] hm ?_ ?_ ?_ ?_) <;> (try simp only [zT, puth, Nat.reduceEqDiff, reduceIte, Nat.reduceAdd])) | (with_reducible first | refine za ?_ ?_ | refine zb ?_ ?_ ?_ ?_) | (with_reducible first | exact qaab | exact qaad) | ((with_reducible first | refine zga ?_ | refine zgb ?_); rfl) | ((with_reducible refine zgd ?_); (first | omega | (simp; done))) | (exact Co.refl _) | (exact CoL.refl _) | fail)
     rintro J hJ i ⟨h1, h2⟩
     unfold qal4
     simp only [zT, puth, Nat.reduceEqDiff, reduceIte, Nat.reduceAdd] at h1 h2 ⊢
     clear hF
     rcases Nat.lt_or_ge i p.tabs.length with hi | hi
     ·rw [qbic _ _ hi] at h2
      have hxm : p.tabs[i] ∈ p.tabs := List.getElem_mem hi
      have wi : IntKind.i64.wrap ((i : Int) + 1) = (i : Int) + 1 := qaao (by omega) (by omega)
      have wa : IntKind.i64.wrap (5000 + (i : Int)) = 5000 + (i : Int) := qaao (by omega) (by omega)
      have hkw := hs.keys _ hxm
      generalize hxx : p.tabs[i] = x at h2 hxm hkw
      have hlw : (qab1 p x).length ≤ 1000000 := by unfold qab1; rw [List.length_map]; omega
      have hc1 := fun q => qbiv x (qab1 p x) p.acts (by omega) (by omega) hlw (by omega) q
      have hc2 := fun q => rin_s (qab1 p x) 0 hlw q
      have hc3 := fun q => qbej p x (by omega) q
      have hT : tabF p x = if decide (3 < (x.keys.length : Int)) = true then 2 else if (qab1 p x).contains 0 = true then 1 else qadk x (qab1 p x) p.acts := by
       unfold tabF; simp only [decide_eq_true_eq]; congr 1; exact propext (by omega)
      rw [hT] at h2
      clear hT
      generalize qadk x (qab1 p x) p.acts = T at h2 hc1
      generalize (qab1 p x).contains 0 = C at h2 hc2
      generalize qab1 p x = W at hc1 hc2 hc3
      replace h2 := Lib.hid h2
      replace hc1 := Lib.hid hc1
      replace hc3 := Lib.hid hc3
      cases k3 : decide (3 < (x.keys.length : Int))
      rotate_left
      ·have hz : F = (2, 5000 + (i : Int)) := by have := h2.out; rw [k3] at this; exact this
       replace hz := Lib.hid hz
       repeat' (first | (with_reducible first | refine zA ?_ | refine qaae ?_) | ((with_reducible refine qaac ?_); (try rw [hP]); simp -implicitDefEqProofs [*]) | ((with_reducible refine qaaf ?_); (try simp -implicitDefEqProofs [*])) | ((with_reducible refine qaam ?_); (try simp only [qaap, qaag, qaaj])) | ((with_reducible refine qaaa rfl (fun h => ?_) (fun h => ?_)) <;> have h' := h <;> (try simp at h') <;> (try subst h')) | (refine qaaw (rF_s _ _ _) ?_; simp -implicitDefEqProofs [*]) | (refine qag9 hm rfl rfl (by rw [hP]; exact qabe) (by rw [hP]; exact qaa4) rfl (CoL.refl _) (by rw [hz.out]) (fun σ => rfl)) | fail)
      cases kC : C <;> rw [kC] at hc2
      rotate_left
      ·have hz : F = (1, 5000 + (i : Int)) := by have := h2.out; rw [k3, kC] at this; exact this
       replace hz := Lib.hid hz
       repeat' (first | (with_reducible first | refine zA ?_ | refine qaae ?_) | ((with_reducible refine qaac ?_); (try rw [hP]); simp -implicitDefEqProofs [*]) | ((with_reducible refine qaaf ?_); (try simp -implicitDefEqProofs [*])) | ((with_reducible refine qaam ?_); (try simp only [qaap, qaag, qaaj])) | ((with_reducible refine qaaa rfl (fun h => ?_) (fun h => ?_)) <;> have h' := h <;> (try simp at h') <;> (try subst h')) | ((first | refine qaaw (hc3.out _) ?_ | refine qaaw (hc2 _) ?_ | refine qaaw (rF_s _ _ _) ?_); simp -implicitDefEqProofs [*]) | (refine qag9 hm rfl rfl (by rw [hP]; exact qabe) (by rw [hP]; exact qaa4) rfl (CoL.refl _) (by rw [hz.out]) (fun σ => rfl)) | fail)
      cases kT : (T != 0)
      ·have kT' : T = 0 := by simpa using kT
       replace kT' := Lib.hid kT'
       repeat' (first | (with_reducible first | refine zA ?_ | refine qaae ?_) | ((with_reducible refine qaac ?_); (try rw [hP]); simp -implicitDefEqProofs [*]) | ((with_reducible refine qaaf ?_); (try simp -implicitDefEqProofs [*])) | ((with_reducible refine qaaa rfl (fun h => ?_) (fun h => ?_)) <;> have h' := h <;> (try simp at h') <;> (try subst h')) | ((first | refine qaaw (hc3.out _) ?_ | refine qaaw (hc2 _) ?_ | refine qaaw (hc1.out _) ?_); simp -implicitDefEqProofs [*]) | (with_reducible first | refine za ?_ ?_ | refine zb ?_ ?_ ?_ ?_) | (with_reducible first | exact qaab | exact qaad) | ((with_reducible first | refine zga ?_ | refine zgb ?_); rfl) | ((with_reducible first | refine zgd ?_ | refine zge ?_); (first | omega | (simp; done))) | (exact Co.refl _) | (exact CoL.refl _) | ((refine qaai hJ (i + 1) ?_ ?_ ?_; (with_reducible refine qaah [] hm ?_ ?_ ?_ ?_) <;> (try simp only [zT, puth, Nat.reduceEqDiff, reduceIte, Nat.reduceAdd]))) | fail)
       exact ⟨by omega, by have := h2.out; rw [k3, kC, kT'.out] at this; exact this⟩
      ·have kT' : T ≠ 0 := by simpa using kT
       have hz : F = (T, 5000 + (i : Int)) := by have := h2.out; rw [k3, kC] at this; rw [this]; exact if_pos kT'
       replace kT' := Lib.hid kT'
       replace hz := Lib.hid hz
       repeat' (first | (with_reducible first | refine zA ?_ | refine qaae ?_) | ((with_reducible refine qaac ?_); (try rw [hP]); simp -implicitDefEqProofs [*]) | ((with_reducible refine qaaf ?_); (try simp -implicitDefEqProofs [*])) | ((with_reducible refine qaam ?_); (try simp only [qaap, qaag, qaaj])) | ((with_reducible refine qaaa rfl (fun h => ?_) (fun h => ?_)) <;> have h' := h <;> (try simp at h') <;> (try subst h')) | ((first | refine qaaw (hc3.out _) ?_ | refine qaaw (hc2 _) ?_ | refine qaaw (hc1.out _) ?_ | refine qaaw (rF_s _ _ _) ?_); simp -implicitDefEqProofs [*]) | (refine qag9 hm rfl rfl (by rw [hP]; exact qabe) (by rw [hP]; exact qaa4) rfl (CoL.refl _) (by rw [hz.out]) (fun σ => rfl)) | fail)
     ·obtain rfl : i = p.tabs.length := by omega
      have hF : F = orF (0, 0) (orF (qadm p) (qagj p)) := by rw [h2, List.drop_length]; exact qbk8 _
      clear h2 hi h1 hJ
      replace hF := Lib.hid hF
      have hS : F = if decide (10 < (p.nodes.length : Int)) = true then (2, -6) else orF (0, 0) (orF (rowF (fun i n => qant p i n) 6000 0 (p.nodes.drop 0)) (qagj p)) := by
       rw [hF.out]; unfold qadm; rw [qani, show decide (10 < p.nodes.length) = decide (10 < (p.nodes.length : Int)) from decide_eq_decide.2 (by omega)]; rfl
      replace hF := Lib.hid hS
      clear hS
      cases km : decide (10 < (p.nodes.length : Int))
      rotate_left
      ·have hz := hF.out
       rw [km, if_pos rfl] at hz
       replace hz := Lib.hid hz
       repeat' (first | (with_reducible refine zA ?_) | ((with_reducible refine qaac ?_); (try rw [hP]); simp -implicitDefEqProofs [*]) | ((with_reducible refine qaak ?_); (try simp -implicitDefEqProofs [*])) | ((with_reducible refine qaam ?_); (try simp only [qaap, qaag, qaaj])) | ((with_reducible refine qaaa rfl (fun h => ?_) (fun h => ?_)) <;> have h' := h <;> (try simp at h') <;> (try subst h')) | (refine qaaw (rF_s _ _ _) ?_; simp -implicitDefEqProofs [*]) | (refine qag9 hm rfl rfl (by rw [hP]; exact qabe) (by rw [hP]; exact qaa4) rfl (CoL.refl _) (by rw [hz.out]) (fun σ => rfl)) | fail)
      have hz := hF.out
      rw [km, if_neg Bool.false_ne_true] at hz
      replace hF := Lib.hid hz
      clear hz
      repeat' (first | (with_reducible refine zA ?_) | ((with_reducible refine qaac ?_); (try rw [hP]); simp -implicitDefEqProofs [*]) | ((with_reducible first | refine qaaf ?_ | refine qaak ?_); (try simp -implicitDefEqProofs [*])) | ((with_reducible refine qaaa rfl (fun h => ?_) (fun h => ?_)) <;> have h' := h <;> (try simp at h') <;> (try subst h')) | fail)
      clear km
      refine qaal (qaa5 (fun s (i : Nat) => s.turn [(15, .int .i64 i)] []) (fun i => i ≤ p.nodes.length ∧ F = orF (0, 0) (orF (rowF (fun i n => qant p i n) 6000 i (p.nodes.drop i)) (qagj p))) (fun i => p.nodes.length - i) 0 ?_ ⟨by simp, hF.out⟩ ?_)
      ·repeat' (first | ((with_reducible refine qaah [] hm ?_ ?_ ?_ ?_) <;> (try simp only [zT, puth, Nat.reduceEqDiff, reduceIte, Nat.reduceAdd])) | (with_reducible first | refine za ?_ ?_ | refine zb ?_ ?_ ?_ ?_) | (with_reducible first | exact qaab | exact qaad) | ((with_reducible first | refine zga ?_ | refine zgb ?_); rfl) | ((with_reducible refine zgd ?_); (first | omega | (simp; done))) | (exact Co.refl _) | (exact CoL.refl _) | fail)
      rintro J hJ i ⟨h1, h2⟩
      unfold qal3
      simp only [zT, puth, Nat.reduceEqDiff, reduceIte, Nat.reduceAdd] at h1 h2 ⊢
      clear hF
      rcases Nat.lt_or_ge i p.nodes.length with hi | hi
      ·rw [qbic _ _ hi] at h2
       have hxm : p.nodes[i] ∈ p.nodes := List.getElem_mem hi
       have wi : IntKind.i64.wrap ((i : Int) + 1) = (i : Int) + 1 := qaao (by omega) (by omega)
       have wa : IntKind.i64.wrap (6000 + (i : Int)) = 6000 + (i : Int) := qaao (by omega) (by omega)
       have hct := fun q => rnode_s p i hi (by omega) (by have := hs.node _ hxm; omega) q
       generalize hxx : p.nodes[i] = x at h2 hct hxm
       generalize qant p i x = E at h2 hct
       replace h2 := Lib.hid h2
       replace hct := Lib.hid hct
       cases kE : (E != 0)
       ·have kE' : ¬ E ≠ 0 := by simpa using kE
        replace kE' := Lib.hid kE'
        repeat' (first | (with_reducible first | refine zA ?_ | refine qaae ?_) | ((with_reducible refine qaac ?_); (try rw [hP]); simp -implicitDefEqProofs [*]) | ((with_reducible refine qaaf ?_); (try simp -implicitDefEqProofs [*])) | ((with_reducible refine qaaa rfl (fun h => ?_) (fun h => ?_)) <;> have h' := h <;> (try simp at h') <;> (try subst h')) | (refine qaaw (hct.out _) ?_; simp -implicitDefEqProofs [*]) | (with_reducible first | refine za ?_ ?_ | refine zb ?_ ?_ ?_ ?_) | (with_reducible first | exact qaab | exact qaad) | ((with_reducible first | refine zga ?_ | refine zgb ?_); rfl) | ((with_reducible first | refine zgd ?_ | refine zge ?_); (first | omega | (simp; done))) | (exact Co.refl _) | (exact CoL.refl _) | ((refine qaai hJ (i + 1) ?_ ?_ ?_; (with_reducible refine qaah [] hm ?_ ?_ ?_ ?_) <;> (try simp only [zT, puth, Nat.reduceEqDiff, reduceIte, Nat.reduceAdd]))) | fail)
        exact ⟨by omega, by rw [h2.out, if_neg kE'.out]⟩
       ·have kE' : E ≠ 0 := by simpa using kE
        have hz := h2.out
        rw [if_pos kE'] at hz
        replace kE' := Lib.hid kE'
        replace hz := Lib.hid hz
        repeat' (first | (with_reducible first | refine zA ?_ | refine qaae ?_) | ((with_reducible refine qaac ?_); (try rw [hP]); simp -implicitDefEqProofs [*]) | ((with_reducible refine qaaf ?_); (try simp -implicitDefEqProofs [*])) | ((with_reducible refine qaam ?_); (try simp only [qaap, qaag, qaaj])) | ((with_reducible refine qaaa rfl (fun h => ?_) (fun h => ?_)) <;> have h' := h <;> (try simp at h') <;> (try subst h')) | ((first | refine qaaw (hct.out _) ?_ | refine qaaw (rF_s _ _ _) ?_); simp -implicitDefEqProofs [*]) | (refine qag9 hm rfl rfl (by rw [hP]; exact qabe) (by rw [hP]; exact qaa4) rfl (CoL.refl _) (by rw [hz.out]) (fun σ => rfl)) | fail)
      ·obtain rfl : i = p.nodes.length := by omega
       have hF : F = orF (0, 0) (qagj p) := by rw [h2, List.drop_length]; exact qbk8 _
       clear h2 hi h1 hJ
       replace hF := Lib.hid hF
       have hS : F = if decide (6 < (p.out.length : Int)) = true then (2, -7) else orF (0, 0) (orF (rowF (fun i o => outF p i o) 7000 0 (p.out.drop 0)) (0, 0)) := by
        rw [hF.out, z_last]; unfold qagj; rw [qani, show decide (6 < p.out.length) = decide (6 < (p.out.length : Int)) from decide_eq_decide.2 (by omega)]; rfl
       replace hF := Lib.hid hS
       clear hS
       cases km : decide (6 < (p.out.length : Int))
       rotate_left
       ·have hz := hF.out
        rw [km, if_pos rfl] at hz
        replace hz := Lib.hid hz
        repeat' (first | (with_reducible refine zA ?_) | ((with_reducible refine qaac ?_); (try rw [hP]); simp -implicitDefEqProofs [*]) | ((with_reducible refine qaak ?_); (try simp -implicitDefEqProofs [*])) | ((with_reducible refine qaam ?_); (try simp only [qaap, qaag, qaaj])) | ((with_reducible refine qaaa rfl (fun h => ?_) (fun h => ?_)) <;> have h' := h <;> (try simp at h') <;> (try subst h')) | (refine qaaw (rF_s _ _ _) ?_; simp -implicitDefEqProofs [*]) | (refine qag9 hm rfl rfl (by rw [hP]; exact qabe) (by rw [hP]; exact qaa4) rfl (CoL.refl _) (by rw [hz.out]) (fun σ => rfl)) | fail)
       have hz := hF.out
       rw [km, if_neg Bool.false_ne_true] at hz
       replace hF := Lib.hid hz
       clear hz
       repeat' (first | (with_reducible refine zA ?_) | ((with_reducible refine qaac ?_); (try rw [hP]); simp -implicitDefEqProofs [*]) | ((with_reducible first | refine qaaf ?_ | refine qaak ?_); (try simp -implicitDefEqProofs [*])) | ((with_reducible refine qaaa rfl (fun h => ?_) (fun h => ?_)) <;> have h' := h <;> (try simp at h') <;> (try subst h')) | fail)
       clear km
       refine qaal (qaa5 (fun s (i : Nat) => s.turn [(17, .int .i64 i)] []) (fun i => i ≤ p.out.length ∧ F = orF (0, 0) (orF (rowF (fun i o => outF p i o) 7000 i (p.out.drop i)) (0, 0))) (fun i => p.out.length - i) 0 ?_ ⟨by simp, hF.out⟩ ?_)
       ·repeat' (first | ((with_reducible refine qaah [] hm ?_ ?_ ?_ ?_) <;> (try simp only [zT, puth, Nat.reduceEqDiff, reduceIte, Nat.reduceAdd])) | (with_reducible first | refine za ?_ ?_ | refine zb ?_ ?_ ?_ ?_) | (with_reducible first | exact qaab | exact qaad) | ((with_reducible first | refine zga ?_ | refine zgb ?_); rfl) | ((with_reducible refine zgd ?_); (first | omega | (simp; done))) | (exact Co.refl _) | (exact CoL.refl _) | fail)
       rintro J hJ i ⟨h1, h2⟩
       unfold qal2
       simp only [zT, puth, Nat.reduceEqDiff, reduceIte, Nat.reduceAdd] at h1 h2 ⊢
       clear hF
       rcases Nat.lt_or_ge i p.out.length with hi | hi
       ·rw [qbic _ _ hi] at h2
        have hxm : p.out[i] ∈ p.out := List.getElem_mem hi
        have wi : IntKind.i64.wrap ((i : Int) + 1) = (i : Int) + 1 := qaao (by omega) (by omega)
        have wa : IntKind.i64.wrap (7000 + (i : Int)) = 7000 + (i : Int) := qaao (by omega) (by omega)
        have hc2 := fun q => rin_s (p.out.take i) p.out[i] (by rw [List.length_take]; omega) q
        simp only [nums, List.map_take] at hc2
        have hc1 := fun q => qasr p p.out[i] q
        generalize hxx : p.out[i] = x at h2 hc1 hc2 hxm
        unfold outF at h2
        generalize (p.out.take i).contains x = C at h2 hc2
        generalize qac0 p x = H at h2 hc1
        have hi' := Nat.le_of_lt hi
        replace h2 := Lib.hid h2
        cases kH : H <;> rw [kH] at hc1
        ·have hz : F = (1, 7000 + (i : Int)) := by have := h2.out; rw [kH] at this; exact this
         replace hz := Lib.hid hz
         repeat' (first | (with_reducible first | refine zA ?_ | refine qaae ?_ | refine zK ?_) | ((with_reducible first | refine qaac ?_ | refine qaaz (by rw [hP]; exact qacz) ?_); (try rw [hP]); simp -implicitDefEqProofs [*]) | ((with_reducible refine qaaf ?_); (try simp -implicitDefEqProofs [*])) | ((with_reducible refine qaam ?_); (try simp only [qaap, qaag, qaaj])) | ((with_reducible refine qaaa rfl (fun h => ?_) (fun h => ?_)) <;> have h' := h <;> (try simp at h') <;> (try subst h')) | ((first | refine qaaw (hc1 _) ?_ | refine qaaw (rF_s _ _ _) ?_); simp -implicitDefEqProofs [*]) | (refine qag9 hm rfl rfl (by rw [hP]; exact qabe) (by rw [hP]; exact qaa4) rfl (CoL.refl _) (by rw [hz.out]) (fun σ => rfl)) | fail)
        cases kC : C <;> rw [kC] at hc2
        ·repeat' (first | (with_reducible first | refine zA ?_ | refine qaae ?_ | refine zK ?_) | ((with_reducible first | refine qaac ?_ | refine qaaz (by rw [hP]; exact qacz) ?_); (try rw [hP]); simp -implicitDefEqProofs [*]) | ((with_reducible refine qaaf ?_); (try simp -implicitDefEqProofs [*])) | ((with_reducible refine qaaa rfl (fun h => ?_) (fun h => ?_)) <;> have h' := h <;> (try simp at h') <;> (try subst h')) | ((first | refine qaaw (hc1 _) ?_ | refine qaaw (hc2 _) ?_); simp -implicitDefEqProofs [*]) | (with_reducible first | refine za ?_ ?_ | refine zb ?_ ?_ ?_ ?_) | (with_reducible first | exact qaab | exact qaad) | ((with_reducible first | refine zga ?_ | refine zgb ?_); rfl) | ((with_reducible first | refine zgd ?_ | refine zge ?_); (first | omega | (simp; done))) | (exact Co.refl _) | (exact CoL.refl _) | ((refine qaai hJ (i + 1) ?_ ?_ ?_; (with_reducible refine qaah [] hm ?_ ?_ ?_ ?_) <;> (try simp only [zT, puth, Nat.reduceEqDiff, reduceIte, Nat.reduceAdd]))) | fail)
         exact ⟨by omega, by have := h2.out; rw [kH, kC] at this; exact this⟩
        ·have hz : F = (7, 7000 + (i : Int)) := by have := h2.out; rw [kH, kC] at this; exact this
         replace hz := Lib.hid hz
         repeat' (first | (with_reducible first | refine zA ?_ | refine qaae ?_ | refine zK ?_) | ((with_reducible first | refine qaac ?_ | refine qaaz (by rw [hP]; exact qacz) ?_); (try rw [hP]); simp -implicitDefEqProofs [*]) | ((with_reducible refine qaaf ?_); (try simp -implicitDefEqProofs [*])) | ((with_reducible refine qaam ?_); (try simp only [qaap, qaag, qaaj])) | ((with_reducible refine qaaa rfl (fun h => ?_) (fun h => ?_)) <;> have h' := h <;> (try simp at h') <;> (try subst h')) | ((first | refine qaaw (hc1 _) ?_ | refine qaaw (hc2 _) ?_ | refine qaaw (rF_s _ _ _) ?_); simp -implicitDefEqProofs [*]) | (refine qag9 hm rfl rfl (by rw [hP]; exact qabe) (by rw [hP]; exact qaa4) rfl (CoL.refl _) (by rw [hz.out]) (fun σ => rfl)) | fail)
       ·obtain rfl : i = p.out.length := by omega
        have hz : F = (0, 0) := by rw [h2, List.drop_length]; rfl
        clear h2
        replace hz := Lib.hid hz
        repeat' (first | (with_reducible refine zA ?_) | ((with_reducible refine qaac ?_); (try rw [hP]); simp -implicitDefEqProofs [*]) | ((with_reducible refine qaak ?_); (try simp -implicitDefEqProofs [*])) | ((with_reducible refine qaam ?_); (try simp only [qaap, qaag, qaaj])) | ((with_reducible refine qaaa rfl (fun h => ?_) (fun h => ?_)) <;> have h' := h <;> (try simp at h') <;> (try subst h')) | (refine qag9 hm rfl rfl (by rw [hP]; exact qabe) (by rw [hP]; exact qaa4) rfl (CoL.refl _) (by rw [hz.out]) (fun σ => rfl)) | fail)
end Go.Proofs.YteoijlmgiemffaaGreat
