/-
  Texts joined: XWlkI XFlwL XPloB XPlnZ XPloD XLowC. No condition.
-/
import Derived.Test.YteoijlmgiemffaaGreatProg
import Derived.ProofKit
import Derived.WalkSpells
import Derived.RegionTactic
import Derived.BigRegion
import Derived.Deep.RegionLaw
import Derived.Test.YteoijlmgiemffaaGreatLowerShapesK7
namespace Go.Proofs.YteoijlmgiemffaaGreat
set_option linter.all false
open Go.RowKit
attribute [local simp] qabi qabh qaax qaa7 qaay qaa6 qabf qabg qaar qabr SOp.run SX.ev putd puts argS upds SOp.touch SSt.keep SSt.skip gets geth puth delh idOf SV.cells? setL qadh qadi sbin eq0 eq1 eqL qadf qab9 qaca qaap qabk qaag qabl qabs qaaj qaaq FrzOk qaba qaa1 qaa8 qaa9 qaat qaa0 qabm qaa2 qaav qabb qaau frzS frzH frz frz1 frz0 SlotsM ObjsM ObjM rn ren ren1 ren0 qabu qab7 qacf qabt qabn qacg qace CoL qabc qab3 dels adds idsH qabz
attribute [local simp] qadt refc qaes qaei qab8 opc actc tabc qaea qacm nums wayc setc
def putW (m : List SetsD) (w : WayD) : List SetsD := m.set w.st (qanw (m.getD w.st qaee) (qbhu (w.taken, w.bytes)))
theorem qanp (m : List SetsD) (w : WayD) : (putW m w).length = m.length := by simp [putW]
theorem qahh : ∀ (ws : List WayD) (m : List SetsD), (ws.foldl putW m).length = m.length
 | [], _ => rfl
 | w :: ws, m => by rw [List.foldl_cons, qahh ws, qanp]
theorem qa58 {n : Nat} : ∀ (ws : List WayD) (m : List SetsD) (P : Nat → TB → Prop), m.length = n + 1 → (∀ w ∈ ws, w.st ≤ n) → (∀ k, k ≤ n → IsO (m.getD k qaee) (P k)) →
  ∀ k, k ≤ n → IsO ((ws.foldl putW m).getD k qaee) (fun y => P k y ∨ ∃ w ∈ ws, w.st = k ∧ y = (w.taken, w.bytes))
 | [], m, P, _, _, h, k, hk => (h k hk).congr fun y => by simp
 | w :: ws, m, P, hm, hw, h, k, hk => by
  rw [List.foldl_cons]
  have hws := hw w (by simp)
  have step : ∀ k, k ≤ n → IsO ((putW m w).getD k qaee) (fun y => P k y ∨ (w.st = k ∧ y = (w.taken, w.bytes))) := fun k hk => by
   unfold putW
   by_cases e : w.st = k
   ·subst e
    rw [List.getD_eq_getElem?_getD, List.getElem?_set_self (by omega), Option.getD_some]
    exact ((h w.st hk).join (is_one (w.taken, w.bytes))).congr fun y => by simp
   ·rw [List.getD_eq_getElem?_getD, List.getElem?_set_ne e, ← List.getD_eq_getElem?_getD]
    exact (h k hk).congr fun y => by simp [e]
  refine (qa58 ws (putW m w) _ (by rw [qanp, hm]) (fun v hv => hw v (by simp [hv])) step k hk).congr fun y => ?_
  constructor
  ·rintro ((h1 | ⟨h1, h2⟩) | ⟨v, h1, h2⟩)
   ·exact .inl h1
   ·exact .inr ⟨w, by simp, h1, h2⟩
   ·exact .inr ⟨v, by simp [h1], h2⟩
  ·rintro (h1 | ⟨v, h1, h2⟩)
   ·exact .inl (.inl h1)
   ·rcases List.mem_cons.1 h1 with e | e
    ·subst e; exact .inl (.inr h2)
    ·exact .inr ⟨v, e, h2⟩
theorem qbi5 {p : PlanD} (hp : PlOk p) : (qa4q p).foldl putW (List.replicate (p.states.length + 1) qaee) = qaf1 p := by
 obtain ⟨j, hI, _⟩ := qanj hp
 refine List.ext_getElem (by rw [qahh, List.length_replicate]; exact (qacw p _).symm) fun k h1 h2 => ?_
 rw [qahh, List.length_replicate] at h1
 have a := qa58 (n := p.states.length) (qa4q p) (List.replicate (p.states.length + 1) qaee) (fun _ _ => False) (by simp) (fun w hw => (hI.sound w hw).1) (fun k hk => .inl ⟨by rw [List.getD_eq_getElem?_getD, List.getElem?_replicate, if_pos (by omega)]; rfl, fun _ h => h⟩) k (by omega)
 have b := qaf4 hp p.states.length (Nat.le_refl _) k (by omega)
 have e := (a.congr fun y => (Iff.intro (fun h => h.resolve_left id) .inr).trans (ways_rw hp (by omega) y)).uniq b
 rw [List.getD_eq_getElem?_getD, List.getD_eq_getElem?_getD, List.getElem?_eq_getElem (by rw [qahh, List.length_replicate]; omega), List.getElem?_eq_getElem (by rw [qacw]; omega)] at e
 exact e
theorem qbeh {p : PlanD} {i : Nat} (hi : i < p.states.length) : (qaf1 p)[i]? = some (setAt p i) := by
 have : i < (qaf1 p).length := by unfold qaf1; rw [qacw]; omega
 unfold setAt; rw [List.getD_eq_getElem?_getD, List.getElem?_eq_getElem this]; rfl
set_option maxRecDepth 4000 in
set_option maxHeartbeats 8000000 in
theorem rwalk_s (p : PlanD) (hs : SmallP p) (q : Nat) : SCalls Tryz.prog 21 [.agg (qacm p)] [] q (.tup [.view 5 ((qane p).map setc), .agg [.int .i64 (qafm p).1, .int .i64 (qafm p).2]]) [] := by
 refine qabj ?_ (fun _ => rfl) (fun _ => rfl) rfl q
 refine qaas (N := 199) Tryz.func21 rfl rfl (by kernel_rfl) qaob (by simp) (by repeat' (first | exact trivial | refine And.intro ?_ ?_ | rfl | decide | exact PureR.ren _)) (by repeat' (first | exact trivial | refine And.intro ?_ ?_ | rfl | decide | exact PureR.ren _)) ?_
 rintro X hP hN hm
 unfold c_rwalk
 have hc := fun q => rform_s p hs q
 by_cases h0 : (qafh p).1 = 0
 ·have hp := qbet h0
  have hF : qafm p = qafq p := by unfold qafm; rw [if_neg (by simpa using h0)]
  have hL : qane p = if (qafq p).1 ≠ 0 then [] else qaf1 p := by unfold qane; rw [hF]
  rw [hF, hL]
  have kc : ((qafh p).1 != 0) = false := by simpa using h0
  generalize qafh p = C at hc kc
  have hn1 : p.states.length ≤ 8 := hp.states.2
  have wn : IntKind.i64.wrap ((p.states.length : Int) + 1) = (p.states.length : Int) + 1 := qaao (by omega) (by omega)
  have hmx : p.states.length + 1 ≤ maxLen := by unfold maxLen; omega
  have hways := fun q => rways_s p hp q
  have hout := qbi5 hp
  obtain ⟨j, hI, hj⟩ := qanj hp
  have hwl := qbh3 hI
  have hws : ∀ w ∈ qa4q p, w.st ≤ p.states.length := fun w hw => (hI.sound w hw).1
  clear hI hj
  have hF0 : qafq p = rowF (fun i s => refC s (setAt p i)) 3000 0 (p.states.drop 0) := rfl
  generalize qafq p = F at hF0
  generalize qa4q p = ws at hways hout hwl hws
  have hrep : List.replicate (p.states.length + 1) [SV.int .u64 0, .int .u64 0, .int .i64 0, .int .i64 0, .bool false] = (List.replicate (p.states.length + 1) qaee).map setc := by rw [List.map_replicate]; rfl
  have hout0 : qaf1 p = (ws.drop 0).foldl putW (List.replicate (p.states.length + 1) qaee) := hout.symm
  have hrl : (List.replicate (p.states.length + 1) qaee).length = p.states.length + 1 := by simp
  generalize List.replicate (p.states.length + 1) qaee = m0 at hrep hout0 hrl
  clear hF hL h0 hout
  replace hF0 := Lib.hid hF0
  replace hc := Lib.hid hc
  replace hways := Lib.hid hways
  replace hws := Lib.hid hws
  replace hout0 := Lib.hid hout0
  replace hrep := Lib.hid hrep
  replace hp := Lib.hid hp
  replace hrl := Lib.hid hrl
  repeat' (first | (with_reducible refine zA ?_) | ((with_reducible refine qaac ?_); (try rw [hP]); simp -implicitDefEqProofs [*]) | ((with_reducible refine qaaf ?_); (try simp -implicitDefEqProofs [*])) | ((with_reducible refine qaaa rfl (fun h => ?_) (fun h => ?_)) <;> have h' := h <;> (try simp at h') <;> (try subst h')) | ((with_reducible refine qabo ?_ ?_); (first | omega | (unfold maxLen; omega)); simp -implicitDefEqProofs [*]) | ((first | refine qaaw (hc.out _) ?_ | refine qaaw (hways.out _) ?_); simp -implicitDefEqProofs [*]) | fail)
  refine qaal (qaa5 (fun s (z : Nat × List SetsD) => s.turn [(7, .int .i64 z.1)] [(31, .row 85 5 (z.2.map setc))]) (fun z => z.1 ≤ ws.length ∧ z.2.length = p.states.length + 1 ∧ qaf1 p = (ws.drop z.1).foldl putW z.2) (fun z => ws.length - z.1) (0, m0) ?_ ⟨by simp, hrl.out, hout0.out⟩ ?_)
  ·repeat' (first | ((with_reducible refine qaah [] hm ?_ ?_ ?_ ?_) <;> (try simp only [zT, puth, Nat.reduceEqDiff, reduceIte, Nat.reduceAdd])) | (with_reducible first | refine za ?_ ?_ | refine zb ?_ ?_ ?_ ?_ | refine zc ?_ ?_ ?_ ?_) | (with_reducible first | exact qaab | exact qaad) | ((with_reducible first | refine zga ?_ | refine zgb ?_); rfl) | ((with_reducible refine zgd ?_); (first | omega | (simp; done))) | (exact Co.refl _) | (exact CoL.refl _) | fail)
   all_goals (exact hrep.out)
  rintro J hJ ⟨i, m⟩ ⟨h1, hml, h2⟩
  unfold qalr
  simp only [zT, puth, Nat.reduceEqDiff, reduceIte, Nat.reduceAdd] at h1 hml h2 ⊢
  clear hrl hout0 hrep
  rcases Nat.lt_or_ge i ws.length with hi | hi
  ·have hwst := hws.out ws[i] (List.getElem_mem hi)
   have hgw : ws[i]? = some ws[i] := List.getElem?_eq_getElem hi
   rw [List.drop_eq_getElem_cons hi, List.foldl_cons] at h2
   generalize hww : ws[i] = w at hwst hgw h2
   have hstl : w.st < m.length := by omega
   have hstl2 : w.st < p.states.length + 1 := by omega
   have hgy : m[w.st]? = some m[w.st] := List.getElem?_eq_getElem hstl
   have hput : putW m w = m.set w.st (qanw m[w.st] (qbhu (w.taken, w.bytes))) := by
    unfold putW; rw [List.getD_eq_getElem?_getD, hgy]; rfl
   have hpl : (putW m w).length = p.states.length + 1 := by rw [qanp, hml]
   have hrow : (m.map setc).set w.st (setc (qanw m[w.st] (qbhu (w.taken, w.bytes)))) = (putW m w).map setc := by rw [hput, List.map_set]
   generalize hyy : m[w.st] = y at hgy hrow
   generalize putW m w = M at h2 hpl hrow
   have hmaplen : (m.map setc).length = p.states.length + 1 := by rw [List.length_map, hml]
   have wi : IntKind.i64.wrap ((i : Int) + 1) = (i : Int) + 1 := qaao (by omega) (by omega)
   clear hput
   replace h2 := Lib.hid h2
   replace hpl := Lib.hid hpl
   replace hrow := Lib.hid hrow
   cases hth : y.there
   ·repeat' (first | (with_reducible first | refine zA ?_ | refine qaae ?_ | refine zK ?_) | ((with_reducible first | refine qaac ?_ | refine qaaz (by rw [hP]; exact qacz) ?_); (try rw [hP]); simp -implicitDefEqProofs [*]) | ((with_reducible first | refine qaaf ?_ | refine qaak ?_); (try simp -implicitDefEqProofs [*])) | ((with_reducible refine qaaa rfl (fun h => ?_) (fun h => ?_)) <;> have h' := h <;> (try simp at h') <;> (try subst h')) | ((with_reducible refine qabo ?_ ?_); (first | omega | (unfold maxLen; omega)); simp -implicitDefEqProofs [*]) | (with_reducible first | refine za ?_ ?_ | refine zb ?_ ?_ ?_ ?_ | refine zc ?_ ?_ ?_ ?_) | (with_reducible first | exact qaab | exact qaad) | ((with_reducible first | refine zga ?_ | refine zgb ?_); rfl) | ((with_reducible first | refine zgd ?_ | refine zge ?_); (first | omega | (simp; done))) | (exact Co.refl _) | (exact CoL.refl _) | ((refine qaai hJ (i + 1, M) ?_ ?_ ?_; (with_reducible refine qaah [] hm ?_ ?_ ?_ ?_) <;> (try simp only [zT, puth, Nat.reduceEqDiff, reduceIte, Nat.reduceAdd]))) | fail)
    all_goals first | (exact ⟨by dsimp only; omega, hpl.out, h2.out⟩) | (rw [← hrow.out]; congr 1; simp [qanw, hth, qbhu]; done)
   ·repeat' (first | (with_reducible first | refine zA ?_ | refine qaae ?_ | refine zK ?_) | ((with_reducible first | refine qaac ?_ | refine qaaz (by rw [hP]; exact qacz) ?_); (try rw [hP]); simp -implicitDefEqProofs [-BitVec.toNat_and, -BitVec.toNat_or, qaa3, qabq, List.set_set, List.getElem?_set_self, *]) | ((with_reducible refine qaaf ?_); (try simp -implicitDefEqProofs [-BitVec.toNat_and, -BitVec.toNat_or, qaa3, qabq, List.set_set, List.getElem?_set_self, *])) | ((with_reducible refine qaaa rfl (fun h => ?_) (fun h => ?_)) <;> have h' := h <;> (try simp at h') <;> (try subst h')) | ((with_reducible refine qabo ?_ ?_); (first | omega | (unfold maxLen; omega)); simp -implicitDefEqProofs [-BitVec.toNat_and, -BitVec.toNat_or, qaa3, qabq, List.set_set, List.getElem?_set_self, *]) | (with_reducible first | refine za ?_ ?_ | refine zb ?_ ?_ ?_ ?_ | refine zc ?_ ?_ ?_ ?_) | (with_reducible first | exact qaab | exact qaad) | ((with_reducible first | refine zga ?_ | refine zgb ?_); rfl) | ((with_reducible first | refine zgd ?_ | refine zge ?_); (first | omega | (simp; done))) | (exact Co.refl _) | (exact CoL.refl _) | ((refine qaai hJ (i + 1, M) ?_ ?_ ?_; (with_reducible refine qaah [] hm ?_ ?_ ?_ ?_) <;> (try simp only [zT, puth, Nat.reduceEqDiff, reduceIte, Nat.reduceAdd]))) | fail)
    all_goals first | (exact ⟨by dsimp only; omega, hpl.out, h2.out⟩) | (rw [← hrow.out]; congr 1; simp [qanw, hth, qbhu, lo, hi_, *]; done) | (rw [← hrow.out]; congr 1; simp_all [qanw, qbhu, lo, hi_]; done) | (rw [← hrow.out]; congr 1; simp_all [qanw, qbhu, lo, hi_]; omega)
  ·obtain rfl : i = ws.length := by omega
   rw [List.drop_length] at h2
   have h3 : m = qaf1 p := h2.symm
   subst h3
   clear h2 hws
   repeat' (first | (with_reducible refine zA ?_) | ((with_reducible refine qaac ?_); (try rw [hP]); simp -implicitDefEqProofs [*]) | ((with_reducible refine qaak ?_); (try simp -implicitDefEqProofs [*])) | ((with_reducible refine qaaa rfl (fun h => ?_) (fun h => ?_)) <;> have h' := h <;> (try simp at h') <;> (try subst h')) | fail)
   refine qaal (qaa5 (fun s (i : Nat) => s.turn [(9, .int .i64 i)] []) (fun i => i ≤ p.states.length ∧ F = rowF (fun i s => refC s (setAt p i)) 3000 i (p.states.drop i)) (fun i => p.states.length - i) 0 ?_ ⟨by simp, hF0.out⟩ ?_)
   ·repeat' (first | ((with_reducible refine qaah [] hm ?_ ?_ ?_ ?_) <;> (try simp only [zT, puth, Nat.reduceEqDiff, reduceIte, Nat.reduceAdd])) | (with_reducible first | refine za ?_ ?_ | refine zb ?_ ?_ ?_ ?_ | refine zc ?_ ?_ ?_ ?_) | (with_reducible first | exact qaab | exact qaad) | ((with_reducible first | refine zga ?_ | refine zgb ?_); rfl) | ((with_reducible refine zgc ?_); (first | (with_reducible rfl) | rfl | (simp; done))) | ((with_reducible refine zgd ?_); (first | omega | (simp; done))) | (exact Co.refl _) | (exact CoL.refl _) | fail)
   rintro J hJ i ⟨h1, h2⟩
   unfold qalq
   simp only [zT, puth, Nat.reduceEqDiff, reduceIte, Nat.reduceAdd] at h1 h2 ⊢
   clear hF0
   have hmaplen : ((qaf1 p).map setc).length = p.states.length + 1 := by rw [List.length_map, hml]
   rcases Nat.lt_or_ge i p.states.length with hi | hi
   ·rw [qadb _ _ hi] at h2
    have hga := qbeh hi
    have ok := hp.out.ok i hi
    have hhd := ok.head
    have hon := ok.on
    have hh6 := hp.out.heads
    clear ok
    have hil : i < (qaf1 p).length := by omega
    have hga2 : (qaf1 p)[i] = setAt p i := by rw [List.getElem?_eq_getElem hil] at hga; exact Option.some.inj hga
    generalize setAt p i = y at h2 hga hga2
    generalize hxx : p.states[i] = x at h2 hhd hon
    have wi : IntKind.i64.wrap ((i : Int) + 1) = (i : Int) + 1 := qaao (by omega) (by omega)
    have wa : IntKind.i64.wrap (3000 + (i : Int)) = 3000 + (i : Int) := qaao (by omega) (by omega)
    have kn : decide (0 < x.cases_.length) = decide (0 < (x.cases_.length : Int)) := decide_eq_decide.2 (by omega)
    cases hth : y.there
    ·have hC : refC x y = 0 := by unfold refC; rw [if_pos hth]
     rw [hC, if_neg (by decide)] at h2
     replace h2 := Lib.hid h2
     replace hon := Lib.hid hon
     repeat' (first | (with_reducible first | refine zA ?_ | refine qaae ?_) | ((with_reducible refine qaac ?_); (try rw [hP]); simp -implicitDefEqProofs [*]) | ((with_reducible first | refine qaaf ?_ | refine qaak ?_); (try simp -implicitDefEqProofs [*])) | ((with_reducible refine qaaa rfl (fun h => ?_) (fun h => ?_)) <;> have h' := h <;> (try simp at h') <;> (try subst h')) | ((with_reducible refine qabo ?_ ?_); (first | omega | (unfold maxLen; omega)); simp -implicitDefEqProofs [*]) | (with_reducible first | refine za ?_ ?_ | refine zb ?_ ?_ ?_ ?_ | refine zc ?_ ?_ ?_ ?_) | (with_reducible first | exact qaab | exact qaad) | ((with_reducible first | refine zga ?_ | refine zgb ?_); rfl) | ((with_reducible refine zgc ?_); (first | (with_reducible rfl) | rfl | (simp; done))) | ((with_reducible first | refine zgd ?_ | refine zge ?_); (first | omega | (simp; done))) | (exact Co.refl _) | (exact CoL.refl _) | ((refine qaai hJ (i + 1) ?_ ?_ ?_; (with_reducible refine qaah [] hm ?_ ?_ ?_ ?_) <;> (try simp only [zT, puth, Nat.reduceEqDiff, reduceIte, Nat.reduceAdd]))) | fail)
     all_goals (exact ⟨by omega, h2.out⟩)
    ·have hC : refC x y = if (decide (0 ≤ x.head) && (y.may &&& bitB x.head != 0)) = true then 7 else if (decide (0 < x.cases_.length) && (decide (0 ≤ x.on.h) && (x.on.h != x.head && (y.must &&& bitB x.on.h == 0)))) = true then 12 else 0 := by unfold refC; rw [if_neg (by rw [hth]; decide)]
     have hbh := fun (h0 : 0 ≤ x.head) q => qat4 x.head h0 (by omega) q
     have hbo := fun (h0 : 0 ≤ x.on.h) (h1 : x.on.h < p.heads.length) q => qat4 x.on.h h0 (by omega) q
     generalize refC x y = E at hC h2
     replace hbh := Lib.hid hbh
     replace hbo := Lib.hid hbo
     replace hon := Lib.hid hon
     cases kA : (decide (0 ≤ x.head) && (y.may &&& bitB x.head != 0))
     ·rw [kA, if_neg (by decide)] at hC
      cases kB : (decide (0 < x.cases_.length) && (decide (0 ≤ x.on.h) && (x.on.h != x.head && (y.must &&& bitB x.on.h == 0))))
      ·rw [kB, if_neg (by decide)] at hC
       rw [hC, if_neg (by decide)] at h2
       replace h2 := Lib.hid h2
       replace kB := Lib.hid kB
       replace kA := Lib.hid kA
       clear hC
       cases kh : decide (0 ≤ x.head)
       all_goals cases kc : decide (0 < (x.cases_.length : Int)) <;> rw [kc] at kn
       all_goals cases ko : decide (0 ≤ x.on.h)
       all_goals cases k2 : (x.on.h != x.head)
       all_goals
        have k1 : decide (0 ≤ x.head) = true → (y.may &&& bitB x.head != 0) = false := fun h => by have := kA.out; rw [h, Bool.true_and] at this; exact this
        have k3 : decide (0 < x.cases_.length) = true → decide (0 ≤ x.on.h) = true → (x.on.h != x.head) = true → (y.must &&& bitB x.on.h == 0) = false := fun h h' h'' => by have := kB.out; rw [h, h', h'', Bool.true_and, Bool.true_and, Bool.true_and] at this; exact this
        first
        | (have k1' := k1 kh
           simp only [BitVec.ofNat_eq_ofNat] at k1') | skip
        first
        | (have k3' := k3 kn ko k2
           simp only [BitVec.ofNat_eq_ofNat] at k3') | skip
        clear k1 k3
        repeat' (first | (with_reducible first | refine zA ?_ | refine qaae ?_ | refine zK ?_) | ((with_reducible first | refine qaac ?_ | refine qaaz (by rw [hP]; exact qacz) ?_); (try rw [hP]); simp -implicitDefEqProofs [-BitVec.toNat_and, -BitVec.toNat_or, qaa3, qabq, qac5, qacn, *]) | ((with_reducible refine qaaf ?_); (try simp -implicitDefEqProofs [-BitVec.toNat_and, -BitVec.toNat_or, qaa3, qabq, qac5, qacn, *])) | ((with_reducible refine qaaa rfl (fun h => ?_) (fun h => ?_)) <;> have h' := h <;> (try simp at h') <;> (try subst h')) | ((with_reducible refine qabo ?_ ?_); (first | omega | (unfold maxLen; omega)); simp -implicitDefEqProofs [-BitVec.toNat_and, -BitVec.toNat_or, qaa3, qabq, qac5, qacn, *]) | ((first | refine qaaw (hbh.out (of_decide_eq_true kh) _) ?_ | refine qaaw (hbo.out (of_decide_eq_true ko) (hon.out (by have := of_decide_eq_true kc; omega)) _) ?_); simp -implicitDefEqProofs [-BitVec.toNat_and, -BitVec.toNat_or, qaa3, qabq, qac5, qacn, *]) | (with_reducible first | refine za ?_ ?_ | refine zb ?_ ?_ ?_ ?_ | refine zc ?_ ?_ ?_ ?_) | (with_reducible first | exact qaab | exact qaad) | ((with_reducible first | refine zga ?_ | refine zgb ?_); rfl) | ((with_reducible refine zgc ?_); (first | (with_reducible rfl) | rfl | (simp; done))) | ((with_reducible first | refine zgd ?_ | refine zge ?_); (first | omega | (simp; done))) | (exact Co.refl _) | (exact CoL.refl _) | ((refine qaai hJ (i + 1) ?_ ?_ ?_; (with_reducible refine qaah [] hm ?_ ?_ ?_ ?_) <;> (try simp only [zT, puth, Nat.reduceEqDiff, reduceIte, Nat.reduceAdd]))) | fail)
        all_goals (exact ⟨by omega, h2.out⟩)
      ·rw [kB, if_pos rfl] at hC
       have hz : F = (12, 3000 + (i : Int)) := by rw [h2, hC]; exact if_pos (by decide)
       clear h2 hC
       replace hz := Lib.hid hz
       rw [Bool.and_eq_true, Bool.and_eq_true, Bool.and_eq_true] at kB
       obtain ⟨k5, k6, k7, k8⟩ := kB
       rw [k5] at kn
       replace kn := kn.symm
       have hol := hon.out (of_decide_eq_true k5)
       have h6 := of_decide_eq_true k6
       have kz : (((y.must &&& bitB x.on.h).toNat : Nat) : Int) = 0 := by have := qacn (y.must &&& bitB x.on.h); rw [k8] at this; simpa using this
       replace k8 := Lib.hid k8
       replace kA := Lib.hid kA
       replace hol := Lib.hid hol
       replace h6 := Lib.hid h6
       cases kh : decide (0 ≤ x.head)
       all_goals
        have k1 : decide (0 ≤ x.head) = true → (y.may &&& bitB x.head != 0) = false := fun h => by have := kA.out; rw [h, Bool.true_and] at this; exact this
        first
        | (have k1' := k1 kh
           simp only [BitVec.ofNat_eq_ofNat] at k1') | skip
        clear k1
        repeat' (first | (with_reducible first | refine zA ?_ | refine qaae ?_ | refine zK ?_) | ((with_reducible first | refine qaac ?_ | refine qaaz (by rw [hP]; exact qacz) ?_); (try rw [hP]); simp -implicitDefEqProofs [-BitVec.toNat_and, -BitVec.toNat_or, qaa3, qabq, qac5, *]) | ((with_reducible refine qaaf ?_); (try simp -implicitDefEqProofs [-BitVec.toNat_and, -BitVec.toNat_or, qaa3, qabq, qac5, *])) | ((with_reducible refine qaam ?_); (try simp only [qaap, qaag, qaaj])) | ((with_reducible refine qaaa rfl (fun h => ?_) (fun h => ?_)) <;> have h' := h <;> (try simp at h') <;> (try subst h')) | ((with_reducible refine qabo ?_ ?_); (first | omega | (unfold maxLen; omega)); simp -implicitDefEqProofs [-BitVec.toNat_and, -BitVec.toNat_or, qaa3, qabq, qac5, *]) | ((first | refine qaaw (hbh.out (of_decide_eq_true kh) _) ?_ | refine qaaw (hbo.out h6.out hol.out _) ?_ | refine qaaw (rF_s _ _ _) ?_); simp -implicitDefEqProofs [-BitVec.toNat_and, -BitVec.toNat_or, qaa3, qabq, qac5, *]) | (refine qafl hm (by decide) rfl (Co.nilsl 5) (qads _ _) rfl rfl (by rw [hP]; exact qabe) (by rw [hP]; exact qaa4) rfl (CoL.refl _) (by rw [hz.out]; rfl) (fun σ => rfl)) | fail)
     ·rw [kA, if_pos rfl] at hC
      have hz : F = (7, 3000 + (i : Int)) := by rw [h2, hC]; exact if_pos (by decide)
      clear h2 hC
      replace hz := Lib.hid hz
      rw [Bool.and_eq_true] at kA
      obtain ⟨k5, k6⟩ := kA
      have h5 := of_decide_eq_true k5
      simp only [BitVec.ofNat_eq_ofNat] at k6
      replace h5 := Lib.hid h5
      repeat' (first | (with_reducible first | refine zA ?_ | refine qaae ?_ | refine zK ?_) | ((with_reducible first | refine qaac ?_ | refine qaaz (by rw [hP]; exact qacz) ?_); (try rw [hP]); simp -implicitDefEqProofs [-BitVec.toNat_and, -BitVec.toNat_or, qaa3, qabq, qac5, qacn, *]) | ((with_reducible refine qaaf ?_); (try simp -implicitDefEqProofs [-BitVec.toNat_and, -BitVec.toNat_or, qaa3, qabq, qac5, qacn, *])) | ((with_reducible refine qaam ?_); (try simp only [qaap, qaag, qaaj])) | ((with_reducible refine qaaa rfl (fun h => ?_) (fun h => ?_)) <;> have h' := h <;> (try simp at h') <;> (try subst h')) | ((with_reducible refine qabo ?_ ?_); (first | omega | (unfold maxLen; omega)); simp -implicitDefEqProofs [-BitVec.toNat_and, -BitVec.toNat_or, qaa3, qabq, qac5, qacn, *]) | ((first | refine qaaw (hbh.out h5.out _) ?_ | refine qaaw (rF_s _ _ _) ?_); simp -implicitDefEqProofs [-BitVec.toNat_and, -BitVec.toNat_or, qaa3, qabq, qac5, qacn, *]) | (refine qafl hm (by decide) rfl (Co.nilsl 5) (qads _ _) rfl rfl (by rw [hP]; exact qabe) (by rw [hP]; exact qaa4) rfl (CoL.refl _) (by rw [hz.out]; rfl) (fun σ => rfl)) | fail)
   ·obtain rfl : i = p.states.length := by omega
    rw [List.drop_length] at h2
    have hz : F = (0, 0) := h2
    subst hz
    clear h2
    replace hp := Lib.hid hp
    repeat' (first | ((with_reducible refine qacr (c := .seq (.reg false qai7 [2, 3]) .ret) ?_)) | (with_reducible refine zA ?_) | ((with_reducible refine qaac ?_); (try rw [hP]); simp -implicitDefEqProofs [*]) | ((with_reducible refine qaak ?_); (try simp -implicitDefEqProofs [*])) | ((with_reducible refine qaaa rfl (fun h => ?_) (fun h => ?_)) <;> have h' := h <;> (try simp at h') <;> (try subst h')) | fail)
    constructor
    refine qaeg [31] ?_ ?_
    ·simp only [FrzOk, geth, Nat.reduceEqDiff, reduceIte, qad9, and_true]
    have htk : ((qaf1 p).map setc).take (p.states.length + 1) = (qaf1 p).map setc := List.take_of_length_le (by rw [hmaplen]; exact Nat.le_refl _)
    simp -implicitDefEqProofs [htk, hmaplen, Nat.le_refl]
    repeat' (first | (with_reducible refine zA ?_) | ((with_reducible refine qaac ?_); (try rw [hP]); simp -implicitDefEqProofs [*]) | ((with_reducible refine qaam ?_); (try simp only [qaap, qaag, qaaj])) | (refine qafl hm (by decide) rfl (Co.refl _) (qads _ _) rfl rfl (by rw [hP]; exact qabe) (by rw [hP]; exact qaa4) rfl (CoL.refl _) ?_ (fun σ => rfl)) | fail)
    all_goals rfl
 ·have hF : qafm p = qafh p := by unfold qafm; rw [if_pos h0]
  have hL : qane p = [] := by unfold qane; rw [hF, if_pos h0]
  rw [hF, hL]
  have kc : ((qafh p).1 != 0) = true := by simpa using h0
  generalize qafh p = C at hc kc
  replace hc := Lib.hid hc
  clear hF hL h0
  repeat' (first | (with_reducible first | refine zA ?_ | refine zK ?_) | ((with_reducible first | refine qaac ?_ | refine qaaz (by rw [hP]; exact qacz) ?_); (try rw [hP]); simp -implicitDefEqProofs [*]) | ((with_reducible refine qaam ?_); (try simp only [qaap, qaag, qaaj])) | ((with_reducible refine qaaa rfl (fun h => ?_) (fun h => ?_)) <;> have h' := h <;> (try simp at h') <;> (try subst h')) | (refine qaaw (hc.out _) ?_; simp -implicitDefEqProofs [*]) | (refine qafl hm (by decide) rfl (Co.nilsl 5) (qads _ _) rfl rfl (by rw [hP]; exact qabe) (by rw [hP]; exact qaa4) rfl (CoL.refl _) rfl (fun σ => rfl)) | fail)
end Go.Proofs.YteoijlmgiemffaaGreat
namespace Go.Proofs.YteoijlmgiemffaaGreat
set_option linter.all false
open Go.RowKit
attribute [local simp] qabi qabh qaax qaa7 qaay qaa6 qabf qabg qaar qabr SOp.run SX.ev putd puts argS upds SOp.touch SSt.keep SSt.skip gets geth puth delh idOf SV.cells? setL qadh qadi sbin eq0 eq1 eqL qadf qab9 qaca qaap qabk qaag qabl qabs qaaj qaaq FrzOk qaba qaa1 qaa8 qaa9 qaat qaa0 qabm qaa2 qaav qabb qaau frzS frzH frz frz1 frz0 SlotsM ObjsM ObjM rn ren ren1 ren0 qabu qab7 qacf qabt qabn qacg qace CoL qabc qab3 dels adds idsH qabz
attribute [local simp] qadt refc qaes qaei qab8 opc actc tabc qaea qacm nums
theorem qbk1 (S : BitVec 64) : ((S.toNat : Int) != 18446744073709551615) = !(S == 18446744073709551615#64) := by
 rw [bne, qbd6]
set_option maxHeartbeats 4000000 in
theorem rflow_s (p : PlanD) (hs : SmallP p) (q : Nat) : SCalls Tryz.prog 10 [.agg (qacm p)] [] q (.tup [.view 1 ((qakg p).map bvc), .agg [.int .i64 (qagc p).1, .int .i64 (qagc p).2]]) [] := by
 refine qabj ?_ (fun _ => rfl) (fun _ => rfl) rfl q
 refine qaas (N := 74) Tryz.func10 rfl rfl (by kernel_rfl) qaok (by simp) (by repeat' (first | exact trivial | refine And.intro ?_ ?_ | rfl | decide | exact PureR.ren _)) (by repeat' (first | exact trivial | refine And.intro ?_ ?_ | rfl | decide | exact PureR.ren _)) ?_
 rintro X hP hN hm
 unfold c_rflow
 have hc := fun q => rwalk_s p hs q
 have hns := hs.nodes
 by_cases h0 : (qafm p).1 = 0
 ·have hpz : (qafh p).1 = 0 := by
   by_cases hz : (qafh p).1 = 0
   ·exact hz
   ·unfold qafm at h0; rw [if_pos hz] at h0; exact absurd h0 hz
  have hp := qbet hpz
  have hf := qbjt hpz
  have hwl : qane p = qaf1 p := by unfold qane; rw [if_neg (by simpa using h0)]
  have hF : qagc p = qafr p := by unfold qagc; rw [if_neg (by simpa using h0)]
  have hL : qakg p = if (qafr p).1 ≠ 0 then [] else atGo p (qade p) p.nodes.length := by unfold qakg; rw [hF]
  rw [hF, hL]
  rw [hwl] at hc
  have hF0 : qafr p = rowF (fun i n => qat8 p i n) 6000 0 (p.nodes.drop 0) := rfl
  generalize qafr p = F at hF0
  have kc : ((qafm p).1 != 0) = false := by simpa using h0
  generalize qafm p = C at hc kc
  have hgs : (qaf1 p)[p.states.length]? = some (setAt p p.states.length) := by
   have : p.states.length < (qaf1 p).length := by unfold qaf1; rw [qacw]; omega
   unfold setAt; rw [List.getD_eq_getElem?_getD, List.getElem?_eq_getElem this]; rfl
  have hsl : (qaf1 p).length = p.states.length + 1 := by unfold qaf1; rw [qacw]
  have hst : qade p = if (setAt p p.states.length).there then (setAt p p.states.length).must else allB := rfl
  generalize setAt p p.states.length = y at hgs hst
  have hsur := fun m hm q => rsure_s p hf hp hs (qade p) m hm q
  have hnod := fun i hi m q => qa5f p hf hp hs i hi m q
  have hrow : ∀ m, m ≤ p.nodes.length → ((atGo p (qade p) p.nodes.length).take (m + 1)).map bvc = ((atGo p (qade p) p.nodes.length).take m).map bvc ++ [bvc (qahn p (qade p) m m)] := fun m hm => by rw [qbix hf (qade p) hm, List.map_append]; rfl
  have hrl : ∀ m, m ≤ p.nodes.length + 1 → (((atGo p (qade p) p.nodes.length).take m).map bvc).length = m := fun m hm => by rw [List.length_map, List.length_take, qadu]; omega
  have hall := congrArg (List.map bvc) (row_all p (qade p))
  have hnc : ∀ (i : Nat) (n : NodeD), qat8 p i n = if qahn p (qade p) i i = allB then 0 else if qacx p n (qahn p (qade p) i i) = true then 12 else 0 := fun i n => rfl
  have hgs2 : (qaf1 p)[p.states.length]'(by omega) = y := by rw [List.getElem?_eq_getElem (by omega)] at hgs; exact Option.some.inj hgs
  generalize qade p = S at hst hsur hnod hrow hrl hall hnc ⊢
  replace hF0 := Lib.hid hF0
  replace hc := Lib.hid hc
  replace hf := Lib.hid hf
  replace hp := Lib.hid hp
  replace hst := Lib.hid hst
  replace hsur := Lib.hid hsur
  replace hnod := Lib.hid hnod
  replace hrow := Lib.hid hrow
  replace hrl := Lib.hid hrl
  replace hall := Lib.hid hall
  replace hnc := Lib.hid hnc
  clear hF hL h0 hwl hpz
  have loopL : SWp X (SCode.block 0 c_rflow_l1.loop) (QSeq X ((SCode.reg false qagx [2, 3]).seq SCode.ret) (QFun X [ResultVar.tmp 2, ResultVar.cell 3 37] 0 (SV.tup [SV.view 1 (List.map bvc (if F.1 ≠ 0 then [] else atGo p S p.nodes.length)), SV.agg [.int .i64 F.1, .int .i64 F.2]]) []))
    ⟨[(1, .ptr 0 0), (3, .ptr 2 0), (6, .int .u64 S.toNat), (7, .own 5 0), (8, .int .i64 0)], [(0, .cells 33 (qacm p)), (2, .cells 37 [.int .i64 0, .int .i64 0]), (5, .row 22 1 [])], 6⟩ := by
   refine qaal (qaa5 (fun s (m : Nat) => s.turn [(7, .own 5 m), (8, .int .i64 m)] [(5, .row 22 1 (((atGo p S p.nodes.length).take m).map bvc))]) (fun m => m ≤ p.nodes.length + 1 ∧ F = rowF (fun i n => qat8 p i n) 6000 m (p.nodes.drop m)) (fun m => p.nodes.length + 1 - m) 0 ?_ ⟨by simp, hF0.out⟩ ?_)
   ·repeat' (first | ((with_reducible refine qaah [] hm ?_ ?_ ?_ ?_) <;> (try simp only [zT, puth, Nat.reduceEqDiff, reduceIte, Nat.reduceAdd])) | (with_reducible first | refine za ?_ ?_ | refine zb ?_ ?_ ?_ ?_ | refine zc ?_ ?_ ?_ ?_) | (with_reducible first | exact qaab | exact qaad) | ((with_reducible first | refine zga ?_ | refine zgb ?_); rfl) | ((with_reducible refine zgc ?_); (first | (with_reducible rfl) | rfl | (simp; done))) | ((with_reducible refine zgd ?_); (first | omega | (simp; done))) | (exact Co.refl _) | (exact CoL.refl _) | fail)
   rintro J hJ m ⟨h1, h2⟩
   unfold c_rflow_l1
   simp only [zT, puth, Nat.reduceEqDiff, reduceIte, Nat.reduceAdd] at h1 h2 ⊢
   clear hF0
   have wm : IntKind.i64.wrap ((m : Int) + 1) = (m : Int) + 1 := qaao (by omega) (by omega)
   have w6 : IntKind.i64.wrap (6000 + (m : Int)) = 6000 + (m : Int) := qaao (by omega) (by omega)
   have hlen := hrl.out m h1
   have hb2 : m + 1 ≤ maxLen := by unfold maxLen; omega
   rcases Nat.lt_or_ge m (p.nodes.length + 1) with hm1 | hm1
   ·have kx : decide ((m : Int) ≤ (p.nodes.length : Int)) = true := by simp; omega
    have kx2 : m ≤ p.nodes.length := by omega
    have hrw := hrow.out m (by omega)
    have hs1 := fun q => hsur.out m (by omega) q
    generalize hRR : ((atGo p S p.nodes.length).take m).map bvc = RR at hlen hrw ⊢
    replace hRR := Lib.hid hRR
    rcases Nat.lt_or_ge m p.nodes.length with hmn | hmn
    ·rw [qadb _ _ hmn, hnc.out] at h2
     have hn1 := fun q => hnod.out m hmn (qahn p S m m) q
     generalize qahn p S m m = M at h2 hrw hs1 hn1
     generalize hxx : p.nodes[m] = x at h2 hn1
     have ks' := qbk1 M
     replace hs1 := Lib.hid hs1
     replace hn1 := Lib.hid hn1
     replace hrw := Lib.hid hrw
     cases ks : (M == 18446744073709551615#64)
     ·rw [ks] at ks'
      rw [if_neg (show ¬ M = allB from fun h => by rw [h] at ks; exact absurd ks (by decide))] at h2
      cases kb : qacx p x M
      ·rw [kb, if_neg (by decide)] at h2
       replace h2 : F = rowF (fun i n => qat8 p i n) 6000 (m + 1) (p.nodes.drop (m + 1)) := h2
       replace h2 := Lib.hid h2
       replace kb := Lib.hid kb
       have hn2 := fun q => hn1.out q
       rw [kb.out] at hn2
       replace hn2 := Lib.hid hn2
       repeat' (first | (with_reducible first | refine zA ?_ | refine qaae ?_) | ((with_reducible refine qaac ?_); (try rw [hP]); simp -implicitDefEqProofs [*]) | ((with_reducible refine qaaf ?_); (try simp -implicitDefEqProofs [*])) | ((with_reducible refine qaaa rfl (fun h => ?_) (fun h => ?_)) <;> have h' := h <;> (try simp at h') <;> (try subst h')) | ((with_reducible refine qabo ?_ ?_); (first | omega | (unfold maxLen; omega)); simp -implicitDefEqProofs [*]) | ((first | refine qaaw (hs1.out _) ?_ | refine qaaw (hn2.out _) ?_); simp -implicitDefEqProofs [*]) | (with_reducible first | refine za ?_ ?_ | refine zb ?_ ?_ ?_ ?_ | refine zc ?_ ?_ ?_ ?_) | (with_reducible first | exact qaab | exact qaad) | ((with_reducible first | refine zga ?_ | refine zgb ?_); rfl) | ((with_reducible first | refine zgd ?_ | refine zge ?_); (first | omega | (simp; done))) | (exact Co.refl _) | (exact CoL.refl _) | ((refine qaai hJ (m + 1) ?_ ?_ ?_; (with_reducible refine qaah [(5, ?_)] hm ?_ ?_ ?_ ?_) <;> (try simp only [zT, puth, Nat.reduceEqDiff, reduceIte, Nat.reduceAdd]))) | fail)
       all_goals first | (exact ⟨by omega, h2.out⟩) | (exact hrw.out.symm) | trace_state
      ·rw [kb, if_pos rfl, if_pos (by decide)] at h2
       subst h2
       replace kb := Lib.hid kb
       have hn2 := fun q => hn1.out q
       rw [kb.out] at hn2
       replace hn2 := Lib.hid hn2
       repeat' (first | (with_reducible first | refine zA ?_ | refine qaae ?_) | ((with_reducible refine qaac ?_); (try rw [hP]); simp -implicitDefEqProofs [*]) | ((with_reducible refine qaaf ?_); (try simp -implicitDefEqProofs [*])) | ((with_reducible refine qaam ?_); (try simp only [qaap, qaag, qaaj])) | ((with_reducible refine qaaa rfl (fun h => ?_) (fun h => ?_)) <;> have h' := h <;> (try simp at h') <;> (try subst h')) | ((first | refine qaaw (hs1.out _) ?_ | refine qaaw (hn2.out _) ?_ | refine qaaw (rF_s _ _ _) ?_); simp -implicitDefEqProofs [*]) | (refine qafl hm (by decide) rfl (Co.nilsl 1) (qads _ _) rfl rfl (by rw [hP]; exact qabe) (by rw [hP]; exact qaa4) rfl (CoL.refl _) rfl (fun σ => rfl)) | fail)
       all_goals trace_state
     ·rw [ks] at ks'
      rw [if_pos (show M = allB from beq_iff_eq.1 ks), if_neg (by decide)] at h2
      replace h2 := Lib.hid h2
      repeat' (first | (with_reducible first | refine zA ?_ | refine qaae ?_) | ((with_reducible refine qaac ?_); (try rw [hP]); simp -implicitDefEqProofs [*]) | ((with_reducible refine qaaf ?_); (try simp -implicitDefEqProofs [*])) | ((with_reducible refine qaaa rfl (fun h => ?_) (fun h => ?_)) <;> have h' := h <;> (try simp at h') <;> (try subst h')) | ((with_reducible refine qabo ?_ ?_); (first | omega | (unfold maxLen; omega)); simp -implicitDefEqProofs [*]) | (refine qaaw (hs1.out _) ?_; simp -implicitDefEqProofs [*]) | (with_reducible first | refine za ?_ ?_ | refine zb ?_ ?_ ?_ ?_ | refine zc ?_ ?_ ?_ ?_) | (with_reducible first | exact qaab | exact qaad) | ((with_reducible first | refine zga ?_ | refine zgb ?_); rfl) | ((with_reducible first | refine zgd ?_ | refine zge ?_); (first | omega | (simp; done))) | (exact Co.refl _) | (exact CoL.refl _) | ((refine qaai hJ (m + 1) ?_ ?_ ?_; (with_reducible refine qaah [(5, ?_)] hm ?_ ?_ ?_ ?_) <;> (try simp only [zT, puth, Nat.reduceEqDiff, reduceIte, Nat.reduceAdd]))) | fail)
      all_goals first | (exact ⟨by omega, h2.out⟩) | (exact hrw.out.symm) | trace_state
    ·obtain rfl : m = p.nodes.length := by omega
     have hb3 : p.nodes.length + 1 ≤ maxLen := hb2
     generalize qahn p S p.nodes.length p.nodes.length = M at hrw hs1
     rw [List.drop_length] at h2
     have h3 : F = (0, 0) := h2
     have h4 : F = rowF (fun i n => qat8 p i n) 6000 (p.nodes.length + 1) (p.nodes.drop (p.nodes.length + 1)) := by rw [List.drop_eq_nil_of_le (by omega)]; exact h3
     replace hs1 := Lib.hid hs1
     replace hrw := Lib.hid hrw
     replace h4 := Lib.hid h4
     clear h2 h3
     repeat' (first | (with_reducible first | refine zA ?_ | refine qaae ?_) | ((with_reducible refine qaac ?_); (try rw [hP]); simp -implicitDefEqProofs [*]) | ((with_reducible refine qaaf ?_); (try simp -implicitDefEqProofs [*])) | ((with_reducible refine qaaa rfl (fun h => ?_) (fun h => ?_)) <;> have h' := h <;> (try simp at h') <;> (try subst h')) | ((with_reducible refine qabo ?_ ?_); (first | omega | (unfold maxLen; omega)); simp -implicitDefEqProofs [*]) | (refine qaaw (hs1.out _) ?_; simp -implicitDefEqProofs [*]) | (with_reducible first | refine za ?_ ?_ | refine zb ?_ ?_ ?_ ?_ | refine zc ?_ ?_ ?_ ?_) | (with_reducible first | exact qaab | exact qaad) | ((with_reducible first | refine zga ?_ | refine zgb ?_); rfl) | ((with_reducible first | refine zgd ?_ | refine zge ?_); (first | omega | (simp; done))) | (exact Co.refl _) | (exact CoL.refl _) | ((refine qaai hJ (p.nodes.length + 1) ?_ ?_ ?_; (with_reducible refine qaah [(5, ?_)] hm ?_ ?_ ?_ ?_) <;> (try simp only [zT, puth, Nat.reduceEqDiff, reduceIte, Nat.reduceAdd]))) | fail)
     all_goals first | (exact ⟨by omega, h4.out⟩) | (exact hrw.out.symm) | trace_state
   ·obtain rfl : m = p.nodes.length + 1 := by omega
    rw [List.drop_eq_nil_of_le (by omega)] at h2
    have h3 : F = (0, 0) := h2
    subst h3
    clear h2 hJ
    rw [hall.out] at hlen ⊢
    have kx : decide (p.nodes.length + 1 ≤ p.nodes.length) = false := by simp
    have kx2 : decide ((p.nodes.length : Int) + 1 ≤ (p.nodes.length : Int)) = false := by simp; omega
    repeat' (first | ((with_reducible refine qacr (c := .seq (.reg false qagx [2, 3]) .ret) ?_)) | (with_reducible refine zA ?_) | ((with_reducible refine qaac ?_); (try rw [hP]); simp -implicitDefEqProofs [*]) | ((with_reducible refine qaak ?_); (try simp -implicitDefEqProofs [*])) | ((with_reducible refine qaaa rfl (fun h => ?_) (fun h => ?_)) <;> have h' := h <;> (try simp at h') <;> (try subst h')) | fail)
    constructor
    refine qaeg [5] ?_ ?_
    ·simp only [FrzOk, geth, Nat.reduceEqDiff, reduceIte, qad9, and_true]
    have htk : ((atGo p S p.nodes.length).map bvc).take (p.nodes.length + 1) = (atGo p S p.nodes.length).map bvc := List.take_of_length_le (by rw [hlen]; exact Nat.le_refl _)
    simp -implicitDefEqProofs [htk, hlen, Nat.le_refl]
    repeat' (first | (with_reducible refine zA ?_) | ((with_reducible refine qaac ?_); (try rw [hP]); simp -implicitDefEqProofs [*]) | ((with_reducible refine qaam ?_); (try simp only [qaap, qaag, qaaj])) | (refine qafl hm (by decide) rfl (Co.refl _) (qads _ _) rfl rfl (by rw [hP]; exact qabe) (by rw [hP]; exact qaa4) rfl (CoL.refl _) ?_ (fun σ => rfl)) | fail)
    all_goals rfl
  simp only [ne_eq, ite_not] at loopL
  replace loopL := Lib.hid loopL
  cases hth : y.there
  ·have hS : S = allB := by rw [hst.out, if_neg (by rw [hth]; decide)]
   replace hS := Lib.hid hS
   repeat' (first | (with_reducible refine zA ?_) | ((with_reducible refine qaac ?_); (try rw [hP]); simp -implicitDefEqProofs [setc, *]) | ((with_reducible refine qaaf ?_); (try simp -implicitDefEqProofs [setc, *])) | ((with_reducible refine qaaa rfl (fun h => ?_) (fun h => ?_)) <;> have h' := h <;> (try simp at h') <;> (try subst h')) | ((with_reducible refine qabo ?_ ?_); (first | omega | (unfold maxLen; omega)); simp -implicitDefEqProofs [setc, *]) | (refine qaaw (hc.out _) ?_; simp -implicitDefEqProofs [setc, *]) | fail)
   refine qaco (qadw 7 22 1 rfl) ?_
   simp only [zT, puth, Nat.reduceEqDiff, reduceIte, Nat.reduceAdd]
   refine qaco (qaah [(5, 31)] hm ?_ ?_ rfl (by simp)) loopL.out
   ·repeat' (first | (with_reducible refine za ?_ ?_) | (with_reducible exact qaab) | (exact Co.refl _) | fail)
    all_goals first | (rw [hS.out]; exact Co.refl (.int .u64 18446744073709551615)) | (rw [hS.out]; exact Co.refl _) | trace_state
   ·repeat' (first | (with_reducible first | refine zb ?_ ?_ ?_ ?_ | refine zc ?_ ?_ ?_ ?_) | (with_reducible exact qaad) | ((with_reducible refine zga ?_); rfl) | ((with_reducible refine zgc ?_); (first | (with_reducible rfl) | rfl | (simp; done))) | (exact CoL.refl _) | fail)
    all_goals trace_state
  ·have hS : S = y.must := by rw [hst.out, if_pos hth]
   replace hS := Lib.hid hS
   repeat' (first | (with_reducible refine zA ?_) | ((with_reducible refine qaac ?_); (try rw [hP]); simp -implicitDefEqProofs [setc, *]) | ((with_reducible refine qaaf ?_); (try simp -implicitDefEqProofs [setc, *])) | ((with_reducible refine qaaa rfl (fun h => ?_) (fun h => ?_)) <;> have h' := h <;> (try simp at h') <;> (try subst h')) | ((with_reducible refine qabo ?_ ?_); (first | omega | (unfold maxLen; omega)); simp -implicitDefEqProofs [setc, *]) | (refine qaaw (hc.out _) ?_; simp -implicitDefEqProofs [setc, *]) | fail)
   refine qaco (qadw 7 22 1 rfl) ?_
   simp only [zT, puth, Nat.reduceEqDiff, reduceIte, Nat.reduceAdd]
   refine qaco (qaah [(5, 39)] hm ?_ ?_ rfl (by simp)) loopL.out
   ·repeat' (first | (with_reducible refine za ?_ ?_) | (with_reducible exact qaab) | (exact Co.refl _) | fail)
    all_goals first | (rw [hS.out]; exact Co.refl (.int .u64 18446744073709551615)) | (rw [hS.out]; exact Co.refl _) | trace_state
   ·repeat' (first | (with_reducible first | refine zb ?_ ?_ ?_ ?_ | refine zc ?_ ?_ ?_ ?_) | (with_reducible exact qaad) | ((with_reducible refine zga ?_); rfl) | ((with_reducible refine zgc ?_); (first | (with_reducible rfl) | rfl | (simp; done))) | (exact CoL.refl _) | fail)
    all_goals trace_state
 ·have hF : qagc p = qafm p := by unfold qagc; rw [if_pos h0]
  have hL : qakg p = [] := by unfold qakg; rw [hF, if_pos h0]
  rw [hF, hL]
  have kc : ((qafm p).1 != 0) = true := by simpa using h0
  generalize qafm p = C at hc kc
  generalize qane p = WL at hc
  replace hc := Lib.hid hc
  clear hF hL h0
  repeat' (first | (with_reducible first | refine zA ?_ | refine zK ?_) | ((with_reducible first | refine qaac ?_ | refine qaaz (by rw [hP]; exact qacz) ?_); (try rw [hP]); simp -implicitDefEqProofs [setc, *]) | ((with_reducible refine qaam ?_); (try simp only [qaap, qaag, qaaj])) | ((with_reducible refine qaaa rfl (fun h => ?_) (fun h => ?_)) <;> have h' := h <;> (try simp at h') <;> (try subst h')) | (refine qaaw (hc.out _) ?_; simp -implicitDefEqProofs [setc, *]) | (refine qafl hm (by decide) rfl (Co.nilsl 1) (qads _ _) rfl rfl (by rw [hP]; exact qabe) (by rw [hP]; exact qaa4) rfl (CoL.refl _) rfl (fun σ => rfl)) | fail)
end Go.Proofs.YteoijlmgiemffaaGreat
namespace Go.Proofs.YteoijlmgiemffaaGreat
set_option linter.all false
open Go.RowKit
attribute [local simp] qabi qabh qaax qaa7 qaay qaa6 qabf qabg qaar qabr SOp.run SX.ev putd puts argS upds SOp.touch SSt.keep SSt.skip gets geth puth delh idOf SV.cells? setL qadh qadi sbin eq0 eq1 eqL qadf qab9 qaca qaap qabk qaag qabl qabs qaaj qaaq FrzOk qaba qaa1 qaa8 qaa9 qaat qaa0 qabm qaa2 qaav qabb qaau frzS frzH frz frz1 frz0 SlotsM ObjsM ObjM rn ren ren1 ren0 qabu qab7 qacf qabt qabn qacg qace CoL qabc qab3 dels adds idsH qabz
attribute [local simp] qadt refc qaes qaei qab8 opc actc tabc qaea qacm nums
def qblc (h : HeadD) : Bool := decide (500 < (h.w.length : Int))
def qaku (s : StateD) : Bool := decide (500 < (s.cases_.length : Int))
def gOp (o : OpD) : Bool := decide (500 < (o.e.length : Int))
def gAct (a : ActD) : Bool := decide (500 < (a.w.length : Int)) || decide (50 < (a.ops.length : Int)) || a.ops.any gOp
def gTab (t : TabD) : Bool := decide (500 < (t.keys.length : Int)) || decide (500 < (t.acts.length : Int)) || decide (500 < (t.args.length : Int))
def qanh (n : NodeD) : Bool := decide (500 < (n.e.length : Int))
def gTop (p : PlanD) : Bool := decide (50 < (p.heads.length : Int)) || decide (500 < (p.meta_.length : Int)) || decide (50 < (p.states.length : Int)) || decide (50 < (p.acts.length : Int)) || decide (50 < (p.tabs.length : Int)) || decide (50 < (p.nodes.length : Int)) || decide (500 < (p.out.length : Int))
def qaj2 (p : PlanD) : Bool := gTop p || (p.heads.any qblc || (p.states.any qaku || (p.acts.any gAct || (p.tabs.any gTab || p.nodes.any qanh))))
theorem qbil {p : PlanD} (h : qaj2 p = false) : SmallP p := by
 unfold qaj2 at h
 simp only [Bool.or_eq_false_iff, List.any_eq_false] at h
 obtain ⟨h0, h1, h2, h3, h4, h5⟩ := h
 unfold gTop at h0
 simp only [Bool.or_eq_false_iff, decide_eq_false_iff_not] at h0
 obtain ⟨⟨⟨⟨⟨⟨a1, a2⟩, a3⟩, a4⟩, a5⟩, a6⟩, a7⟩ := h0
 refine ⟨by omega, by omega, by omega, by omega, by omega, by omega, by omega, fun x hx => ?_, fun x hx => ?_, fun x hx => ?_, fun x hx => ?_, fun x hx o ho => ?_, fun x hx => ?_, fun x hx => ?_⟩
 ·have := h1 x hx; unfold qblc at this; rw [decide_eq_true_eq] at this; omega
 ·have := h2 x hx; unfold qaku at this; rw [decide_eq_true_eq] at this; omega
 ·have := h3 x hx; unfold gAct at this; simp only [Bool.or_eq_true, decide_eq_true_eq] at this; omega
 ·have := h3 x hx; unfold gAct at this; simp only [Bool.or_eq_true, decide_eq_true_eq] at this; omega
 ·have := h3 x hx; unfold gAct at this; simp only [Bool.or_eq_true, decide_eq_true_eq, List.any_eq_true, not_or] at this
  have q : ¬ gOp o = true := fun hg => this.2 ⟨o, ho, hg⟩
  unfold gOp at q; rw [decide_eq_true_eq] at q; omega
 ·have := h4 x hx; unfold gTab at this; simp only [Bool.or_eq_true, decide_eq_true_eq] at this; omega
 ·have := h5 x hx; unfold qanh at this; rw [decide_eq_true_eq] at this; omega
set_option maxHeartbeats 8000000 in
theorem gplan_s (p : PlanD) (q : Nat) : SCalls Tryz.prog 9 [.agg (qacm p)] [] q (.bool (qaj2 p)) [] := by
 refine qabj ?_ (fun _ => rfl) (fun _ => rfl) rfl q
 refine qaas (N := 177) Tryz.func9 rfl rfl (by kernel_rfl) qaoz (by simp) (by repeat' (first | exact trivial | refine And.intro ?_ ?_ | rfl | decide | exact PureR.ren _)) (by repeat' (first | exact trivial | refine And.intro ?_ ?_ | rfl | decide | exact PureR.ren _)) ?_
 rintro X hP hN hm
 unfold c_gplan
 cases hT : gTop p
 ·have hF : qaj2 p = ((p.heads.drop 0).any qblc || (p.states.any qaku || (p.acts.any gAct || (p.tabs.any gTab || p.nodes.any qanh)))) := by unfold qaj2; rw [hT]; rfl
  generalize qaj2 p = F at hF
  have a := hT
  unfold gTop at a
  simp only [Bool.or_eq_false_iff] at a
  obtain ⟨⟨⟨⟨⟨⟨a1, a2⟩, a3⟩, a4⟩, a5⟩, a6⟩, a7⟩ := a
  have b1 := of_decide_eq_false a1
  have b3 := of_decide_eq_false a3
  have b4 := of_decide_eq_false a4
  have b5 := of_decide_eq_false a5
  have b6 := of_decide_eq_false a6
  clear hT
  replace b1 := Lib.hid b1
  replace b3 := Lib.hid b3
  replace b4 := Lib.hid b4
  replace b5 := Lib.hid b5
  replace b6 := Lib.hid b6
  replace hF := Lib.hid hF
  repeat' (first | (with_reducible refine zA ?_) | ((with_reducible refine qaac ?_); (try rw [hP]); simp -implicitDefEqProofs [*]) | ((with_reducible refine qaaf ?_); (try simp -implicitDefEqProofs [*])) | ((with_reducible refine qaaa rfl (fun h => ?_) (fun h => ?_)) <;> have h' := h <;> (try simp at h') <;> (try subst h')) | fail)
  clear a1 a2 a3 a4 a5 a6 a7
  refine qaal (qaa5 (fun s (i : Nat) => s.turn [(3, .int .i64 i)] []) (fun i => i ≤ p.heads.length ∧ F = ((p.heads.drop i).any qblc || (p.states.any qaku || (p.acts.any gAct || (p.tabs.any gTab || p.nodes.any qanh))))) (fun i => p.heads.length - i) 0 ?_ ⟨by simp, hF.out⟩ ?_)
  ·repeat' (first | ((with_reducible refine qaah [] hm ?_ ?_ ?_ ?_) <;> (try simp only [zT, puth, Nat.reduceEqDiff, reduceIte, Nat.reduceAdd])) | (with_reducible first | refine za ?_ ?_ | refine zb ?_ ?_ ?_ ?_) | (with_reducible first | exact qaab | exact qaad) | ((with_reducible first | refine zga ?_ | refine zgb ?_); rfl) | ((with_reducible refine zgd ?_); (first | omega | (simp; done))) | (exact Co.refl _) | (exact CoL.refl _) | fail)
  rintro J hJ i ⟨h1, h2⟩
  have hbb := b1.out
  clear hF
  unfold qamz
  simp only [zT, puth, Nat.reduceEqDiff, reduceIte, Nat.reduceAdd] at h1 h2 ⊢
  rcases Nat.lt_or_ge i p.heads.length with hi | hi
  ·rw [qac8 _ hi] at h2
   generalize hxx : p.heads[i] = x at h2
   have wi : IntKind.i64.wrap ((i : Int) + 1) = (i : Int) + 1 := qaao (by omega) (by omega)
   cases hv : qblc x <;> rw [hv] at h2 <;> replace h2 := Lib.hid h2 <;> unfold qblc at hv
   ·repeat' (first | (with_reducible first | refine zA ?_ | refine qaae ?_) | ((with_reducible refine qaac ?_); (try rw [hP]); simp -implicitDefEqProofs [qab2, *]) | ((with_reducible refine qaaf ?_); (try simp -implicitDefEqProofs [qab2, *])) | ((with_reducible refine qaaa rfl (fun h => ?_) (fun h => ?_)) <;> have h' := h <;> (try simp at h') <;> (try subst h')) | (with_reducible first | refine za ?_ ?_ | refine zb ?_ ?_ ?_ ?_) | (with_reducible first | exact qaab | exact qaad) | ((with_reducible first | refine zga ?_ | refine zgb ?_); rfl) | ((with_reducible first | refine zgd ?_ | refine zge ?_); (first | omega | (simp; done))) | (exact Co.refl _) | (exact CoL.refl _) | ((refine qaai hJ (i + 1) ?_ ?_ ?_; (with_reducible refine qaah [] hm ?_ ?_ ?_ ?_) <;> (try simp only [zT, puth, Nat.reduceEqDiff, reduceIte, Nat.reduceAdd]))) | fail)
    exact ⟨by omega, by rw [h2.out, Bool.false_or]⟩
   ·repeat' (first | (with_reducible first | refine zA ?_ | refine qaae ?_) | ((with_reducible refine qaac ?_); (try rw [hP]); simp -implicitDefEqProofs [qab2, *]) | ((with_reducible refine qaaf ?_); (try simp -implicitDefEqProofs [qab2, *])) | ((with_reducible refine qaam ?_); (try simp only [qaap, qaag, qaaj])) | ((with_reducible refine qaaa rfl (fun h => ?_) (fun h => ?_)) <;> have h' := h <;> (try simp at h') <;> (try subst h')) | (with_reducible refine zN hm ?_) | fail)
    rw [h2.out]; rfl
  ·obtain rfl : i = p.heads.length := by omega
   have hF : F = ((p.states.drop 0).any qaku || (p.acts.any gAct || (p.tabs.any gTab || p.nodes.any qanh))) := by rw [h2, List.drop_length]; rfl
   clear h2 h1 hi hbb hJ
   replace hF := Lib.hid hF
   repeat' (first | (with_reducible refine zA ?_) | ((with_reducible refine qaac ?_); (try rw [hP]); simp -implicitDefEqProofs [*]) | ((with_reducible refine qaak ?_); (try simp -implicitDefEqProofs [*])) | ((with_reducible refine qaaa rfl (fun h => ?_) (fun h => ?_)) <;> have h' := h <;> (try simp at h') <;> (try subst h')) | fail)
   refine qaal (qaa5 (fun s (i : Nat) => s.turn [(4, .int .i64 i)] []) (fun i => i ≤ p.states.length ∧ F = ((p.states.drop i).any qaku || (p.acts.any gAct || (p.tabs.any gTab || p.nodes.any qanh)))) (fun i => p.states.length - i) 0 ?_ ⟨by simp, hF.out⟩ ?_)
   ·repeat' (first | ((with_reducible refine qaah [] hm ?_ ?_ ?_ ?_) <;> (try simp only [zT, puth, Nat.reduceEqDiff, reduceIte, Nat.reduceAdd])) | (with_reducible first | refine za ?_ ?_ | refine zb ?_ ?_ ?_ ?_) | (with_reducible first | exact qaab | exact qaad) | ((with_reducible first | refine zga ?_ | refine zgb ?_); rfl) | ((with_reducible refine zgd ?_); (first | omega | (simp; done))) | (exact Co.refl _) | (exact CoL.refl _) | fail)
   rintro J hJ i ⟨h1, h2⟩
   have hbb := b3.out
   clear hF
   unfold qamy
   simp only [zT, puth, Nat.reduceEqDiff, reduceIte, Nat.reduceAdd] at h1 h2 ⊢
   rcases Nat.lt_or_ge i p.states.length with hi | hi
   ·rw [qac8 _ hi] at h2
    generalize hxx : p.states[i] = x at h2
    have wi : IntKind.i64.wrap ((i : Int) + 1) = (i : Int) + 1 := qaao (by omega) (by omega)
    cases hv : qaku x <;> rw [hv] at h2 <;> replace h2 := Lib.hid h2 <;> unfold qaku at hv
    ·repeat' (first | (with_reducible first | refine zA ?_ | refine qaae ?_) | ((with_reducible refine qaac ?_); (try rw [hP]); simp -implicitDefEqProofs [qab2, *]) | ((with_reducible refine qaaf ?_); (try simp -implicitDefEqProofs [qab2, *])) | ((with_reducible refine qaaa rfl (fun h => ?_) (fun h => ?_)) <;> have h' := h <;> (try simp at h') <;> (try subst h')) | (with_reducible first | refine za ?_ ?_ | refine zb ?_ ?_ ?_ ?_) | (with_reducible first | exact qaab | exact qaad) | ((with_reducible first | refine zga ?_ | refine zgb ?_); rfl) | ((with_reducible first | refine zgd ?_ | refine zge ?_); (first | omega | (simp; done))) | (exact Co.refl _) | (exact CoL.refl _) | ((refine qaai hJ (i + 1) ?_ ?_ ?_; (with_reducible refine qaah [] hm ?_ ?_ ?_ ?_) <;> (try simp only [zT, puth, Nat.reduceEqDiff, reduceIte, Nat.reduceAdd]))) | fail)
     exact ⟨by omega, by rw [h2.out, Bool.false_or]⟩
    ·repeat' (first | (with_reducible first | refine zA ?_ | refine qaae ?_) | ((with_reducible refine qaac ?_); (try rw [hP]); simp -implicitDefEqProofs [qab2, *]) | ((with_reducible refine qaaf ?_); (try simp -implicitDefEqProofs [qab2, *])) | ((with_reducible refine qaam ?_); (try simp only [qaap, qaag, qaaj])) | ((with_reducible refine qaaa rfl (fun h => ?_) (fun h => ?_)) <;> have h' := h <;> (try simp at h') <;> (try subst h')) | (with_reducible refine zN hm ?_) | fail)
     rw [h2.out]; rfl
   ·obtain rfl : i = p.states.length := by omega
    have hF : F = ((p.acts.drop 0).any gAct || (p.tabs.any gTab || p.nodes.any qanh)) := by rw [h2, List.drop_length]; rfl
    clear h2 h1 hi hbb hJ
    replace hF := Lib.hid hF
    repeat' (first | (with_reducible refine zA ?_) | ((with_reducible refine qaac ?_); (try rw [hP]); simp -implicitDefEqProofs [*]) | ((with_reducible refine qaak ?_); (try simp -implicitDefEqProofs [*])) | ((with_reducible refine qaaa rfl (fun h => ?_) (fun h => ?_)) <;> have h' := h <;> (try simp at h') <;> (try subst h')) | fail)
    refine qaal (qaa5 (fun s (i : Nat) => s.turn [(5, .int .i64 i)] []) (fun i => i ≤ p.acts.length ∧ F = ((p.acts.drop i).any gAct || (p.tabs.any gTab || p.nodes.any qanh))) (fun i => p.acts.length - i) 0 ?_ ⟨by simp, hF.out⟩ ?_)
    ·repeat' (first | ((with_reducible refine qaah [] hm ?_ ?_ ?_ ?_) <;> (try simp only [zT, puth, Nat.reduceEqDiff, reduceIte, Nat.reduceAdd])) | (with_reducible first | refine za ?_ ?_ | refine zb ?_ ?_ ?_ ?_) | (with_reducible first | exact qaab | exact qaad) | ((with_reducible first | refine zga ?_ | refine zgb ?_); rfl) | ((with_reducible refine zgd ?_); (first | omega | (simp; done))) | (exact Co.refl _) | (exact CoL.refl _) | fail)
    rintro J hJ i ⟨h1, h2⟩
    have hbb := b4.out
    have hJo := hJ
    clear hF
    unfold qamw
    simp only [zT, puth, Nat.reduceEqDiff, reduceIte, Nat.reduceAdd] at h1 h2 ⊢
    rcases Nat.lt_or_ge i p.acts.length with hi | hi
    ·rw [qac8 _ hi] at h2
     generalize hxx : p.acts[i] = x at h2
     have wi : IntKind.i64.wrap ((i : Int) + 1) = (i : Int) + 1 := qaao (by omega) (by omega)
     unfold gAct at h2
     cases v1 : decide (500 < (x.w.length : Int)) <;> rw [v1] at h2
     rotate_left
     ·rw [Bool.true_or, Bool.true_or, Bool.true_or] at h2
      replace h2 := Lib.hid h2
      repeat' (first | (with_reducible first | refine zA ?_ | refine qaae ?_) | ((with_reducible refine qaac ?_); (try rw [hP]); simp -implicitDefEqProofs [*]) | ((with_reducible refine qaaf ?_); (try simp -implicitDefEqProofs [*])) | ((with_reducible refine qaam ?_); (try simp only [qaap, qaag, qaaj])) | ((with_reducible refine qaaa rfl (fun h => ?_) (fun h => ?_)) <;> have h' := h <;> (try simp at h') <;> (try subst h')) | (with_reducible refine zN hm ?_) | fail)
      rw [h2.out]; rfl
     cases v2 : decide (50 < (x.ops.length : Int)) <;> rw [v2] at h2
     rotate_left
     ·rw [Bool.or_true, Bool.true_or, Bool.true_or] at h2
      replace h2 := Lib.hid h2
      repeat' (first | (with_reducible first | refine zA ?_ | refine qaae ?_) | ((with_reducible refine qaac ?_); (try rw [hP]); simp -implicitDefEqProofs [*]) | ((with_reducible refine qaaf ?_); (try simp -implicitDefEqProofs [*])) | ((with_reducible refine qaam ?_); (try simp only [qaap, qaag, qaaj])) | ((with_reducible refine qaaa rfl (fun h => ?_) (fun h => ?_)) <;> have h' := h <;> (try simp at h') <;> (try subst h')) | (with_reducible refine zN hm ?_) | fail)
      rw [h2.out]; rfl
     have h3 : F = ((x.ops.drop 0).any gOp || ((p.acts.drop (i + 1)).any gAct || (p.tabs.any gTab || p.nodes.any qanh))) := by rw [h2, Bool.or_assoc, Bool.or_assoc]; rfl
     have b2 := of_decide_eq_false v2
     replace h2 := Lib.hid h2
     replace h3 := Lib.hid h3
     replace b2 := Lib.hid b2
     repeat' (first | (with_reducible first | refine zA ?_ | refine qaae ?_) | ((with_reducible refine qaac ?_); (try rw [hP]); simp -implicitDefEqProofs [*]) | ((with_reducible refine qaaf ?_); (try simp -implicitDefEqProofs [*])) | ((with_reducible refine qaaa rfl (fun h => ?_) (fun h => ?_)) <;> have h' := h <;> (try simp at h') <;> (try subst h')) | fail)
     clear v1 v2
     refine qaal (qaa5 (fun s (k : Nat) => s.turn [(6, .int .i64 k)] []) (fun k => k ≤ x.ops.length ∧ F = ((x.ops.drop k).any gOp || ((p.acts.drop (i + 1)).any gAct || (p.tabs.any gTab || p.nodes.any qanh)))) (fun k => x.ops.length - k) 0 ?_ ⟨by simp, h3.out⟩ ?_)
     ·repeat' (first | ((with_reducible refine qaah [] hm ?_ ?_ ?_ ?_) <;> (try simp only [zT, puth, Nat.reduceEqDiff, reduceIte, Nat.reduceAdd])) | (with_reducible first | refine za ?_ ?_ | refine zb ?_ ?_ ?_ ?_) | (with_reducible first | exact qaab | exact qaad) | ((with_reducible first | refine zga ?_ | refine zgb ?_); rfl) | ((with_reducible refine zgd ?_); (first | omega | (simp; done))) | (exact Co.refl _) | (exact CoL.refl _) | fail)
     rintro J hJ k ⟨h4, h5⟩
     have hb2 := b2.out
     unfold qamx
     simp only [zT, puth, Nat.reduceEqDiff, reduceIte, Nat.reduceAdd] at h4 h5 ⊢
     rcases Nat.lt_or_ge k x.ops.length with hk | hk
     ·rw [qac8 _ hk] at h5
      generalize hyy : x.ops[k] = y at h5
      have wk1 : IntKind.i64.wrap ((k : Int) + 1) = (k : Int) + 1 := qaao (by omega) (by omega)
      cases hv : gOp y <;> rw [hv] at h5 <;> replace h5 := Lib.hid h5 <;> unfold gOp at hv
      ·repeat' (first | (with_reducible first | refine zA ?_ | refine qaae ?_) | ((with_reducible refine qaac ?_); (try rw [hP]); simp -implicitDefEqProofs [qab2, *]) | ((with_reducible refine qaaf ?_); (try simp -implicitDefEqProofs [qab2, *])) | ((with_reducible refine qaaa rfl (fun h => ?_) (fun h => ?_)) <;> have h' := h <;> (try simp at h') <;> (try subst h')) | (with_reducible first | refine za ?_ ?_ | refine zb ?_ ?_ ?_ ?_) | (with_reducible first | exact qaab | exact qaad) | ((with_reducible first | refine zga ?_ | refine zgb ?_); rfl) | ((with_reducible first | refine zgd ?_ | refine zge ?_); (first | omega | (simp; done))) | (exact Co.refl _) | (exact CoL.refl _) | ((refine qaai hJ (k + 1) ?_ ?_ ?_; (with_reducible refine qaah [] hm ?_ ?_ ?_ ?_) <;> (try simp only [zT, puth, Nat.reduceEqDiff, reduceIte, Nat.reduceAdd]))) | fail)
       exact ⟨by omega, by rw [h5.out, Bool.false_or]⟩
      ·repeat' (first | (with_reducible first | refine zA ?_ | refine qaae ?_) | ((with_reducible refine qaac ?_); (try rw [hP]); simp -implicitDefEqProofs [qab2, *]) | ((with_reducible refine qaaf ?_); (try simp -implicitDefEqProofs [qab2, *])) | ((with_reducible refine qaam ?_); (try simp only [qaap, qaag, qaaj])) | ((with_reducible refine qaaa rfl (fun h => ?_) (fun h => ?_)) <;> have h' := h <;> (try simp at h') <;> (try subst h')) | (with_reducible refine zN hm ?_) | fail)
       rw [h5.out]; rfl
     ·obtain rfl : k = x.ops.length := by omega
      rw [List.drop_length] at h5
      replace h5 := Lib.hid h5
      repeat' (first | (with_reducible refine zA ?_) | ((with_reducible refine qaac ?_); (try rw [hP]); simp -implicitDefEqProofs [*]) | ((with_reducible refine qaak ?_); (try simp -implicitDefEqProofs [*])) | ((with_reducible refine qaaa rfl (fun h => ?_) (fun h => ?_)) <;> have h' := h <;> (try simp at h') <;> (try subst h')) | (with_reducible first | refine za ?_ ?_ | refine zb ?_ ?_ ?_ ?_) | (with_reducible first | exact qaab | exact qaad) | ((with_reducible first | refine zga ?_ | refine zgb ?_); rfl) | ((with_reducible first | refine zgd ?_ | refine zge ?_); (first | omega | (simp; done))) | (exact Co.refl _) | (exact CoL.refl _) | ((refine qaai hJo (i + 1) ?_ ?_ ?_; (with_reducible refine qaah [] hm ?_ ?_ ?_ ?_) <;> (try simp only [zT, puth, Nat.reduceEqDiff, reduceIte, Nat.reduceAdd]))) | fail)
      exact ⟨by omega, by rw [h5.out]; rfl⟩
    ·obtain rfl : i = p.acts.length := by omega
     have hF : F = ((p.tabs.drop 0).any gTab || p.nodes.any qanh) := by rw [h2, List.drop_length]; rfl
     clear h2 h1 hi hbb hJ hJo
     replace hF := Lib.hid hF
     repeat' (first | (with_reducible refine zA ?_) | ((with_reducible refine qaac ?_); (try rw [hP]); simp -implicitDefEqProofs [*]) | ((with_reducible refine qaak ?_); (try simp -implicitDefEqProofs [*])) | ((with_reducible refine qaaa rfl (fun h => ?_) (fun h => ?_)) <;> have h' := h <;> (try simp at h') <;> (try subst h')) | fail)
     refine qaal (qaa5 (fun s (i : Nat) => s.turn [(7, .int .i64 i)] []) (fun i => i ≤ p.tabs.length ∧ F = ((p.tabs.drop i).any gTab || p.nodes.any qanh)) (fun i => p.tabs.length - i) 0 ?_ ⟨by simp, hF.out⟩ ?_)
     ·repeat' (first | ((with_reducible refine qaah [] hm ?_ ?_ ?_ ?_) <;> (try simp only [zT, puth, Nat.reduceEqDiff, reduceIte, Nat.reduceAdd])) | (with_reducible first | refine za ?_ ?_ | refine zb ?_ ?_ ?_ ?_) | (with_reducible first | exact qaab | exact qaad) | ((with_reducible first | refine zga ?_ | refine zgb ?_); rfl) | ((with_reducible refine zgd ?_); (first | omega | (simp; done))) | (exact Co.refl _) | (exact CoL.refl _) | fail)
     rintro J hJ i ⟨h1, h2⟩
     have hbb := b5.out
     clear hF
     unfold qamv
     simp only [zT, puth, Nat.reduceEqDiff, reduceIte, Nat.reduceAdd] at h1 h2 ⊢
     rcases Nat.lt_or_ge i p.tabs.length with hi | hi
     ·rw [qac8 _ hi] at h2
      generalize hxx : p.tabs[i] = x at h2
      have wi : IntKind.i64.wrap ((i : Int) + 1) = (i : Int) + 1 := qaao (by omega) (by omega)
      cases hv : gTab x <;> rw [hv] at h2 <;> replace h2 := Lib.hid h2
      ·unfold gTab at hv
       simp only [Bool.or_eq_false_iff] at hv
       obtain ⟨⟨v1, v2⟩, v3⟩ := hv
       repeat' (first | (with_reducible first | refine zA ?_ | refine qaae ?_) | ((with_reducible refine qaac ?_); (try rw [hP]); simp -implicitDefEqProofs [*]) | ((with_reducible refine qaaf ?_); (try simp -implicitDefEqProofs [*])) | ((with_reducible refine qaaa rfl (fun h => ?_) (fun h => ?_)) <;> have h' := h <;> (try simp at h') <;> (try subst h')) | (with_reducible first | refine za ?_ ?_ | refine zb ?_ ?_ ?_ ?_) | (with_reducible first | exact qaab | exact qaad) | ((with_reducible first | refine zga ?_ | refine zgb ?_); rfl) | ((with_reducible first | refine zgd ?_ | refine zge ?_); (first | omega | (simp; done))) | (exact Co.refl _) | (exact CoL.refl _) | ((refine qaai hJ (i + 1) ?_ ?_ ?_; (with_reducible refine qaah [] hm ?_ ?_ ?_ ?_) <;> (try simp only [zT, puth, Nat.reduceEqDiff, reduceIte, Nat.reduceAdd]))) | fail)
       exact ⟨by omega, by rw [h2.out, Bool.false_or]⟩
      ·replace hv := Lib.hid hv
       repeat' (first | (with_reducible first | refine zA ?_ | refine qaae ?_) | ((with_reducible refine qaac ?_); (try rw [hP]); simp -implicitDefEqProofs [*]) | ((with_reducible refine qaaf ?_); (try simp -implicitDefEqProofs [*])) | ((with_reducible refine qaam ?_); (try simp only [qaap, qaag, qaaj])) | ((with_reducible refine qaaa rfl (fun h => ?_) (fun h => ?_)) <;> have h' := h <;> (try simp at h') <;> (try subst h')) | ((with_reducible refine qaan (fun h => ?_) (fun h => ?_)) <;> have h' := h <;> (try simp at h') <;> (try subst h') <;> simp -implicitDefEqProofs [*]) | (with_reducible refine zN hm ?_) | (with_reducible first | refine za ?_ ?_ | refine zb ?_ ?_ ?_ ?_) | (with_reducible first | exact qaab | exact qaad) | ((with_reducible first | refine zga ?_ | refine zgb ?_); rfl) | ((with_reducible first | refine zgd ?_ | refine zge ?_); (first | omega | (simp; done))) | (exact Co.refl _) | (exact CoL.refl _) | ((refine qaai hJ (i + 1) ?_ ?_ ?_; (with_reducible refine qaah [] hm ?_ ?_ ?_ ?_) <;> (try simp only [zT, puth, Nat.reduceEqDiff, reduceIte, Nat.reduceAdd]))) | fail)
       all_goals (first | (rw [h2.out]; rfl) | (exfalso; have q := hv.out; unfold gTab at q; simp only [Bool.or_eq_true, decide_eq_true_eq] at q; omega))
     ·obtain rfl : i = p.tabs.length := by omega
      have hF : F = ((p.nodes.drop 0).any qanh || false) := by rw [h2, List.drop_length]; simp
      clear h2 h1 hi hbb hJ
      replace hF := Lib.hid hF
      repeat' (first | (with_reducible refine zA ?_) | ((with_reducible refine qaac ?_); (try rw [hP]); simp -implicitDefEqProofs [*]) | ((with_reducible refine qaak ?_); (try simp -implicitDefEqProofs [*])) | ((with_reducible refine qaaa rfl (fun h => ?_) (fun h => ?_)) <;> have h' := h <;> (try simp at h') <;> (try subst h')) | fail)
      refine qaal (qaa5 (fun s (i : Nat) => s.turn [(8, .int .i64 i)] []) (fun i => i ≤ p.nodes.length ∧ F = ((p.nodes.drop i).any qanh || false)) (fun i => p.nodes.length - i) 0 ?_ ⟨by simp, hF.out⟩ ?_)
      ·repeat' (first | ((with_reducible refine qaah [] hm ?_ ?_ ?_ ?_) <;> (try simp only [zT, puth, Nat.reduceEqDiff, reduceIte, Nat.reduceAdd])) | (with_reducible first | refine za ?_ ?_ | refine zb ?_ ?_ ?_ ?_) | (with_reducible first | exact qaab | exact qaad) | ((with_reducible first | refine zga ?_ | refine zgb ?_); rfl) | ((with_reducible refine zgd ?_); (first | omega | (simp; done))) | (exact Co.refl _) | (exact CoL.refl _) | fail)
      rintro J hJ i ⟨h1, h2⟩
      have hbb := b6.out
      clear hF
      unfold qamu
      simp only [zT, puth, Nat.reduceEqDiff, reduceIte, Nat.reduceAdd] at h1 h2 ⊢
      rcases Nat.lt_or_ge i p.nodes.length with hi | hi
      ·rw [qac8 _ hi] at h2
       generalize hxx : p.nodes[i] = x at h2
       have wi : IntKind.i64.wrap ((i : Int) + 1) = (i : Int) + 1 := qaao (by omega) (by omega)
       cases hv : qanh x <;> rw [hv] at h2 <;> replace h2 := Lib.hid h2 <;> unfold qanh at hv
       ·repeat' (first | (with_reducible first | refine zA ?_ | refine qaae ?_) | ((with_reducible refine qaac ?_); (try rw [hP]); simp -implicitDefEqProofs [qab2, *]) | ((with_reducible refine qaaf ?_); (try simp -implicitDefEqProofs [qab2, *])) | ((with_reducible refine qaaa rfl (fun h => ?_) (fun h => ?_)) <;> have h' := h <;> (try simp at h') <;> (try subst h')) | (with_reducible first | refine za ?_ ?_ | refine zb ?_ ?_ ?_ ?_) | (with_reducible first | exact qaab | exact qaad) | ((with_reducible first | refine zga ?_ | refine zgb ?_); rfl) | ((with_reducible first | refine zgd ?_ | refine zge ?_); (first | omega | (simp; done))) | (exact Co.refl _) | (exact CoL.refl _) | ((refine qaai hJ (i + 1) ?_ ?_ ?_; (with_reducible refine qaah [] hm ?_ ?_ ?_ ?_) <;> (try simp only [zT, puth, Nat.reduceEqDiff, reduceIte, Nat.reduceAdd]))) | fail)
        exact ⟨by omega, by rw [h2.out, Bool.false_or]⟩
       ·repeat' (first | (with_reducible first | refine zA ?_ | refine qaae ?_) | ((with_reducible refine qaac ?_); (try rw [hP]); simp -implicitDefEqProofs [qab2, *]) | ((with_reducible refine qaaf ?_); (try simp -implicitDefEqProofs [qab2, *])) | ((with_reducible refine qaam ?_); (try simp only [qaap, qaag, qaaj])) | ((with_reducible refine qaaa rfl (fun h => ?_) (fun h => ?_)) <;> have h' := h <;> (try simp at h') <;> (try subst h')) | (with_reducible refine zN hm ?_) | fail)
        rw [h2.out]; rfl
      ·obtain rfl : i = p.nodes.length := by omega
       rw [List.drop_length] at h2
       replace h2 := Lib.hid h2
       repeat' (first | (with_reducible refine zA ?_) | ((with_reducible refine qaac ?_); (try rw [hP]); simp -implicitDefEqProofs [*]) | ((with_reducible refine qaak ?_); (try simp -implicitDefEqProofs [*])) | ((with_reducible refine qaam ?_); (try simp only [qaap, qaag, qaaj])) | ((with_reducible refine qaaa rfl (fun h => ?_) (fun h => ?_)) <;> have h' := h <;> (try simp at h') <;> (try subst h')) | (with_reducible refine zN hm ?_) | fail)
       rw [h2.out]; rfl
 ·have hz : qaj2 p = true := by unfold qaj2; rw [hT]; rfl
  rw [hz]
  replace hT := Lib.hid hT
  repeat' (first | (with_reducible refine zA ?_) | ((with_reducible refine qaac ?_); (try rw [hP]); simp -implicitDefEqProofs [*]) | ((with_reducible refine qaaf ?_); (try simp -implicitDefEqProofs [*])) | ((with_reducible refine qaam ?_); (try simp only [qaap, qaag, qaaj])) | ((with_reducible refine qaaa rfl (fun h => ?_) (fun h => ?_)) <;> have h' := h <;> (try simp at h') <;> (try subst h')) | ((with_reducible refine qaan (fun h => ?_) (fun h => ?_)) <;> have h' := h <;> (try simp at h') <;> (try subst h') <;> simp -implicitDefEqProofs [*]) | (with_reducible refine zN hm ?_) | fail)
  all_goals (first | rfl | (exfalso; have q := hT.out; unfold gTop at q; simp only [Bool.or_eq_true, decide_eq_true_eq] at q; omega))
end Go.Proofs.YteoijlmgiemffaaGreat
namespace Go.Proofs.YteoijlmgiemffaaGreat
set_option linter.all false
open Go.RowKit
attribute [local simp] qabi qabh qaax qaa7 qaay qaa6 qabf qabg qaar qabr SOp.run SX.ev putd puts argS upds SOp.touch SSt.keep SSt.skip gets geth puth delh idOf SV.cells? setL qadh qadi sbin eq0 eq1 eqL qadf qab9 qaca qaap qabk qaag qabl qabs qaaj qaaq FrzOk qaba qaa1 qaa8 qaa9 qaat qaa0 qabm qaa2 qaav qabb qaau frzS frzH frz frz1 frz0 SlotsM ObjsM ObjM rn ren ren1 ren0 qabu qab7 qacf qabt qabn qacg qace CoL qabc qab3 dels adds idsH qabz
instance pureR_nil : PureR [] := ⟨fun _ => rfl, fun x hx => (by cases hx), fun x hx => (by cases hx)⟩
theorem fin_co {X : Cx} {sl : Sl} {hp : Hp} {t nx : Nat} {v r : SV} (hm : X.m = 0) (h : gets sl t = v) (hc : Co v r) (hv : NoN r) : QFun X [.tmp t] 0 r [] .ret ⟨sl, hp, nx⟩ := by
 refine ⟨⟨[(t, r)], [], 0⟩, qaeu [] hm rfl (Nat.zero_le _) ⟨?_, trivial⟩ trivial, by simp [qakm, resL, resV, one_, gets], trivial, by simp⟩
 show Co (gets sl t) (ren _ r)
 rw [h, hv]; exact hc
end Go.Proofs.YteoijlmgiemffaaGreat
namespace Go.Proofs.YteoijlmgiemffaaGreat
set_option linter.all false
open Go.RowKit Go.ChangeShapes Go.WideShapes
attribute [local simp] qabi qabh qaax qaa7 qaay qaa6 qabf qabg qaar qabr SOp.run SX.ev putd puts argS upds SOp.touch SSt.keep SSt.skip gets geth puth delh idOf SV.cells? setL qadh qadi sbin eq0 eq1 eqL qadf qab9 qaca qaap qabk qaag qabl qabs qaaj qaaq FrzOk qaba qaa1 qaa8 qaa9 qaat qaa0 qabm qaa2 qaav qabb qaau frzS frzH frz frz1 frz0 SlotsM ObjsM ObjM rn ren ren1 ren0 qabu qab7 qacf qabt qabn qacg qace CoL qabc qab3 dels adds idsH qabz
attribute [local simp] qadt refc qaes qaei qab8 opc actc tabc qaea qacm nums
theorem opens_ref : Opens Tryz.prog 66 qaht := by
 have h : Opens Tryz.prog 66 (Lay.pair (Lay.int .i64) (Lay.int .i64)) :=
  Opens.struct Tryz.underlying66 (OpensF.cons opensI rfl (OpensF.one opensI rfl)) (by kernel_rfl) (by decide)
 refine h.weak rfl ?_
 rintro w ⟨a, b⟩ cs hr
 exact ⟨⟨a, b⟩, hr⟩
theorem opens_push : Opens Tryz.prog 101 qag2 := by
 have h : Opens Tryz.prog 101 (Lay.pair i64L (Lay.pair qaht u64L)) :=
  Opens.struct Tryz.underlying101 (OpensF.cons opensI rfl (OpensF.cons opens_ref rfl (OpensF.one opensU rfl))) (by kernel_rfl) (by decide)
 refine h.weak rfl ?_
 rintro w ⟨a, b, c⟩ cs hr
 exact ⟨⟨a, b, c⟩, hr⟩
theorem qako : Opens Tryz.prog 27 (Lay.slice (Lay.int .i64)) := opensI.slice Tryz.underlying27 (by kernel_rfl)
theorem opens_head : Opens Tryz.prog 64 qaks := by
 have h : Opens Tryz.prog 64 (Lay.slice i64L) :=
  Opens.struct Tryz.underlying64 (OpensF.one qako rfl) (by kernel_rfl) (by decide)
 refine h.weak rfl ?_
 rintro w a cs hr
 exact ⟨⟨a⟩, hr⟩
theorem opens_case : Opens Tryz.prog 145 qall := by
 have h : Opens Tryz.prog 145 (Lay.pair u64L (Lay.pair u64L i64L)) :=
  Opens.struct Tryz.underlying145 (OpensF.cons opensU rfl (OpensF.cons opensU rfl (OpensF.one opensI rfl))) (by kernel_rfl) (by decide)
 refine h.weak rfl ?_
 rintro w ⟨a, b, c⟩ cs hr
 exact ⟨⟨a, b, c⟩, hr⟩
set_option maxRecDepth 20000 in
theorem opens_state : Opens Tryz.prog 69 qaho := by
 have h : Opens Tryz.prog 69 (Lay.pair i64L (Lay.pair qaht (Lay.pair (Lay.slice qall) i64L))) :=
  Opens.struct Tryz.underlying69 (OpensF.cons opensI rfl (OpensF.cons opens_ref rfl (OpensF.cons (opens_case.slice Tryz.underlying67 (by kernel_rfl)) rfl (OpensF.one opensI rfl)))) (by kernel_rfl) (by decide)
 refine h.weak rfl ?_
 rintro w ⟨a, b, c, d⟩ cs hr
 exact ⟨⟨a, b, c, d⟩, hr⟩
theorem qahu : Opens Tryz.prog 73 (Lay.slice qag2) := opens_push.slice Tryz.underlying73 (by kernel_rfl)
set_option maxRecDepth 20000 in
theorem opens_op : Opens Tryz.prog 75 opLay := by
 have h : Opens Tryz.prog 75 (Lay.pair i64L (Lay.pair qaht (Lay.pair i64L (Lay.slice qag2)))) :=
  Opens.struct Tryz.underlying75 (OpensF.cons opensI rfl (OpensF.cons opens_ref rfl (OpensF.cons opensI rfl (OpensF.one qahu rfl)))) (by kernel_rfl) (by decide)
 refine h.weak rfl ?_
 rintro w ⟨a, b, c, d⟩ cs hr
 exact ⟨⟨a, b, c, d⟩, hr⟩
set_option maxRecDepth 20000 in
theorem opens_act : Opens Tryz.prog 72 qbd7 := by
 have h : Opens Tryz.prog 72 (Lay.pair (Lay.slice i64L) (Lay.slice opLay)) :=
  Opens.struct Tryz.underlying72 (OpensF.cons qako rfl (OpensF.one (opens_op.slice Tryz.underlying70 (by kernel_rfl)) rfl)) (by kernel_rfl) (by decide)
 refine h.weak rfl ?_
 rintro w ⟨a, b⟩ cs hr
 exact ⟨⟨a, b⟩, hr⟩
set_option maxRecDepth 20000 in
theorem opens_tab : Opens Tryz.prog 78 qa4u := by
 have h : Opens Tryz.prog 78 (Lay.pair i64L (Lay.pair (Lay.slice qaht) (Lay.pair (Lay.slice i64L) (Lay.pair i64L (Lay.pair i64L (Lay.slice u64L)))))) :=
  Opens.struct Tryz.underlying78 (OpensF.cons opensI rfl (OpensF.cons (opens_ref.slice Tryz.underlying76 (by kernel_rfl)) rfl (OpensF.cons qako rfl (OpensF.cons opensI rfl (OpensF.cons opensI rfl (OpensF.one opensN rfl)))))) (by kernel_rfl) (by decide)
 refine h.weak rfl ?_
 rintro w ⟨a, b, c, d, e, f⟩ cs hr
 exact ⟨⟨a, b, c, d, e, f⟩, hr⟩
set_option maxRecDepth 20000 in
theorem opens_node : Opens Tryz.prog 80 qakq := by
 have h : Opens Tryz.prog 80 (Lay.pair i64L (Lay.pair i64L (Lay.pair (Lay.slice qag2) (Lay.pair i64L i64L)))) :=
  Opens.struct Tryz.underlying80 (OpensF.cons opensI rfl (OpensF.cons opensI rfl (OpensF.cons qahu rfl (OpensF.cons opensI rfl (OpensF.one opensI rfl))))) (by kernel_rfl) (by decide)
 refine h.weak rfl ?_
 rintro w ⟨a, b, c, d, e⟩ cs hr
 exact ⟨⟨a, b, c, d, e⟩, hr⟩
set_option maxRecDepth 20000 in
theorem opens_plan : Opens Tryz.prog 33 planLay := by
 have h : Opens Tryz.prog 33 (Lay.pair (Lay.slice qaks) (Lay.pair (Lay.slice i64L) (Lay.pair (Lay.slice qaho) (Lay.pair (Lay.slice qbd7) (Lay.pair (Lay.slice qa4u) (Lay.pair (Lay.slice qakq) (Lay.slice i64L))))))) :=
  Opens.struct Tryz.underlying33 (OpensF.cons (opens_head.slice Tryz.underlying26 (by kernel_rfl)) rfl (OpensF.cons qako rfl (OpensF.cons (opens_state.slice Tryz.underlying28 (by kernel_rfl)) rfl (OpensF.cons (opens_act.slice Tryz.underlying29 (by kernel_rfl)) rfl (OpensF.cons (opens_tab.slice Tryz.underlying30 (by kernel_rfl)) rfl (OpensF.cons (opens_node.slice Tryz.underlying31 (by kernel_rfl)) rfl (OpensF.one qako rfl))))))) (by kernel_rfl) (by decide)
 refine h.weak rfl ?_
 rintro w ⟨a, b, c, d, e, f, g⟩ cs hr
 exact ⟨⟨a, b, c, d, e, f, g⟩, hr⟩
theorem rep_lay {α : Type} {L : Lay α} {f : α → List SV} (hp : LayP L f) {w : World} {x : α} {cs : Array Value} (h : L.rep NoA w x cs.toList) : RepV w (fun _ => False) noPl (.agg (f x)) (.agg cs) := by
 obtain ⟨h1, h2⟩ := hp NoA w x cs.toList h
 have := RepV.agg (w := w) (A := NoA) (ρ := noPl) (cs := f x) (vs := cs.toList) h2 h1.1 h1.2
 exact this
end Go.Proofs.YteoijlmgiemffaaGreat
namespace Go.Proofs.YteoijlmgiemffaaGreat
set_option linter.all false
open Go.RowKit
attribute [local simp] qabi qabh qaax qaa7 qaay qaa6 qabf qabg qaar qabr SOp.run SX.ev putd puts argS upds SOp.touch SSt.keep SSt.skip gets geth puth delh idOf SV.cells? setL qadh qadi sbin eq0 eq1 eqL qadf qab9 qaca qaap qabk qaag qabl qabs qaaj qaaq FrzOk qaba qaa1 qaa8 qaa9 qaat qaa0 qabm qaa2 qaav qabb qaau frzS frzH frz frz1 frz0 SlotsM ObjsM ObjM rn ren ren1 ren0 qabu qab7 qacf qabt qabn qacg qace CoL qabc qab3 dels adds idsH qabz
attribute [local simp] qadt refc qaes qaei qab8 opc actc tabc qaea qacm nums
def shpR (p : PlanD) : List (List SV) := if (qagc p).1 ≠ 0 then [] else shpL p
theorem qatb {p : PlanD} (h : (qagc p).1 = 0) : ∀ t ∈ p.tabs, ∀ a ∈ t.acts, 0 ≤ a ∧ a < p.acts.length := by
 refine (qbjt ?_).tacts
 unfold qagc at h
 by_cases h1 : (qafm p).1 ≠ 0
 ·rw [if_pos h1] at h; exact absurd h h1
 ·unfold qafm at h1
  by_cases h2 : (qafh p).1 ≠ 0
  ·rw [if_pos h2] at h1; exact absurd h2 h1
  ·simpa using h2
theorem qbe0 (p : PlanD) (hs : SmallP p) (hk : qaha p) (q : Nat) : SCalls Tryz.prog 11 [.agg (qacm p)] [] q (.view 3 (shpR p)) [] := by
 have hren : ∀ σ, Go.Proofs.YteoijlmgiemffaaGreat.ren σ (.view 3 (shpR p)) = .view 3 (shpR p) := fun _ => rfl
 refine qabj ?_ (fun _ => rfl) (fun _ => rfl) rfl q
 refine qaas (N := 9) Tryz.func11 rfl rfl (by kernel_rfl) qaj8 (by simp) (by repeat' (first | exact trivial | refine And.intro ?_ ?_ | rfl | decide | exact PureR.ren _)) (by repeat' (first | exact trivial | refine And.intro ?_ ?_ | rfl | decide | exact PureR.ren _)) ?_
 rintro X hP hN hm
 unfold c_lshapes
 have c1 := fun q => qbjz p hs hk q
 by_cases h0 : (qagc p).1 = 0
 ·have c2 := fun q => qbin p hs (qatb h0) q
  have hr : shpR p = shpL p := by unfold shpR; rw [if_neg (by simpa using h0)]
  rw [hr]
  rw [h0] at c1
  generalize shpL p = R at c2
  generalize (qagc p).2 = F at c1
  replace c1 := Lib.hid c1
  replace c2 := Lib.hid c2
  clear hr hren
  repeat' (first | (with_reducible refine zA ?_) | ((with_reducible refine qaac ?_); (try rw [hP]); simp -implicitDefEqProofs [*]) | ((with_reducible refine qaaf ?_); (try simp -implicitDefEqProofs [*])) | ((with_reducible refine qaam ?_); (try simp only [qaap, qaag, qaaj])) | ((with_reducible refine qaaa rfl (fun h => ?_) (fun h => ?_)) <;> have h' := h <;> (try simp at h') <;> (try subst h')) | ((first | refine qaaw (c1.out _) ?_ | refine qaaw (c2.out _) ?_); simp -implicitDefEqProofs [*]) | ((refine qakx hm ?_ (fun σ => rfl))) | fail)
  all_goals rfl
 ·have hr : shpR p = [] := by unfold shpR; rw [if_pos h0]
  rw [hr]
  generalize qagc p = F at c1 h0
  have b0 : (F.1 != 0) = true := by simpa using h0
  replace c1 := Lib.hid c1
  clear hr hren h0
  repeat' (first | (with_reducible refine zA ?_) | ((with_reducible refine qaac ?_); (try rw [hP]); simp -implicitDefEqProofs [b0, *]) | ((with_reducible refine qaam ?_); (try simp only [qaap, qaag, qaaj])) | ((with_reducible refine qaaa rfl (fun h => ?_) (fun h => ?_)) <;> have h' := h <;> (try simp at h') <;> (try subst h')) | (refine qaaw (c1.out _) ?_; simp -implicitDefEqProofs [b0, *]) | ((refine fin_co hm rfl (Co.nilsl 3) (fun σ => rfl))) | fail)
set_option maxHeartbeats 4000000 in
theorem lowsh_s (p : PlanD) (hk : qaha p) (q : Nat) : SCalls Tryz.prog 4 [.agg (qacm p)] [] q (.bool true) [] := by
 refine qabj ?_ (fun _ => rfl) (fun _ => rfl) rfl q
 refine qaas (N := 48) Tryz.func4 rfl rfl (by kernel_rfl) qaos (by simp) (by repeat' (first | exact trivial | refine And.intro ?_ ?_ | rfl | decide | exact PureR.ren _)) (by repeat' (first | exact trivial | refine And.intro ?_ ?_ | rfl | decide | exact PureR.ren _)) ?_
 rintro X hP hN hm
 have hg := fun q => gplan_s p q
 unfold c_lowsh
 cases hG : qaj2 p <;> rw [hG] at hg
 ·have hs := qbil hG
  have c2 := fun q => rflow_s p hs q
  have c3 := fun q => qbe0 p hs hk q
  have c4 := fun q => oplan_s p hs q
  generalize (qakg p).map bvc = L at c2
  by_cases h0 : (qagc p).1 = 0
  ·have c5 := fun q => qben p hs (qatb h0) q
   have hr : shpR p = shpL p := by unfold shpR; rw [if_neg (by simpa using h0)]
   have hlen : (shpL p).length ≤ 1000 := by rw [List.length_map]; exact hs.tabs
   have hrow : ∀ i (h : i < (shpL p).length), ∃ a b c : Int, (shpL p)[i] = [.int .i64 a, .int .i64 b, .int .i64 c] := fun i h => ⟨_, _, _, by rw [List.getElem_map]; rfl⟩
   rw [hr] at c3
   rw [h0] at c2
   generalize shpL p = R at c3 c5 hlen hrow
   generalize (qagc p).2 = F at c2
   replace c2 := Lib.hid c2
   replace c3 := Lib.hid c3
   replace c4 := Lib.hid c4
   replace c5 := Lib.hid c5
   replace hrow := Lib.hid hrow
   clear hr h0 hs hk
   repeat' (first | (with_reducible refine zA ?_) | ((with_reducible refine qaac ?_); (try rw [hP]); simp -implicitDefEqProofs [*]) | ((with_reducible refine qaaf ?_); (try simp -implicitDefEqProofs [*])) | ((with_reducible refine qaaa rfl (fun h => ?_) (fun h => ?_)) <;> have h' := h <;> (try simp at h') <;> (try subst h')) | ((first | refine qaaw (qbjl _) ?_ | refine qaaw (hg _) ?_ | refine qaaw (c4.out _) ?_ | refine qaaw (c2.out _) ?_ | refine qaaw (c3.out _) ?_ | refine qaaw (c5.out _) ?_); simp -implicitDefEqProofs [*]) | fail)
   refine qaal (qaa5 (fun s (i : Nat) => s.turn [(7, .int .i64 i)] []) (fun i => i ≤ R.length) (fun i => R.length - i) 0 ?_ (by simp) ?_)
   ·repeat' (first | ((with_reducible refine qaah [] hm ?_ ?_ ?_ ?_) <;> (try simp only [zT, puth, Nat.reduceEqDiff, reduceIte, Nat.reduceAdd])) | (with_reducible first | refine za ?_ ?_ | refine zb ?_ ?_ ?_ ?_) | (with_reducible first | exact qaab | exact qaad) | ((with_reducible first | refine zga ?_ | refine zgb ?_); rfl) | ((with_reducible refine zgd ?_); (first | omega | (simp; done))) | (exact Co.refl _) | (exact CoL.refl _) | fail)
   rintro J hJ i h1
   unfold qamf
   simp only [zT, puth, Nat.reduceEqDiff, reduceIte, Nat.reduceAdd] at h1 ⊢
   rcases Nat.lt_or_ge i R.length with hi | hi
   ·have wi : IntKind.i64.wrap ((i : Int) + 1) = (i : Int) + 1 := qaao (by omega) (by omega)
    obtain ⟨a, b, c, hx⟩ := hrow.out i hi
    have hgi : R[i]? = some [.int .i64 a, .int .i64 b, .int .i64 c] := by rw [List.getElem?_eq_getElem hi, hx]
    repeat' (first | (with_reducible first | refine zA ?_ | refine qaae ?_ | refine zK ?_) | ((with_reducible first | refine qaac ?_ | refine qaaz (by rw [hP]; exact qacz) ?_); (try rw [hP]); simp -implicitDefEqProofs [hgi, hx, wi, *]) | ((with_reducible refine qaaf ?_); (try simp -implicitDefEqProofs [hgi, hx, wi, *])) | ((with_reducible refine qaaa rfl (fun h => ?_) (fun h => ?_)) <;> have h' := h <;> (try simp at h') <;> (try subst h')) | (with_reducible first | refine za ?_ ?_ | refine zb ?_ ?_ ?_ ?_) | (with_reducible first | exact qaab | exact qaad) | ((with_reducible first | refine zga ?_ | refine zgb ?_); rfl) | ((with_reducible first | refine zgd ?_ | refine zge ?_); (first | omega | (simp; done))) | (exact Co.refl _) | (exact CoL.refl _) | ((refine qaai hJ (i + 1) ?_ ?_ ?_; (with_reducible refine qaah [] hm ?_ ?_ ?_ ?_) <;> (try simp only [zT, puth, Nat.reduceEqDiff, reduceIte, Nat.reduceAdd]))) | fail)
    all_goals omega
   ·obtain rfl : i = R.length := by omega
    repeat' (first | (with_reducible refine zA ?_) | ((with_reducible refine qaac ?_); (try rw [hP]); simp -implicitDefEqProofs [*]) | ((with_reducible refine qaak ?_); (try simp -implicitDefEqProofs [*])) | ((with_reducible refine qaam ?_); (try simp only [qaap, qaag, qaaj])) | ((with_reducible refine qaaa rfl (fun h => ?_) (fun h => ?_)) <;> have h' := h <;> (try simp at h') <;> (try subst h')) | (with_reducible refine zN hm ?_) | fail)
    all_goals rfl
  ·have hr : shpR p = [] := by unfold shpR; rw [if_pos h0]
   rw [hr] at c3
   generalize qagc p = F at c2 h0
   replace c2 := Lib.hid c2
   replace c3 := Lib.hid c3
   replace c4 := Lib.hid c4
   have b0 : (F.1 != 0) = true := by simpa using h0
   clear hr hs hk h0
   repeat' (first | (with_reducible refine zA ?_) | ((with_reducible refine qaac ?_); (try rw [hP]); simp -implicitDefEqProofs [b0, *]) | ((with_reducible refine qaaf ?_); (try simp -implicitDefEqProofs [b0, *])) | ((with_reducible refine qaam ?_); (try simp only [qaap, qaag, qaaj])) | ((with_reducible refine qaaa rfl (fun h => ?_) (fun h => ?_)) <;> have h' := h <;> (try simp at h') <;> (try subst h')) | ((first | refine qaaw (qbjl _) ?_ | refine qaaw (hg _) ?_ | refine qaaw (c4.out _) ?_ | refine qaaw (c2.out _) ?_ | refine qaaw (c3.out _) ?_); simp -implicitDefEqProofs [b0, *]) | (with_reducible refine zN hm ?_) | fail)
   all_goals rfl
 ·repeat' (first | (with_reducible refine zA ?_) | ((with_reducible refine qaac ?_); (try rw [hP]); simp -implicitDefEqProofs [*]) | ((with_reducible refine qaaf ?_); (try simp -implicitDefEqProofs [*])) | ((with_reducible refine qaam ?_); (try simp only [qaap, qaag, qaaj])) | ((with_reducible refine qaaa rfl (fun h => ?_) (fun h => ?_)) <;> have h' := h <;> (try simp at h') <;> (try subst h')) | ((first | refine qaaw (qbjl _) ?_ | refine qaaw (hg _) ?_); simp -implicitDefEqProofs [*]) | (with_reducible refine zN hm ?_) | fail)
  all_goals rfl
theorem LowerShapes_law (p : PlanD) (cs : Array Value) (w : World) (h : planLay.rep NoA w p cs.toList) :
  Calls Tryz.prog 4 #[.agg cs] w fun e w' => e = .returned (.bool true) ∧ Below w.heap.size w w' :=
 law_of (vs := [.agg cs]) (lowsh_s p (qbe6 NoA w p cs.toList h) 0) (Reps.cons (rep_lay qbe2 h) Reps.nil)
end Go.Proofs.YteoijlmgiemffaaGreat
