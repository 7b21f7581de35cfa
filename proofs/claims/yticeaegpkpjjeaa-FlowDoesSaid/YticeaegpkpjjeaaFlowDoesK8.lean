/-
  Texts joined: XWlkI XFlwL XPlnZ XPloB XPloC XPloD XWlkJ XFlwM. No condition.
-/
import Derived.Test.YticeaegpkpjjeaaProg
import Derived.ProofKit
import Derived.WalkSpells
import Derived.RegionTactic
import Derived.BigRegion
import Derived.Deep.RegionLaw
import Derived.Test.YticeaegpkpjjeaaFlowDoesK7
namespace Go.Proofs.Yticeaegpkpjjeaa
set_option linter.all false
open Go.RowKit
attribute [local simp] qabg qabf qaas qaa3 qaat qaa2 qabd qabe qaan qabo SOp.run SX.ev putd puts argS upds SOp.touch SSt.keep SSt.skip gets geth puth delh idOf SV.cells? setL qac6 qac7 sbin eq0 eq1 eqL qac1 qab1 qab2 qaap qabh qaag qabi qabp qaai qaao FrzOk qaa7 qaa0 qaa5 qaa6 qaau qaaz qabl qaa1 qaaw qaa8 qaav frzS frzH frz frz1 frz0 SlotsM ObjsM ObjM rn ren ren1 ren0 qabt qab6 qab9 qabs qabm qaca qab8 CoL qaa9 qacb dels adds idsH qabx
attribute [local simp] qadr refc qael qaed qab7 opc actc tabc qady qacl nums wayc setc
def putW (m : List SetsD) (w : WayD) : List SetsD := m.set w.st (qano (m.getD w.st qaef) (qbip (w.taken, w.bytes)))
theorem qani (m : List SetsD) (w : WayD) : (putW m w).length = m.length := by simp [putW]
theorem qahc : ∀ (ws : List WayD) (m : List SetsD), (ws.foldl putW m).length = m.length
 | [], _ => rfl
 | w :: ws, m => by rw [List.foldl_cons, qahc ws, qani]
theorem qa58 {n : Nat} : ∀ (ws : List WayD) (m : List SetsD) (P : Nat → TB → Prop), m.length = n + 1 → (∀ w ∈ ws, w.st ≤ n) → (∀ k, k ≤ n → IsO (m.getD k qaef) (P k)) →
  ∀ k, k ≤ n → IsO ((ws.foldl putW m).getD k qaef) (fun y => P k y ∨ ∃ w ∈ ws, w.st = k ∧ y = (w.taken, w.bytes))
 | [], m, P, _, _, h, k, hk => (h k hk).congr fun y => by simp
 | w :: ws, m, P, hm, hw, h, k, hk => by
  rw [List.foldl_cons]
  have hws := hw w (by simp)
  have step : ∀ k, k ≤ n → IsO ((putW m w).getD k qaef) (fun y => P k y ∨ (w.st = k ∧ y = (w.taken, w.bytes))) := fun k hk => by
   unfold putW
   by_cases e : w.st = k
   ·subst e
    rw [List.getD_eq_getElem?_getD, List.getElem?_set_self (by omega), Option.getD_some]
    exact ((h w.st hk).join (is_one (w.taken, w.bytes))).congr fun y => by simp
   ·rw [List.getD_eq_getElem?_getD, List.getElem?_set_ne e, ← List.getD_eq_getElem?_getD]
    exact (h k hk).congr fun y => by simp [e]
  refine (qa58 ws (putW m w) _ (by rw [qani, hm]) (fun v hv => hw v (by simp [hv])) step k hk).congr fun y => ?_
  constructor
  ·rintro ((h1 | ⟨h1, h2⟩) | ⟨v, h1, h2⟩)
   ·exact .inl h1
   ·exact .inr ⟨w, by simp, h1, h2⟩
   ·exact .inr ⟨v, by simp [h1], h2⟩
  ·rintro (h1 | ⟨v, h1, h2⟩)
   ·exact .inl (.inl h1)
   ·rcases List.mem_cons.1 h1 with e | e
    ·subst e; exact .inl (.inr h2)
    ·exact .inr ⟨v, e, h2⟩
theorem qbjs {p : PlanD} (hp : PlOk p) : (qa4y p).foldl putW (List.replicate (p.states.length + 1) qaef) = qafx p := by
 obtain ⟨j, hI, _⟩ := qand hp
 refine List.ext_getElem (by rw [qahc, List.length_replicate]; exact (qacw p _).symm) fun k h1 h2 => ?_
 rw [qahc, List.length_replicate] at h1
 have a := qa58 (n := p.states.length) (qa4y p) (List.replicate (p.states.length + 1) qaef) (fun _ _ => False) (by simp) (fun w hw => (hI.sound w hw).1) (fun k hk => .inl ⟨by rw [List.getD_eq_getElem?_getD, List.getElem?_replicate, if_pos (by omega)]; rfl, fun _ h => h⟩) k (by omega)
 have b := qaf1 hp p.states.length (Nat.le_refl _) k (by omega)
 have e := (a.congr fun y => (Iff.intro (fun h => h.resolve_left id) .inr).trans (ways_rw hp (by omega) y)).uniq b
 rw [List.getD_eq_getElem?_getD, List.getD_eq_getElem?_getD, List.getElem?_eq_getElem (by rw [qahc, List.length_replicate]; omega), List.getElem?_eq_getElem (by rw [qacw]; omega)] at e
 exact e
theorem qbfe {p : PlanD} {i : Nat} (hi : i < p.states.length) : (qafx p)[i]? = some (setAt p i) := by
 have : i < (qafx p).length := by unfold qafx; rw [qacw]; omega
 unfold setAt; rw [List.getD_eq_getElem?_getD, List.getElem?_eq_getElem this]; rfl
set_option maxRecDepth 4000 in
set_option maxHeartbeats 8000000 in
theorem rwalk_s (p : PlanD) (hs : SmallP p) (q : Nat) : SCalls Try.prog 55 [.agg (qacl p)] [] q (.tup [.view 5 ((qam7 p).map setc), .agg [.int .i64 (qaf0 p).1, .int .i64 (qaf0 p).2]]) [] := by
 refine qabj ?_ (fun _ => rfl) (fun _ => rfl) rfl q
 refine qaax (N := 199) Try.func55 rfl rfl (by kernel_rfl) qan6 (by simp) (by repeat' (first | exact trivial | refine And.intro ?_ ?_ | rfl | decide | exact PureR.ren _)) (by repeat' (first | exact trivial | refine And.intro ?_ ?_ | rfl | decide | exact PureR.ren _)) ?_
 rintro X hP hN hm
 unfold c_rwalk
 have hc := fun q => rform_s p hs q
 by_cases h0 : (qafi p).1 = 0
 ·have hp := qbfm h0
  have hF : qaf0 p = qafo p := by unfold qaf0; rw [if_neg (by simpa using h0)]
  have hL : qam7 p = if (qafo p).1 ≠ 0 then [] else qafx p := by unfold qam7; rw [hF]
  rw [hF, hL]
  have kc : ((qafi p).1 != 0) = false := by simpa using h0
  generalize qafi p = C at hc kc
  have hn1 : p.states.length ≤ 8 := hp.states.2
  have wn : IntKind.i64.wrap ((p.states.length : Int) + 1) = (p.states.length : Int) + 1 := qaaq (by omega) (by omega)
  have hmx : p.states.length + 1 ≤ maxLen := by unfold maxLen; omega
  have hways := fun q => rways_s p hp q
  have hout := qbjs hp
  obtain ⟨j, hI, hj⟩ := qand hp
  have hwl := qbiu hI
  have hws : ∀ w ∈ qa4y p, w.st ≤ p.states.length := fun w hw => (hI.sound w hw).1
  clear hI hj
  have hF0 : qafo p = rowF (fun i s => refC s (setAt p i)) 3000 0 (p.states.drop 0) := rfl
  generalize qafo p = F at hF0
  generalize qa4y p = ws at hways hout hwl hws
  have hrep : List.replicate (p.states.length + 1) [SV.int .u64 0, .int .u64 0, .int .i64 0, .int .i64 0, .bool false] = (List.replicate (p.states.length + 1) qaef).map setc := by rw [List.map_replicate]; rfl
  have hout0 : qafx p = (ws.drop 0).foldl putW (List.replicate (p.states.length + 1) qaef) := hout.symm
  have hrl : (List.replicate (p.states.length + 1) qaef).length = p.states.length + 1 := by simp
  generalize List.replicate (p.states.length + 1) qaef = m0 at hrep hout0 hrl
  clear hF hL h0 hout
  replace hF0 := Lib.hid hF0
  replace hc := Lib.hid hc
  replace hways := Lib.hid hways
  replace hws := Lib.hid hws
  replace hout0 := Lib.hid hout0
  replace hrep := Lib.hid hrep
  replace hp := Lib.hid hp
  replace hrl := Lib.hid hrl
  repeat' (first | (with_reducible refine zA ?_) | ((with_reducible refine qaac ?_); (try rw [hP]); simp -implicitDefEqProofs [*]) | ((with_reducible refine qaaf ?_); (try simp -implicitDefEqProofs [*])) | ((with_reducible refine qaaa rfl (fun h => ?_) (fun h => ?_)) <;> have h' := h <;> (try simp at h') <;> (try subst h')) | ((with_reducible refine qabq ?_ ?_); (first | omega | (unfold maxLen; omega)); simp -implicitDefEqProofs [*]) | ((first | refine qaay (hc.out _) ?_ | refine qaay (hways.out _) ?_); simp -implicitDefEqProofs [*]) | fail)
  refine qaal (qabb (fun s (z : Nat × List SetsD) => s.turn [(7, .int .i64 z.1)] [(31, .row 146 5 (z.2.map setc))]) (fun z => z.1 ≤ ws.length ∧ z.2.length = p.states.length + 1 ∧ qafx p = (ws.drop z.1).foldl putW z.2) (fun z => ws.length - z.1) (0, m0) ?_ ⟨by simp, hrl.out, hout0.out⟩ ?_)
  ·repeat' (first | ((with_reducible refine qaah [] hm ?_ ?_ ?_ ?_) <;> (try simp only [zT, puth, Nat.reduceEqDiff, reduceIte, Nat.reduceAdd])) | (with_reducible first | refine za ?_ ?_ | refine zb ?_ ?_ ?_ ?_ | refine zc ?_ ?_ ?_ ?_) | (with_reducible first | exact qaab | exact qaad) | ((with_reducible first | refine zga ?_ | refine zgb ?_); rfl) | ((with_reducible refine zgd ?_); (first | omega | (simp; done))) | (exact Co.refl _) | (exact CoL.refl _) | fail)
   all_goals (exact hrep.out)
  rintro J hJ ⟨i, m⟩ ⟨h1, hml, h2⟩
  unfold qalv
  simp only [zT, puth, Nat.reduceEqDiff, reduceIte, Nat.reduceAdd] at h1 hml h2 ⊢
  clear hrl hout0 hrep
  rcases Nat.lt_or_ge i ws.length with hi | hi
  ·have hwst := hws.out ws[i] (List.getElem_mem hi)
   have hgw : ws[i]? = some ws[i] := List.getElem?_eq_getElem hi
   rw [List.drop_eq_getElem_cons hi, List.foldl_cons] at h2
   generalize hww : ws[i] = w at hwst hgw h2
   have hstl : w.st < m.length := by omega
   have hstl2 : w.st < p.states.length + 1 := by omega
   have hgy : m[w.st]? = some m[w.st] := List.getElem?_eq_getElem hstl
   have hput : putW m w = m.set w.st (qano m[w.st] (qbip (w.taken, w.bytes))) := by
    unfold putW; rw [List.getD_eq_getElem?_getD, hgy]; rfl
   have hpl : (putW m w).length = p.states.length + 1 := by rw [qani, hml]
   have hrow : (m.map setc).set w.st (setc (qano m[w.st] (qbip (w.taken, w.bytes)))) = (putW m w).map setc := by rw [hput, List.map_set]
   generalize hyy : m[w.st] = y at hgy hrow
   generalize putW m w = M at h2 hpl hrow
   have hmaplen : (m.map setc).length = p.states.length + 1 := by rw [List.length_map, hml]
   have wi : IntKind.i64.wrap ((i : Int) + 1) = (i : Int) + 1 := qaaq (by omega) (by omega)
   clear hput
   replace h2 := Lib.hid h2
   replace hpl := Lib.hid hpl
   replace hrow := Lib.hid hrow
   cases hth : y.there
   ·repeat' (first | (with_reducible first | refine zA ?_ | refine qaae ?_ | refine zK ?_) | ((with_reducible first | refine qaac ?_ | refine qaa4 (by rw [hP]; exact qacr) ?_); (try rw [hP]); simp -implicitDefEqProofs [*]) | ((with_reducible first | refine qaaf ?_ | refine qaak ?_); (try simp -implicitDefEqProofs [*])) | ((with_reducible refine qaaa rfl (fun h => ?_) (fun h => ?_)) <;> have h' := h <;> (try simp at h') <;> (try subst h')) | ((with_reducible refine qabq ?_ ?_); (first | omega | (unfold maxLen; omega)); simp -implicitDefEqProofs [*]) | (with_reducible first | refine za ?_ ?_ | refine zb ?_ ?_ ?_ ?_ | refine zc ?_ ?_ ?_ ?_) | (with_reducible first | exact qaab | exact qaad) | ((with_reducible first | refine zga ?_ | refine zgb ?_); rfl) | ((with_reducible first | refine zgd ?_ | refine zge ?_); (first | omega | (simp; done))) | (exact Co.refl _) | (exact CoL.refl _) | ((refine qaaj hJ (i + 1, M) ?_ ?_ ?_; (with_reducible refine qaah [] hm ?_ ?_ ?_ ?_) <;> (try simp only [zT, puth, Nat.reduceEqDiff, reduceIte, Nat.reduceAdd]))) | fail)
    all_goals first | (exact ⟨by dsimp only; omega, hpl.out, h2.out⟩) | (rw [← hrow.out]; congr 1; simp [qano, hth, qbip]; done)
   ·repeat' (first | (with_reducible first | refine zA ?_ | refine qaae ?_ | refine zK ?_) | ((with_reducible first | refine qaac ?_ | refine qaa4 (by rw [hP]; exact qacr) ?_); (try rw [hP]); simp -implicitDefEqProofs [-BitVec.toNat_and, -BitVec.toNat_or, qaba, qabu, List.set_set, List.getElem?_set_self, *]) | ((with_reducible refine qaaf ?_); (try simp -implicitDefEqProofs [-BitVec.toNat_and, -BitVec.toNat_or, qaba, qabu, List.set_set, List.getElem?_set_self, *])) | ((with_reducible refine qaaa rfl (fun h => ?_) (fun h => ?_)) <;> have h' := h <;> (try simp at h') <;> (try subst h')) | ((with_reducible refine qabq ?_ ?_); (first | omega | (unfold maxLen; omega)); simp -implicitDefEqProofs [-BitVec.toNat_and, -BitVec.toNat_or, qaba, qabu, List.set_set, List.getElem?_set_self, *]) | (with_reducible first | refine za ?_ ?_ | refine zb ?_ ?_ ?_ ?_ | refine zc ?_ ?_ ?_ ?_) | (with_reducible first | exact qaab | exact qaad) | ((with_reducible first | refine zga ?_ | refine zgb ?_); rfl) | ((with_reducible first | refine zgd ?_ | refine zge ?_); (first | omega | (simp; done))) | (exact Co.refl _) | (exact CoL.refl _) | ((refine qaaj hJ (i + 1, M) ?_ ?_ ?_; (with_reducible refine qaah [] hm ?_ ?_ ?_ ?_) <;> (try simp only [zT, puth, Nat.reduceEqDiff, reduceIte, Nat.reduceAdd]))) | fail)
    all_goals first | (exact ⟨by dsimp only; omega, hpl.out, h2.out⟩) | (rw [← hrow.out]; congr 1; simp [qano, hth, qbip, lo, hi_, *]; done) | (rw [← hrow.out]; congr 1; simp_all [qano, qbip, lo, hi_]; done) | (rw [← hrow.out]; congr 1; simp_all [qano, qbip, lo, hi_]; omega)
  ·obtain rfl : i = ws.length := by omega
   rw [List.drop_length] at h2
   have h3 : m = qafx p := h2.symm
   subst h3
   clear h2 hws
   repeat' (first | (with_reducible refine zA ?_) | ((with_reducible refine qaac ?_); (try rw [hP]); simp -implicitDefEqProofs [*]) | ((with_reducible refine qaak ?_); (try simp -implicitDefEqProofs [*])) | ((with_reducible refine qaaa rfl (fun h => ?_) (fun h => ?_)) <;> have h' := h <;> (try simp at h') <;> (try subst h')) | fail)
   refine qaal (qabb (fun s (i : Nat) => s.turn [(9, .int .i64 i)] []) (fun i => i ≤ p.states.length ∧ F = rowF (fun i s => refC s (setAt p i)) 3000 i (p.states.drop i)) (fun i => p.states.length - i) 0 ?_ ⟨by simp, hF0.out⟩ ?_)
   ·repeat' (first | ((with_reducible refine qaah [] hm ?_ ?_ ?_ ?_) <;> (try simp only [zT, puth, Nat.reduceEqDiff, reduceIte, Nat.reduceAdd])) | (with_reducible first | refine za ?_ ?_ | refine zb ?_ ?_ ?_ ?_ | refine zc ?_ ?_ ?_ ?_) | (with_reducible first | exact qaab | exact qaad) | ((with_reducible first | refine zga ?_ | refine zgb ?_); rfl) | ((with_reducible refine zgc ?_); (first | (with_reducible rfl) | rfl | (simp; done))) | ((with_reducible refine zgd ?_); (first | omega | (simp; done))) | (exact Co.refl _) | (exact CoL.refl _) | fail)
   rintro J hJ i ⟨h1, h2⟩
   unfold qalu
   simp only [zT, puth, Nat.reduceEqDiff, reduceIte, Nat.reduceAdd] at h1 h2 ⊢
   clear hF0
   have hmaplen : ((qafx p).map setc).length = p.states.length + 1 := by rw [List.length_map, hml]
   rcases Nat.lt_or_ge i p.states.length with hi | hi
   ·rw [qadf _ _ hi] at h2
    have hga := qbfe hi
    have ok := hp.out.ok i hi
    have hhd := ok.head
    have hon := ok.on
    have hh6 := hp.out.heads
    clear ok
    have hil : i < (qafx p).length := by omega
    have hga2 : (qafx p)[i] = setAt p i := by rw [List.getElem?_eq_getElem hil] at hga; exact Option.some.inj hga
    generalize setAt p i = y at h2 hga hga2
    generalize hxx : p.states[i] = x at h2 hhd hon
    have wi : IntKind.i64.wrap ((i : Int) + 1) = (i : Int) + 1 := qaaq (by omega) (by omega)
    have wa : IntKind.i64.wrap (3000 + (i : Int)) = 3000 + (i : Int) := qaaq (by omega) (by omega)
    have kn : decide (0 < x.cases_.length) = decide (0 < (x.cases_.length : Int)) := decide_eq_decide.2 (by omega)
    cases hth : y.there
    ·have hC : refC x y = 0 := by unfold refC; rw [if_pos hth]
     rw [hC, if_neg (by decide)] at h2
     replace h2 := Lib.hid h2
     replace hon := Lib.hid hon
     repeat' (first | (with_reducible first | refine zA ?_ | refine qaae ?_) | ((with_reducible refine qaac ?_); (try rw [hP]); simp -implicitDefEqProofs [*]) | ((with_reducible first | refine qaaf ?_ | refine qaak ?_); (try simp -implicitDefEqProofs [*])) | ((with_reducible refine qaaa rfl (fun h => ?_) (fun h => ?_)) <;> have h' := h <;> (try simp at h') <;> (try subst h')) | ((with_reducible refine qabq ?_ ?_); (first | omega | (unfold maxLen; omega)); simp -implicitDefEqProofs [*]) | (with_reducible first | refine za ?_ ?_ | refine zb ?_ ?_ ?_ ?_ | refine zc ?_ ?_ ?_ ?_) | (with_reducible first | exact qaab | exact qaad) | ((with_reducible first | refine zga ?_ | refine zgb ?_); rfl) | ((with_reducible refine zgc ?_); (first | (with_reducible rfl) | rfl | (simp; done))) | ((with_reducible first | refine zgd ?_ | refine zge ?_); (first | omega | (simp; done))) | (exact Co.refl _) | (exact CoL.refl _) | ((refine qaaj hJ (i + 1) ?_ ?_ ?_; (with_reducible refine qaah [] hm ?_ ?_ ?_ ?_) <;> (try simp only [zT, puth, Nat.reduceEqDiff, reduceIte, Nat.reduceAdd]))) | fail)
     all_goals (exact ⟨by omega, h2.out⟩)
    ·have hC : refC x y = if (decide (0 ≤ x.head) && (y.may &&& bitB x.head != 0)) = true then 7 else if (decide (0 < x.cases_.length) && (decide (0 ≤ x.on.h) && (x.on.h != x.head && (y.must &&& bitB x.on.h == 0)))) = true then 12 else 0 := by unfold refC; rw [if_neg (by rw [hth]; decide)]
     have hbh := fun (h0 : 0 ≤ x.head) q => qatf x.head h0 (by omega) q
     have hbo := fun (h0 : 0 ≤ x.on.h) (h1 : x.on.h < p.heads.length) q => qatf x.on.h h0 (by omega) q
     generalize refC x y = E at hC h2
     replace hbh := Lib.hid hbh
     replace hbo := Lib.hid hbo
     replace hon := Lib.hid hon
     cases kA : (decide (0 ≤ x.head) && (y.may &&& bitB x.head != 0))
     ·rw [kA, if_neg (by decide)] at hC
      cases kB : (decide (0 < x.cases_.length) && (decide (0 ≤ x.on.h) && (x.on.h != x.head && (y.must &&& bitB x.on.h == 0))))
      ·rw [kB, if_neg (by decide)] at hC
       rw [hC, if_neg (by decide)] at h2
       replace h2 := Lib.hid h2
       replace kB := Lib.hid kB
       replace kA := Lib.hid kA
       clear hC
       cases kh : decide (0 ≤ x.head)
       all_goals cases kc : decide (0 < (x.cases_.length : Int)) <;> rw [kc] at kn
       all_goals cases ko : decide (0 ≤ x.on.h)
       all_goals cases k2 : (x.on.h != x.head)
       all_goals
        have k1 : decide (0 ≤ x.head) = true → (y.may &&& bitB x.head != 0) = false := fun h => by have := kA.out; rw [h, Bool.true_and] at this; exact this
        have k3 : decide (0 < x.cases_.length) = true → decide (0 ≤ x.on.h) = true → (x.on.h != x.head) = true → (y.must &&& bitB x.on.h == 0) = false := fun h h' h'' => by have := kB.out; rw [h, h', h'', Bool.true_and, Bool.true_and, Bool.true_and] at this; exact this
        first
        | (have k1' := k1 kh
           simp only [BitVec.ofNat_eq_ofNat] at k1') | skip
        first
        | (have k3' := k3 kn ko k2
           simp only [BitVec.ofNat_eq_ofNat] at k3') | skip
        clear k1 k3
        repeat' (first | (with_reducible first | refine zA ?_ | refine qaae ?_ | refine zK ?_) | ((with_reducible first | refine qaac ?_ | refine qaa4 (by rw [hP]; exact qacr) ?_); (try rw [hP]); simp -implicitDefEqProofs [-BitVec.toNat_and, -BitVec.toNat_or, qaba, qabu, qac8, qacn, *]) | ((with_reducible refine qaaf ?_); (try simp -implicitDefEqProofs [-BitVec.toNat_and, -BitVec.toNat_or, qaba, qabu, qac8, qacn, *])) | ((with_reducible refine qaaa rfl (fun h => ?_) (fun h => ?_)) <;> have h' := h <;> (try simp at h') <;> (try subst h')) | ((with_reducible refine qabq ?_ ?_); (first | omega | (unfold maxLen; omega)); simp -implicitDefEqProofs [-BitVec.toNat_and, -BitVec.toNat_or, qaba, qabu, qac8, qacn, *]) | ((first | refine qaay (hbh.out (of_decide_eq_true kh) _) ?_ | refine qaay (hbo.out (of_decide_eq_true ko) (hon.out (by have := of_decide_eq_true kc; omega)) _) ?_); simp -implicitDefEqProofs [-BitVec.toNat_and, -BitVec.toNat_or, qaba, qabu, qac8, qacn, *]) | (with_reducible first | refine za ?_ ?_ | refine zb ?_ ?_ ?_ ?_ | refine zc ?_ ?_ ?_ ?_) | (with_reducible first | exact qaab | exact qaad) | ((with_reducible first | refine zga ?_ | refine zgb ?_); rfl) | ((with_reducible refine zgc ?_); (first | (with_reducible rfl) | rfl | (simp; done))) | ((with_reducible first | refine zgd ?_ | refine zge ?_); (first | omega | (simp; done))) | (exact Co.refl _) | (exact CoL.refl _) | ((refine qaaj hJ (i + 1) ?_ ?_ ?_; (with_reducible refine qaah [] hm ?_ ?_ ?_ ?_) <;> (try simp only [zT, puth, Nat.reduceEqDiff, reduceIte, Nat.reduceAdd]))) | fail)
        all_goals (exact ⟨by omega, h2.out⟩)
      ·rw [kB, if_pos rfl] at hC
       have hz : F = (12, 3000 + (i : Int)) := by rw [h2, hC]; exact if_pos (by decide)
       clear h2 hC
       replace hz := Lib.hid hz
       rw [Bool.and_eq_true, Bool.and_eq_true, Bool.and_eq_true] at kB
       obtain ⟨k5, k6, k7, k8⟩ := kB
       rw [k5] at kn
       replace kn := kn.symm
       have hol := hon.out (of_decide_eq_true k5)
       have h6 := of_decide_eq_true k6
       have kz : (((y.must &&& bitB x.on.h).toNat : Nat) : Int) = 0 := by have := qacn (y.must &&& bitB x.on.h); rw [k8] at this; simpa using this
       replace k8 := Lib.hid k8
       replace kA := Lib.hid kA
       replace hol := Lib.hid hol
       replace h6 := Lib.hid h6
       cases kh : decide (0 ≤ x.head)
       all_goals
        have k1 : decide (0 ≤ x.head) = true → (y.may &&& bitB x.head != 0) = false := fun h => by have := kA.out; rw [h, Bool.true_and] at this; exact this
        first
        | (have k1' := k1 kh
           simp only [BitVec.ofNat_eq_ofNat] at k1') | skip
        clear k1
        repeat' (first | (with_reducible first | refine zA ?_ | refine qaae ?_ | refine zK ?_) | ((with_reducible first | refine qaac ?_ | refine qaa4 (by rw [hP]; exact qacr) ?_); (try rw [hP]); simp -implicitDefEqProofs [-BitVec.toNat_and, -BitVec.toNat_or, qaba, qabu, qac8, *]) | ((with_reducible refine qaaf ?_); (try simp -implicitDefEqProofs [-BitVec.toNat_and, -BitVec.toNat_or, qaba, qabu, qac8, *])) | ((with_reducible refine qaam ?_); (try simp only [qaap, qaag, qaai])) | ((with_reducible refine qaaa rfl (fun h => ?_) (fun h => ?_)) <;> have h' := h <;> (try simp at h') <;> (try subst h')) | ((with_reducible refine qabq ?_ ?_); (first | omega | (unfold maxLen; omega)); simp -implicitDefEqProofs [-BitVec.toNat_and, -BitVec.toNat_or, qaba, qabu, qac8, *]) | ((first | refine qaay (hbh.out (of_decide_eq_true kh) _) ?_ | refine qaay (hbo.out h6.out hol.out _) ?_ | refine qaay (rF_s _ _ _) ?_); simp -implicitDefEqProofs [-BitVec.toNat_and, -BitVec.toNat_or, qaba, qabu, qac8, *]) | (refine qafk hm (by decide) rfl (Co.nilsl 5) (qadw _ _) rfl rfl (by rw [hP]; exact qabn) (by rw [hP]; exact qabc) rfl (CoL.refl _) (by rw [hz.out]; rfl) (fun σ => rfl)) | fail)
     ·rw [kA, if_pos rfl] at hC
      have hz : F = (7, 3000 + (i : Int)) := by rw [h2, hC]; exact if_pos (by decide)
      clear h2 hC
      replace hz := Lib.hid hz
      rw [Bool.and_eq_true] at kA
      obtain ⟨k5, k6⟩ := kA
      have h5 := of_decide_eq_true k5
      simp only [BitVec.ofNat_eq_ofNat] at k6
      replace h5 := Lib.hid h5
      repeat' (first | (with_reducible first | refine zA ?_ | refine qaae ?_ | refine zK ?_) | ((with_reducible first | refine qaac ?_ | refine qaa4 (by rw [hP]; exact qacr) ?_); (try rw [hP]); simp -implicitDefEqProofs [-BitVec.toNat_and, -BitVec.toNat_or, qaba, qabu, qac8, qacn, *]) | ((with_reducible refine qaaf ?_); (try simp -implicitDefEqProofs [-BitVec.toNat_and, -BitVec.toNat_or, qaba, qabu, qac8, qacn, *])) | ((with_reducible refine qaam ?_); (try simp only [qaap, qaag, qaai])) | ((with_reducible refine qaaa rfl (fun h => ?_) (fun h => ?_)) <;> have h' := h <;> (try simp at h') <;> (try subst h')) | ((with_reducible refine qabq ?_ ?_); (first | omega | (unfold maxLen; omega)); simp -implicitDefEqProofs [-BitVec.toNat_and, -BitVec.toNat_or, qaba, qabu, qac8, qacn, *]) | ((first | refine qaay (hbh.out h5.out _) ?_ | refine qaay (rF_s _ _ _) ?_); simp -implicitDefEqProofs [-BitVec.toNat_and, -BitVec.toNat_or, qaba, qabu, qac8, qacn, *]) | (refine qafk hm (by decide) rfl (Co.nilsl 5) (qadw _ _) rfl rfl (by rw [hP]; exact qabn) (by rw [hP]; exact qabc) rfl (CoL.refl _) (by rw [hz.out]; rfl) (fun σ => rfl)) | fail)
   ·obtain rfl : i = p.states.length := by omega
    rw [List.drop_length] at h2
    have hz : F = (0, 0) := h2
    subst hz
    clear h2
    replace hp := Lib.hid hp
    repeat' (first | ((with_reducible refine qacj (c := .seq (.reg false qaix [2, 3]) .ret) ?_)) | (with_reducible refine zA ?_) | ((with_reducible refine qaac ?_); (try rw [hP]); simp -implicitDefEqProofs [*]) | ((with_reducible refine qaak ?_); (try simp -implicitDefEqProofs [*])) | ((with_reducible refine qaaa rfl (fun h => ?_) (fun h => ?_)) <;> have h' := h <;> (try simp at h') <;> (try subst h')) | fail)
    constructor
    refine qads [31] ?_ ?_
    ·simp only [FrzOk, geth, Nat.reduceEqDiff, reduceIte, qad8, and_true]
    have htk : ((qafx p).map setc).take (p.states.length + 1) = (qafx p).map setc := List.take_of_length_le (by rw [hmaplen]; exact Nat.le_refl _)
    simp -implicitDefEqProofs [htk, hmaplen, Nat.le_refl]
    repeat' (first | (with_reducible refine zA ?_) | ((with_reducible refine qaac ?_); (try rw [hP]); simp -implicitDefEqProofs [*]) | ((with_reducible refine qaam ?_); (try simp only [qaap, qaag, qaai])) | (refine qafk hm (by decide) rfl (Co.refl _) (qadw _ _) rfl rfl (by rw [hP]; exact qabn) (by rw [hP]; exact qabc) rfl (CoL.refl _) ?_ (fun σ => rfl)) | fail)
    all_goals rfl
 ·have hF : qaf0 p = qafi p := by unfold qaf0; rw [if_pos h0]
  have hL : qam7 p = [] := by unfold qam7; rw [hF, if_pos h0]
  rw [hF, hL]
  have kc : ((qafi p).1 != 0) = true := by simpa using h0
  generalize qafi p = C at hc kc
  replace hc := Lib.hid hc
  clear hF hL h0
  repeat' (first | (with_reducible first | refine zA ?_ | refine zK ?_) | ((with_reducible first | refine qaac ?_ | refine qaa4 (by rw [hP]; exact qacr) ?_); (try rw [hP]); simp -implicitDefEqProofs [*]) | ((with_reducible refine qaam ?_); (try simp only [qaap, qaag, qaai])) | ((with_reducible refine qaaa rfl (fun h => ?_) (fun h => ?_)) <;> have h' := h <;> (try simp at h') <;> (try subst h')) | (refine qaay (hc.out _) ?_; simp -implicitDefEqProofs [*]) | (refine qafk hm (by decide) rfl (Co.nilsl 5) (qadw _ _) rfl rfl (by rw [hP]; exact qabn) (by rw [hP]; exact qabc) rfl (CoL.refl _) rfl (fun σ => rfl)) | fail)
end Go.Proofs.Yticeaegpkpjjeaa
namespace Go.Proofs.Yticeaegpkpjjeaa
set_option linter.all false
open Go.RowKit
attribute [local simp] qabg qabf qaas qaa3 qaat qaa2 qabd qabe qaan qabo SOp.run SX.ev putd puts argS upds SOp.touch SSt.keep SSt.skip gets geth puth delh idOf SV.cells? setL qac6 qac7 sbin eq0 eq1 eqL qac1 qab1 qab2 qaap qabh qaag qabi qabp qaai qaao FrzOk qaa7 qaa0 qaa5 qaa6 qaau qaaz qabl qaa1 qaaw qaa8 qaav frzS frzH frz frz1 frz0 SlotsM ObjsM ObjM rn ren ren1 ren0 qabt qab6 qab9 qabs qabm qaca qab8 CoL qaa9 qacb dels adds idsH qabx
attribute [local simp] qadr refc qael qaed qab7 opc actc tabc qady qacl nums
theorem qblr (S : BitVec 64) : ((S.toNat : Int) != 18446744073709551615) = !(S == 18446744073709551615#64) := by
 rw [bne, qbe3]
set_option maxHeartbeats 4000000 in
theorem rflow_s (p : PlanD) (hs : SmallP p) (q : Nat) : SCalls Try.prog 17 [.agg (qacl p)] [] q (.tup [.view 1 ((qag5 p).map bvc), .agg [.int .i64 (qahr p).1, .int .i64 (qahr p).2]]) [] := by
 refine qabj ?_ (fun _ => rfl) (fun _ => rfl) rfl q
 refine qaax (N := 74) Try.func17 rfl rfl (by kernel_rfl) qaof (by simp) (by repeat' (first | exact trivial | refine And.intro ?_ ?_ | rfl | decide | exact PureR.ren _)) (by repeat' (first | exact trivial | refine And.intro ?_ ?_ | rfl | decide | exact PureR.ren _)) ?_
 rintro X hP hN hm
 unfold c_rflow
 have hc := fun q => rwalk_s p hs q
 have hns := hs.nodes
 by_cases h0 : (qaf0 p).1 = 0
 ·have hpz : (qafi p).1 = 0 := by
   by_cases hz : (qafi p).1 = 0
   ·exact hz
   ·unfold qaf0 at h0; rw [if_pos hz] at h0; exact absurd h0 hz
  have hp := qbfm hpz
  have hf := fok_of hpz
  have hwl : qam7 p = qafx p := by unfold qam7; rw [if_neg (by simpa using h0)]
  have hF : qahr p = qafp p := by unfold qahr; rw [if_neg (by simpa using h0)]
  have hL : qag5 p = if (qafp p).1 ≠ 0 then [] else atGo p (qadi p) p.nodes.length := by unfold qag5; rw [hF]
  rw [hF, hL]
  rw [hwl] at hc
  have hF0 : qafp p = rowF (fun i n => qatj p i n) 6000 0 (p.nodes.drop 0) := rfl
  generalize qafp p = F at hF0
  have kc : ((qaf0 p).1 != 0) = false := by simpa using h0
  generalize qaf0 p = C at hc kc
  have hgs : (qafx p)[p.states.length]? = some (setAt p p.states.length) := by
   have : p.states.length < (qafx p).length := by unfold qafx; rw [qacw]; omega
   unfold setAt; rw [List.getD_eq_getElem?_getD, List.getElem?_eq_getElem this]; rfl
  have hsl : (qafx p).length = p.states.length + 1 := by unfold qafx; rw [qacw]
  have hst : qadi p = if (setAt p p.states.length).there then (setAt p p.states.length).must else allB := rfl
  generalize setAt p p.states.length = y at hgs hst
  have hsur := fun m hm q => rsure_s p hf hp hs (qadi p) m hm q
  have hnod := fun i hi m q => qa5k p hf hp hs i hi m q
  have hrow : ∀ m, m ≤ p.nodes.length → ((atGo p (qadi p) p.nodes.length).take (m + 1)).map bvc = ((atGo p (qadi p) p.nodes.length).take m).map bvc ++ [bvc (qahh p (qadi p) m m)] := fun m hm => by rw [qbjm hf (qadi p) hm, List.map_append]; rfl
  have hrl : ∀ m, m ≤ p.nodes.length + 1 → (((atGo p (qadi p) p.nodes.length).take m).map bvc).length = m := fun m hm => by rw [List.length_map, List.length_take, qado]; omega
  have hall := congrArg (List.map bvc) (row_all p (qadi p))
  have hnc : ∀ (i : Nat) (n : NodeD), qatj p i n = if qahh p (qadi p) i i = allB then 0 else if qacx p n (qahh p (qadi p) i i) = true then 12 else 0 := fun i n => rfl
  have hgs2 : (qafx p)[p.states.length]'(by omega) = y := by rw [List.getElem?_eq_getElem (by omega)] at hgs; exact Option.some.inj hgs
  generalize qadi p = S at hst hsur hnod hrow hrl hall hnc ⊢
  replace hF0 := Lib.hid hF0
  replace hc := Lib.hid hc
  replace hf := Lib.hid hf
  replace hp := Lib.hid hp
  replace hst := Lib.hid hst
  replace hsur := Lib.hid hsur
  replace hnod := Lib.hid hnod
  replace hrow := Lib.hid hrow
  replace hrl := Lib.hid hrl
  replace hall := Lib.hid hall
  replace hnc := Lib.hid hnc
  clear hF hL h0 hwl hpz
  have loopL : SWp X (SCode.block 0 c_rflow_l1.loop) (QSeq X ((SCode.reg false qagt [2, 3]).seq SCode.ret) (QFun X [ResultVar.tmp 2, ResultVar.cell 3 35] 0 (SV.tup [SV.view 1 (List.map bvc (if F.1 ≠ 0 then [] else atGo p S p.nodes.length)), SV.agg [.int .i64 F.1, .int .i64 F.2]]) []))
    ⟨[(1, .ptr 0 0), (3, .ptr 2 0), (6, .int .u64 S.toNat), (7, .own 5 0), (8, .int .i64 0)], [(0, .cells 29 (qacl p)), (2, .cells 35 [.int .i64 0, .int .i64 0]), (5, .row 39 1 [])], 6⟩ := by
   refine qaal (qabb (fun s (m : Nat) => s.turn [(7, .own 5 m), (8, .int .i64 m)] [(5, .row 39 1 (((atGo p S p.nodes.length).take m).map bvc))]) (fun m => m ≤ p.nodes.length + 1 ∧ F = rowF (fun i n => qatj p i n) 6000 m (p.nodes.drop m)) (fun m => p.nodes.length + 1 - m) 0 ?_ ⟨by simp, hF0.out⟩ ?_)
   ·repeat' (first | ((with_reducible refine qaah [] hm ?_ ?_ ?_ ?_) <;> (try simp only [zT, puth, Nat.reduceEqDiff, reduceIte, Nat.reduceAdd])) | (with_reducible first | refine za ?_ ?_ | refine zb ?_ ?_ ?_ ?_ | refine zc ?_ ?_ ?_ ?_) | (with_reducible first | exact qaab | exact qaad) | ((with_reducible first | refine zga ?_ | refine zgb ?_); rfl) | ((with_reducible refine zgc ?_); (first | (with_reducible rfl) | rfl | (simp; done))) | ((with_reducible refine zgd ?_); (first | omega | (simp; done))) | (exact Co.refl _) | (exact CoL.refl _) | fail)
   rintro J hJ m ⟨h1, h2⟩
   unfold c_rflow_l1
   simp only [zT, puth, Nat.reduceEqDiff, reduceIte, Nat.reduceAdd] at h1 h2 ⊢
   clear hF0
   have wm : IntKind.i64.wrap ((m : Int) + 1) = (m : Int) + 1 := qaaq (by omega) (by omega)
   have w6 : IntKind.i64.wrap (6000 + (m : Int)) = 6000 + (m : Int) := qaaq (by omega) (by omega)
   have hlen := hrl.out m h1
   have hb2 : m + 1 ≤ maxLen := by unfold maxLen; omega
   rcases Nat.lt_or_ge m (p.nodes.length + 1) with hm1 | hm1
   ·have kx : decide ((m : Int) ≤ (p.nodes.length : Int)) = true := by simp; omega
    have kx2 : m ≤ p.nodes.length := by omega
    have hrw := hrow.out m (by omega)
    have hs1 := fun q => hsur.out m (by omega) q
    generalize hRR : ((atGo p S p.nodes.length).take m).map bvc = RR at hlen hrw ⊢
    replace hRR := Lib.hid hRR
    rcases Nat.lt_or_ge m p.nodes.length with hmn | hmn
    ·rw [qadf _ _ hmn, hnc.out] at h2
     have hn1 := fun q => hnod.out m hmn (qahh p S m m) q
     generalize qahh p S m m = M at h2 hrw hs1 hn1
     generalize hxx : p.nodes[m] = x at h2 hn1
     have ks' := qblr M
     replace hs1 := Lib.hid hs1
     replace hn1 := Lib.hid hn1
     replace hrw := Lib.hid hrw
     cases ks : (M == 18446744073709551615#64)
     ·rw [ks] at ks'
      rw [if_neg (show ¬ M = allB from fun h => by rw [h] at ks; exact absurd ks (by decide))] at h2
      cases kb : qacx p x M
      ·rw [kb, if_neg (by decide)] at h2
       replace h2 : F = rowF (fun i n => qatj p i n) 6000 (m + 1) (p.nodes.drop (m + 1)) := h2
       replace h2 := Lib.hid h2
       replace kb := Lib.hid kb
       have hn2 := fun q => hn1.out q
       rw [kb.out] at hn2
       replace hn2 := Lib.hid hn2
       repeat' (first | (with_reducible first | refine zA ?_ | refine qaae ?_) | ((with_reducible refine qaac ?_); (try rw [hP]); simp -implicitDefEqProofs [*]) | ((with_reducible refine qaaf ?_); (try simp -implicitDefEqProofs [*])) | ((with_reducible refine qaaa rfl (fun h => ?_) (fun h => ?_)) <;> have h' := h <;> (try simp at h') <;> (try subst h')) | ((with_reducible refine qabq ?_ ?_); (first | omega | (unfold maxLen; omega)); simp -implicitDefEqProofs [*]) | ((first | refine qaay (hs1.out _) ?_ | refine qaay (hn2.out _) ?_); simp -implicitDefEqProofs [*]) | (with_reducible first | refine za ?_ ?_ | refine zb ?_ ?_ ?_ ?_ | refine zc ?_ ?_ ?_ ?_) | (with_reducible first | exact qaab | exact qaad) | ((with_reducible first | refine zga ?_ | refine zgb ?_); rfl) | ((with_reducible first | refine zgd ?_ | refine zge ?_); (first | omega | (simp; done))) | (exact Co.refl _) | (exact CoL.refl _) | ((refine qaaj hJ (m + 1) ?_ ?_ ?_; (with_reducible refine qaah [(5, ?_)] hm ?_ ?_ ?_ ?_) <;> (try simp only [zT, puth, Nat.reduceEqDiff, reduceIte, Nat.reduceAdd]))) | fail)
       all_goals first | (exact ⟨by omega, h2.out⟩) | (exact hrw.out.symm) | trace_state
      ·rw [kb, if_pos rfl, if_pos (by decide)] at h2
       subst h2
       replace kb := Lib.hid kb
       have hn2 := fun q => hn1.out q
       rw [kb.out] at hn2
       replace hn2 := Lib.hid hn2
       repeat' (first | (with_reducible first | refine zA ?_ | refine qaae ?_) | ((with_reducible refine qaac ?_); (try rw [hP]); simp -implicitDefEqProofs [*]) | ((with_reducible refine qaaf ?_); (try simp -implicitDefEqProofs [*])) | ((with_reducible refine qaam ?_); (try simp only [qaap, qaag, qaai])) | ((with_reducible refine qaaa rfl (fun h => ?_) (fun h => ?_)) <;> have h' := h <;> (try simp at h') <;> (try subst h')) | ((first | refine qaay (hs1.out _) ?_ | refine qaay (hn2.out _) ?_ | refine qaay (rF_s _ _ _) ?_); simp -implicitDefEqProofs [*]) | (refine qafk hm (by decide) rfl (Co.nilsl 1) (qadw _ _) rfl rfl (by rw [hP]; exact qabn) (by rw [hP]; exact qabc) rfl (CoL.refl _) rfl (fun σ => rfl)) | fail)
       all_goals trace_state
     ·rw [ks] at ks'
      rw [if_pos (show M = allB from beq_iff_eq.1 ks), if_neg (by decide)] at h2
      replace h2 := Lib.hid h2
      repeat' (first | (with_reducible first | refine zA ?_ | refine qaae ?_) | ((with_reducible refine qaac ?_); (try rw [hP]); simp -implicitDefEqProofs [*]) | ((with_reducible refine qaaf ?_); (try simp -implicitDefEqProofs [*])) | ((with_reducible refine qaaa rfl (fun h => ?_) (fun h => ?_)) <;> have h' := h <;> (try simp at h') <;> (try subst h')) | ((with_reducible refine qabq ?_ ?_); (first | omega | (unfold maxLen; omega)); simp -implicitDefEqProofs [*]) | (refine qaay (hs1.out _) ?_; simp -implicitDefEqProofs [*]) | (with_reducible first | refine za ?_ ?_ | refine zb ?_ ?_ ?_ ?_ | refine zc ?_ ?_ ?_ ?_) | (with_reducible first | exact qaab | exact qaad) | ((with_reducible first | refine zga ?_ | refine zgb ?_); rfl) | ((with_reducible first | refine zgd ?_ | refine zge ?_); (first | omega | (simp; done))) | (exact Co.refl _) | (exact CoL.refl _) | ((refine qaaj hJ (m + 1) ?_ ?_ ?_; (with_reducible refine qaah [(5, ?_)] hm ?_ ?_ ?_ ?_) <;> (try simp only [zT, puth, Nat.reduceEqDiff, reduceIte, Nat.reduceAdd]))) | fail)
      all_goals first | (exact ⟨by omega, h2.out⟩) | (exact hrw.out.symm) | trace_state
    ·obtain rfl : m = p.nodes.length := by omega
     have hb3 : p.nodes.length + 1 ≤ maxLen := hb2
     generalize qahh p S p.nodes.length p.nodes.length = M at hrw hs1
     rw [List.drop_length] at h2
     have h3 : F = (0, 0) := h2
     have h4 : F = rowF (fun i n => qatj p i n) 6000 (p.nodes.length + 1) (p.nodes.drop (p.nodes.length + 1)) := by rw [List.drop_eq_nil_of_le (by omega)]; exact h3
     replace hs1 := Lib.hid hs1
     replace hrw := Lib.hid hrw
     replace h4 := Lib.hid h4
     clear h2 h3
     repeat' (first | (with_reducible first | refine zA ?_ | refine qaae ?_) | ((with_reducible refine qaac ?_); (try rw [hP]); simp -implicitDefEqProofs [*]) | ((with_reducible refine qaaf ?_); (try simp -implicitDefEqProofs [*])) | ((with_reducible refine qaaa rfl (fun h => ?_) (fun h => ?_)) <;> have h' := h <;> (try simp at h') <;> (try subst h')) | ((with_reducible refine qabq ?_ ?_); (first | omega | (unfold maxLen; omega)); simp -implicitDefEqProofs [*]) | (refine qaay (hs1.out _) ?_; simp -implicitDefEqProofs [*]) | (with_reducible first | refine za ?_ ?_ | refine zb ?_ ?_ ?_ ?_ | refine zc ?_ ?_ ?_ ?_) | (with_reducible first | exact qaab | exact qaad) | ((with_reducible first | refine zga ?_ | refine zgb ?_); rfl) | ((with_reducible first | refine zgd ?_ | refine zge ?_); (first | omega | (simp; done))) | (exact Co.refl _) | (exact CoL.refl _) | ((refine qaaj hJ (p.nodes.length + 1) ?_ ?_ ?_; (with_reducible refine qaah [(5, ?_)] hm ?_ ?_ ?_ ?_) <;> (try simp only [zT, puth, Nat.reduceEqDiff, reduceIte, Nat.reduceAdd]))) | fail)
     all_goals first | (exact ⟨by omega, h4.out⟩) | (exact hrw.out.symm) | trace_state
   ·obtain rfl : m = p.nodes.length + 1 := by omega
    rw [List.drop_eq_nil_of_le (by omega)] at h2
    have h3 : F = (0, 0) := h2
    subst h3
    clear h2 hJ
    rw [hall.out] at hlen ⊢
    have kx : decide (p.nodes.length + 1 ≤ p.nodes.length) = false := by simp
    have kx2 : decide ((p.nodes.length : Int) + 1 ≤ (p.nodes.length : Int)) = false := by simp; omega
    repeat' (first | ((with_reducible refine qacj (c := .seq (.reg false qagt [2, 3]) .ret) ?_)) | (with_reducible refine zA ?_) | ((with_reducible refine qaac ?_); (try rw [hP]); simp -implicitDefEqProofs [*]) | ((with_reducible refine qaak ?_); (try simp -implicitDefEqProofs [*])) | ((with_reducible refine qaaa rfl (fun h => ?_) (fun h => ?_)) <;> have h' := h <;> (try simp at h') <;> (try subst h')) | fail)
    constructor
    refine qads [5] ?_ ?_
    ·simp only [FrzOk, geth, Nat.reduceEqDiff, reduceIte, qad8, and_true]
    have htk : ((atGo p S p.nodes.length).map bvc).take (p.nodes.length + 1) = (atGo p S p.nodes.length).map bvc := List.take_of_length_le (by rw [hlen]; exact Nat.le_refl _)
    simp -implicitDefEqProofs [htk, hlen, Nat.le_refl]
    repeat' (first | (with_reducible refine zA ?_) | ((with_reducible refine qaac ?_); (try rw [hP]); simp -implicitDefEqProofs [*]) | ((with_reducible refine qaam ?_); (try simp only [qaap, qaag, qaai])) | (refine qafk hm (by decide) rfl (Co.refl _) (qadw _ _) rfl rfl (by rw [hP]; exact qabn) (by rw [hP]; exact qabc) rfl (CoL.refl _) ?_ (fun σ => rfl)) | fail)
    all_goals rfl
  simp only [ne_eq, ite_not] at loopL
  replace loopL := Lib.hid loopL
  cases hth : y.there
  ·have hS : S = allB := by rw [hst.out, if_neg (by rw [hth]; decide)]
   replace hS := Lib.hid hS
   repeat' (first | (with_reducible refine zA ?_) | ((with_reducible refine qaac ?_); (try rw [hP]); simp -implicitDefEqProofs [setc, *]) | ((with_reducible refine qaaf ?_); (try simp -implicitDefEqProofs [setc, *])) | ((with_reducible refine qaaa rfl (fun h => ?_) (fun h => ?_)) <;> have h' := h <;> (try simp at h') <;> (try subst h')) | ((with_reducible refine qabq ?_ ?_); (first | omega | (unfold maxLen; omega)); simp -implicitDefEqProofs [setc, *]) | (refine qaay (hc.out _) ?_; simp -implicitDefEqProofs [setc, *]) | fail)
   refine qacs (qaen 7 39 1 rfl) ?_
   simp only [zT, puth, Nat.reduceEqDiff, reduceIte, Nat.reduceAdd]
   refine qacs (qaah [(5, 31)] hm ?_ ?_ rfl (by simp)) loopL.out
   ·repeat' (first | (with_reducible refine za ?_ ?_) | (with_reducible exact qaab) | (exact Co.refl _) | fail)
    all_goals first | (rw [hS.out]; exact Co.refl (.int .u64 18446744073709551615)) | (rw [hS.out]; exact Co.refl _) | trace_state
   ·repeat' (first | (with_reducible first | refine zb ?_ ?_ ?_ ?_ | refine zc ?_ ?_ ?_ ?_) | (with_reducible exact qaad) | ((with_reducible refine zga ?_); rfl) | ((with_reducible refine zgc ?_); (first | (with_reducible rfl) | rfl | (simp; done))) | (exact CoL.refl _) | fail)
    all_goals trace_state
  ·have hS : S = y.must := by rw [hst.out, if_pos hth]
   replace hS := Lib.hid hS
   repeat' (first | (with_reducible refine zA ?_) | ((with_reducible refine qaac ?_); (try rw [hP]); simp -implicitDefEqProofs [setc, *]) | ((with_reducible refine qaaf ?_); (try simp -implicitDefEqProofs [setc, *])) | ((with_reducible refine qaaa rfl (fun h => ?_) (fun h => ?_)) <;> have h' := h <;> (try simp at h') <;> (try subst h')) | ((with_reducible refine qabq ?_ ?_); (first | omega | (unfold maxLen; omega)); simp -implicitDefEqProofs [setc, *]) | (refine qaay (hc.out _) ?_; simp -implicitDefEqProofs [setc, *]) | fail)
   refine qacs (qaen 7 39 1 rfl) ?_
   simp only [zT, puth, Nat.reduceEqDiff, reduceIte, Nat.reduceAdd]
   refine qacs (qaah [(5, 39)] hm ?_ ?_ rfl (by simp)) loopL.out
   ·repeat' (first | (with_reducible refine za ?_ ?_) | (with_reducible exact qaab) | (exact Co.refl _) | fail)
    all_goals first | (rw [hS.out]; exact Co.refl (.int .u64 18446744073709551615)) | (rw [hS.out]; exact Co.refl _) | trace_state
   ·repeat' (first | (with_reducible first | refine zb ?_ ?_ ?_ ?_ | refine zc ?_ ?_ ?_ ?_) | (with_reducible exact qaad) | ((with_reducible refine zga ?_); rfl) | ((with_reducible refine zgc ?_); (first | (with_reducible rfl) | rfl | (simp; done))) | (exact CoL.refl _) | fail)
    all_goals trace_state
 ·have hF : qahr p = qaf0 p := by unfold qahr; rw [if_pos h0]
  have hL : qag5 p = [] := by unfold qag5; rw [hF, if_pos h0]
  rw [hF, hL]
  have kc : ((qaf0 p).1 != 0) = true := by simpa using h0
  generalize qaf0 p = C at hc kc
  generalize qam7 p = WL at hc
  replace hc := Lib.hid hc
  clear hF hL h0
  repeat' (first | (with_reducible first | refine zA ?_ | refine zK ?_) | ((with_reducible first | refine qaac ?_ | refine qaa4 (by rw [hP]; exact qacr) ?_); (try rw [hP]); simp -implicitDefEqProofs [setc, *]) | ((with_reducible refine qaam ?_); (try simp only [qaap, qaag, qaai])) | ((with_reducible refine qaaa rfl (fun h => ?_) (fun h => ?_)) <;> have h' := h <;> (try simp at h') <;> (try subst h')) | (refine qaay (hc.out _) ?_; simp -implicitDefEqProofs [setc, *]) | (refine qafk hm (by decide) rfl (Co.nilsl 1) (qadw _ _) rfl rfl (by rw [hP]; exact qabn) (by rw [hP]; exact qabc) rfl (CoL.refl _) rfl (fun σ => rfl)) | fail)
end Go.Proofs.Yticeaegpkpjjeaa
namespace Go.Proofs.Yticeaegpkpjjeaa
set_option linter.all false
open Go.RowKit
attribute [local simp] qabg qabf qaas qaa3 qaat qaa2 qabd qabe qaan qabo SOp.run SX.ev putd puts argS upds SOp.touch SSt.keep SSt.skip gets geth puth delh idOf SV.cells? setL qac6 qac7 sbin eq0 eq1 eqL qac1 qab1 qab2 qaap qabh qaag qabi qabp qaai qaao FrzOk qaa7 qaa0 qaa5 qaa6 qaau qaaz qabl qaa1 qaaw qaa8 qaav frzS frzH frz frz1 frz0 SlotsM ObjsM ObjM rn ren ren1 ren0 qabt qab6 qab9 qabs qabm qaca qab8 CoL qaa9 qacb dels adds idsH qabx
instance pureR_nil : PureR [] := ⟨fun _ => rfl, fun x hx => (by cases hx), fun x hx => (by cases hx)⟩
end Go.Proofs.Yticeaegpkpjjeaa
namespace Go.Proofs.Yticeaegpkpjjeaa
set_option linter.all false
open Go.RowKit
attribute [local simp] qabg qabf qaas qaa3 qaat qaa2 qabd qabe qaan qabo SOp.run SX.ev putd puts argS upds SOp.touch SSt.keep SSt.skip gets geth puth delh idOf SV.cells? setL qac6 qac7 sbin eq0 eq1 eqL qac1 qab1 qab2 qaap qabh qaag qabi qabp qaai qaao FrzOk qaa7 qaa0 qaa5 qaa6 qaau qaaz qabl qaa1 qaaw qaa8 qaav frzS frzH frz frz1 frz0 SlotsM ObjsM ObjM rn ren ren1 ren0 qabt qab6 qab9 qabs qabm qaca qab8 CoL qaa9 qacb dels adds idsH qabx
attribute [local simp] qadr refc qael qaed qab7 opc actc tabc qady qacl nums
def qbly (h : HeadD) : Bool := decide (500 < (h.w.length : Int))
def qakh (s : StateD) : Bool := decide (500 < (s.cases_.length : Int))
def gOp (o : OpD) : Bool := decide (500 < (o.e.length : Int))
def gAct (a : ActD) : Bool := decide (500 < (a.w.length : Int)) || decide (50 < (a.ops.length : Int)) || a.ops.any gOp
def gTab (t : TabD) : Bool := decide (500 < (t.keys.length : Int)) || decide (500 < (t.acts.length : Int)) || decide (500 < (t.args.length : Int))
def qana (n : NodeD) : Bool := decide (500 < (n.e.length : Int))
def gTop (p : PlanD) : Bool := decide (50 < (p.heads.length : Int)) || decide (500 < (p.meta_.length : Int)) || decide (50 < (p.states.length : Int)) || decide (50 < (p.acts.length : Int)) || decide (50 < (p.tabs.length : Int)) || decide (50 < (p.nodes.length : Int)) || decide (500 < (p.out.length : Int))
def qajs (p : PlanD) : Bool := gTop p || (p.heads.any qbly || (p.states.any qakh || (p.acts.any gAct || (p.tabs.any gTab || p.nodes.any qana))))
theorem qbje {p : PlanD} (h : qajs p = false) : SmallP p := by
 unfold qajs at h
 simp only [Bool.or_eq_false_iff, List.any_eq_false] at h
 obtain ⟨h0, h1, h2, h3, h4, h5⟩ := h
 unfold gTop at h0
 simp only [Bool.or_eq_false_iff, decide_eq_false_iff_not] at h0
 obtain ⟨⟨⟨⟨⟨⟨a1, a2⟩, a3⟩, a4⟩, a5⟩, a6⟩, a7⟩ := h0
 refine ⟨by omega, by omega, by omega, by omega, by omega, by omega, by omega, fun x hx => ?_, fun x hx => ?_, fun x hx => ?_, fun x hx => ?_, fun x hx o ho => ?_, fun x hx => ?_, fun x hx => ?_⟩
 ·have := h1 x hx; unfold qbly at this; rw [decide_eq_true_eq] at this; omega
 ·have := h2 x hx; unfold qakh at this; rw [decide_eq_true_eq] at this; omega
 ·have := h3 x hx; unfold gAct at this; simp only [Bool.or_eq_true, decide_eq_true_eq] at this; omega
 ·have := h3 x hx; unfold gAct at this; simp only [Bool.or_eq_true, decide_eq_true_eq] at this; omega
 ·have := h3 x hx; unfold gAct at this; simp only [Bool.or_eq_true, decide_eq_true_eq, List.any_eq_true, not_or] at this
  have q : ¬ gOp o = true := fun hg => this.2 ⟨o, ho, hg⟩
  unfold gOp at q; rw [decide_eq_true_eq] at q; omega
 ·have := h4 x hx; unfold gTab at this; simp only [Bool.or_eq_true, decide_eq_true_eq] at this; omega
 ·have := h5 x hx; unfold qana at this; rw [decide_eq_true_eq] at this; omega
set_option maxHeartbeats 8000000 in
theorem gplan_s (p : PlanD) (q : Nat) : SCalls Try.prog 9 [.agg (qacl p)] [] q (.bool (qajs p)) [] := by
 refine qabj ?_ (fun _ => rfl) (fun _ => rfl) rfl q
 refine qaax (N := 177) Try.func9 rfl rfl (by kernel_rfl) qaot (by simp) (by repeat' (first | exact trivial | refine And.intro ?_ ?_ | rfl | decide | exact PureR.ren _)) (by repeat' (first | exact trivial | refine And.intro ?_ ?_ | rfl | decide | exact PureR.ren _)) ?_
 rintro X hP hN hm
 unfold c_gplan
 cases hT : gTop p
 ·have hF : qajs p = ((p.heads.drop 0).any qbly || (p.states.any qakh || (p.acts.any gAct || (p.tabs.any gTab || p.nodes.any qana)))) := by unfold qajs; rw [hT]; rfl
  generalize qajs p = F at hF
  have a := hT
  unfold gTop at a
  simp only [Bool.or_eq_false_iff] at a
  obtain ⟨⟨⟨⟨⟨⟨a1, a2⟩, a3⟩, a4⟩, a5⟩, a6⟩, a7⟩ := a
  have b1 := of_decide_eq_false a1
  have b3 := of_decide_eq_false a3
  have b4 := of_decide_eq_false a4
  have b5 := of_decide_eq_false a5
  have b6 := of_decide_eq_false a6
  clear hT
  replace b1 := Lib.hid b1
  replace b3 := Lib.hid b3
  replace b4 := Lib.hid b4
  replace b5 := Lib.hid b5
  replace b6 := Lib.hid b6
  replace hF := Lib.hid hF
  repeat' (first | (with_reducible refine zA ?_) | ((with_reducible refine qaac ?_); (try rw [hP]); simp -implicitDefEqProofs [*]) | ((with_reducible refine qaaf ?_); (try simp -implicitDefEqProofs [*])) | ((with_reducible refine qaaa rfl (fun h => ?_) (fun h => ?_)) <;> have h' := h <;> (try simp at h') <;> (try subst h')) | fail)
  clear a1 a2 a3 a4 a5 a6 a7
  refine qaal (qabb (fun s (i : Nat) => s.turn [(3, .int .i64 i)] []) (fun i => i ≤ p.heads.length ∧ F = ((p.heads.drop i).any qbly || (p.states.any qakh || (p.acts.any gAct || (p.tabs.any gTab || p.nodes.any qana))))) (fun i => p.heads.length - i) 0 ?_ ⟨by simp, hF.out⟩ ?_)
  ·repeat' (first | ((with_reducible refine qaah [] hm ?_ ?_ ?_ ?_) <;> (try simp only [zT, puth, Nat.reduceEqDiff, reduceIte, Nat.reduceAdd])) | (with_reducible first | refine za ?_ ?_ | refine zb ?_ ?_ ?_ ?_) | (with_reducible first | exact qaab | exact qaad) | ((with_reducible first | refine zga ?_ | refine zgb ?_); rfl) | ((with_reducible refine zgd ?_); (first | omega | (simp; done))) | (exact Co.refl _) | (exact CoL.refl _) | fail)
  rintro J hJ i ⟨h1, h2⟩
  have hbb := b1.out
  clear hF
  unfold qamv
  simp only [zT, puth, Nat.reduceEqDiff, reduceIte, Nat.reduceAdd] at h1 h2 ⊢
  rcases Nat.lt_or_ge i p.heads.length with hi | hi
  ·rw [qadc _ hi] at h2
   generalize hxx : p.heads[i] = x at h2
   have wi : IntKind.i64.wrap ((i : Int) + 1) = (i : Int) + 1 := qaaq (by omega) (by omega)
   cases hv : qbly x <;> rw [hv] at h2 <;> replace h2 := Lib.hid h2 <;> unfold qbly at hv
   ·repeat' (first | (with_reducible first | refine zA ?_ | refine qaae ?_) | ((with_reducible refine qaac ?_); (try rw [hP]); simp -implicitDefEqProofs [qab5, *]) | ((with_reducible refine qaaf ?_); (try simp -implicitDefEqProofs [qab5, *])) | ((with_reducible refine qaaa rfl (fun h => ?_) (fun h => ?_)) <;> have h' := h <;> (try simp at h') <;> (try subst h')) | (with_reducible first | refine za ?_ ?_ | refine zb ?_ ?_ ?_ ?_) | (with_reducible first | exact qaab | exact qaad) | ((with_reducible first | refine zga ?_ | refine zgb ?_); rfl) | ((with_reducible first | refine zgd ?_ | refine zge ?_); (first | omega | (simp; done))) | (exact Co.refl _) | (exact CoL.refl _) | ((refine qaaj hJ (i + 1) ?_ ?_ ?_; (with_reducible refine qaah [] hm ?_ ?_ ?_ ?_) <;> (try simp only [zT, puth, Nat.reduceEqDiff, reduceIte, Nat.reduceAdd]))) | fail)
    exact ⟨by omega, by rw [h2.out, Bool.false_or]⟩
   ·repeat' (first | (with_reducible first | refine zA ?_ | refine qaae ?_) | ((with_reducible refine qaac ?_); (try rw [hP]); simp -implicitDefEqProofs [qab5, *]) | ((with_reducible refine qaaf ?_); (try simp -implicitDefEqProofs [qab5, *])) | ((with_reducible refine qaam ?_); (try simp only [qaap, qaag, qaai])) | ((with_reducible refine qaaa rfl (fun h => ?_) (fun h => ?_)) <;> have h' := h <;> (try simp at h') <;> (try subst h')) | (with_reducible refine zN hm ?_) | fail)
    rw [h2.out]; rfl
  ·obtain rfl : i = p.heads.length := by omega
   have hF : F = ((p.states.drop 0).any qakh || (p.acts.any gAct || (p.tabs.any gTab || p.nodes.any qana))) := by rw [h2, List.drop_length]; rfl
   clear h2 h1 hi hbb hJ
   replace hF := Lib.hid hF
   repeat' (first | (with_reducible refine zA ?_) | ((with_reducible refine qaac ?_); (try rw [hP]); simp -implicitDefEqProofs [*]) | ((with_reducible refine qaak ?_); (try simp -implicitDefEqProofs [*])) | ((with_reducible refine qaaa rfl (fun h => ?_) (fun h => ?_)) <;> have h' := h <;> (try simp at h') <;> (try subst h')) | fail)
   refine qaal (qabb (fun s (i : Nat) => s.turn [(4, .int .i64 i)] []) (fun i => i ≤ p.states.length ∧ F = ((p.states.drop i).any qakh || (p.acts.any gAct || (p.tabs.any gTab || p.nodes.any qana)))) (fun i => p.states.length - i) 0 ?_ ⟨by simp, hF.out⟩ ?_)
   ·repeat' (first | ((with_reducible refine qaah [] hm ?_ ?_ ?_ ?_) <;> (try simp only [zT, puth, Nat.reduceEqDiff, reduceIte, Nat.reduceAdd])) | (with_reducible first | refine za ?_ ?_ | refine zb ?_ ?_ ?_ ?_) | (with_reducible first | exact qaab | exact qaad) | ((with_reducible first | refine zga ?_ | refine zgb ?_); rfl) | ((with_reducible refine zgd ?_); (first | omega | (simp; done))) | (exact Co.refl _) | (exact CoL.refl _) | fail)
   rintro J hJ i ⟨h1, h2⟩
   have hbb := b3.out
   clear hF
   unfold qamu
   simp only [zT, puth, Nat.reduceEqDiff, reduceIte, Nat.reduceAdd] at h1 h2 ⊢
   rcases Nat.lt_or_ge i p.states.length with hi | hi
   ·rw [qadc _ hi] at h2
    generalize hxx : p.states[i] = x at h2
    have wi : IntKind.i64.wrap ((i : Int) + 1) = (i : Int) + 1 := qaaq (by omega) (by omega)
    cases hv : qakh x <;> rw [hv] at h2 <;> replace h2 := Lib.hid h2 <;> unfold qakh at hv
    ·repeat' (first | (with_reducible first | refine zA ?_ | refine qaae ?_) | ((with_reducible refine qaac ?_); (try rw [hP]); simp -implicitDefEqProofs [qab5, *]) | ((with_reducible refine qaaf ?_); (try simp -implicitDefEqProofs [qab5, *])) | ((with_reducible refine qaaa rfl (fun h => ?_) (fun h => ?_)) <;> have h' := h <;> (try simp at h') <;> (try subst h')) | (with_reducible first | refine za ?_ ?_ | refine zb ?_ ?_ ?_ ?_) | (with_reducible first | exact qaab | exact qaad) | ((with_reducible first | refine zga ?_ | refine zgb ?_); rfl) | ((with_reducible first | refine zgd ?_ | refine zge ?_); (first | omega | (simp; done))) | (exact Co.refl _) | (exact CoL.refl _) | ((refine qaaj hJ (i + 1) ?_ ?_ ?_; (with_reducible refine qaah [] hm ?_ ?_ ?_ ?_) <;> (try simp only [zT, puth, Nat.reduceEqDiff, reduceIte, Nat.reduceAdd]))) | fail)
     exact ⟨by omega, by rw [h2.out, Bool.false_or]⟩
    ·repeat' (first | (with_reducible first | refine zA ?_ | refine qaae ?_) | ((with_reducible refine qaac ?_); (try rw [hP]); simp -implicitDefEqProofs [qab5, *]) | ((with_reducible refine qaaf ?_); (try simp -implicitDefEqProofs [qab5, *])) | ((with_reducible refine qaam ?_); (try simp only [qaap, qaag, qaai])) | ((with_reducible refine qaaa rfl (fun h => ?_) (fun h => ?_)) <;> have h' := h <;> (try simp at h') <;> (try subst h')) | (with_reducible refine zN hm ?_) | fail)
     rw [h2.out]; rfl
   ·obtain rfl : i = p.states.length := by omega
    have hF : F = ((p.acts.drop 0).any gAct || (p.tabs.any gTab || p.nodes.any qana)) := by rw [h2, List.drop_length]; rfl
    clear h2 h1 hi hbb hJ
    replace hF := Lib.hid hF
    repeat' (first | (with_reducible refine zA ?_) | ((with_reducible refine qaac ?_); (try rw [hP]); simp -implicitDefEqProofs [*]) | ((with_reducible refine qaak ?_); (try simp -implicitDefEqProofs [*])) | ((with_reducible refine qaaa rfl (fun h => ?_) (fun h => ?_)) <;> have h' := h <;> (try simp at h') <;> (try subst h')) | fail)
    refine qaal (qabb (fun s (i : Nat) => s.turn [(5, .int .i64 i)] []) (fun i => i ≤ p.acts.length ∧ F = ((p.acts.drop i).any gAct || (p.tabs.any gTab || p.nodes.any qana))) (fun i => p.acts.length - i) 0 ?_ ⟨by simp, hF.out⟩ ?_)
    ·repeat' (first | ((with_reducible refine qaah [] hm ?_ ?_ ?_ ?_) <;> (try simp only [zT, puth, Nat.reduceEqDiff, reduceIte, Nat.reduceAdd])) | (with_reducible first | refine za ?_ ?_ | refine zb ?_ ?_ ?_ ?_) | (with_reducible first | exact qaab | exact qaad) | ((with_reducible first | refine zga ?_ | refine zgb ?_); rfl) | ((with_reducible refine zgd ?_); (first | omega | (simp; done))) | (exact Co.refl _) | (exact CoL.refl _) | fail)
    rintro J hJ i ⟨h1, h2⟩
    have hbb := b4.out
    have hJo := hJ
    clear hF
    unfold qams
    simp only [zT, puth, Nat.reduceEqDiff, reduceIte, Nat.reduceAdd] at h1 h2 ⊢
    rcases Nat.lt_or_ge i p.acts.length with hi | hi
    ·rw [qadc _ hi] at h2
     generalize hxx : p.acts[i] = x at h2
     have wi : IntKind.i64.wrap ((i : Int) + 1) = (i : Int) + 1 := qaaq (by omega) (by omega)
     unfold gAct at h2
     cases v1 : decide (500 < (x.w.length : Int)) <;> rw [v1] at h2
     rotate_left
     ·rw [Bool.true_or, Bool.true_or, Bool.true_or] at h2
      replace h2 := Lib.hid h2
      repeat' (first | (with_reducible first | refine zA ?_ | refine qaae ?_) | ((with_reducible refine qaac ?_); (try rw [hP]); simp -implicitDefEqProofs [*]) | ((with_reducible refine qaaf ?_); (try simp -implicitDefEqProofs [*])) | ((with_reducible refine qaam ?_); (try simp only [qaap, qaag, qaai])) | ((with_reducible refine qaaa rfl (fun h => ?_) (fun h => ?_)) <;> have h' := h <;> (try simp at h') <;> (try subst h')) | (with_reducible refine zN hm ?_) | fail)
      rw [h2.out]; rfl
     cases v2 : decide (50 < (x.ops.length : Int)) <;> rw [v2] at h2
     rotate_left
     ·rw [Bool.or_true, Bool.true_or, Bool.true_or] at h2
      replace h2 := Lib.hid h2
      repeat' (first | (with_reducible first | refine zA ?_ | refine qaae ?_) | ((with_reducible refine qaac ?_); (try rw [hP]); simp -implicitDefEqProofs [*]) | ((with_reducible refine qaaf ?_); (try simp -implicitDefEqProofs [*])) | ((with_reducible refine qaam ?_); (try simp only [qaap, qaag, qaai])) | ((with_reducible refine qaaa rfl (fun h => ?_) (fun h => ?_)) <;> have h' := h <;> (try simp at h') <;> (try subst h')) | (with_reducible refine zN hm ?_) | fail)
      rw [h2.out]; rfl
     have h3 : F = ((x.ops.drop 0).any gOp || ((p.acts.drop (i + 1)).any gAct || (p.tabs.any gTab || p.nodes.any qana))) := by rw [h2, Bool.or_assoc, Bool.or_assoc]; rfl
     have b2 := of_decide_eq_false v2
     replace h2 := Lib.hid h2
     replace h3 := Lib.hid h3
     replace b2 := Lib.hid b2
     repeat' (first | (with_reducible first | refine zA ?_ | refine qaae ?_) | ((with_reducible refine qaac ?_); (try rw [hP]); simp -implicitDefEqProofs [*]) | ((with_reducible refine qaaf ?_); (try simp -implicitDefEqProofs [*])) | ((with_reducible refine qaaa rfl (fun h => ?_) (fun h => ?_)) <;> have h' := h <;> (try simp at h') <;> (try subst h')) | fail)
     clear v1 v2
     refine qaal (qabb (fun s (k : Nat) => s.turn [(6, .int .i64 k)] []) (fun k => k ≤ x.ops.length ∧ F = ((x.ops.drop k).any gOp || ((p.acts.drop (i + 1)).any gAct || (p.tabs.any gTab || p.nodes.any qana)))) (fun k => x.ops.length - k) 0 ?_ ⟨by simp, h3.out⟩ ?_)
     ·repeat' (first | ((with_reducible refine qaah [] hm ?_ ?_ ?_ ?_) <;> (try simp only [zT, puth, Nat.reduceEqDiff, reduceIte, Nat.reduceAdd])) | (with_reducible first | refine za ?_ ?_ | refine zb ?_ ?_ ?_ ?_) | (with_reducible first | exact qaab | exact qaad) | ((with_reducible first | refine zga ?_ | refine zgb ?_); rfl) | ((with_reducible refine zgd ?_); (first | omega | (simp; done))) | (exact Co.refl _) | (exact CoL.refl _) | fail)
     rintro J hJ k ⟨h4, h5⟩
     have hb2 := b2.out
     unfold qamt
     simp only [zT, puth, Nat.reduceEqDiff, reduceIte, Nat.reduceAdd] at h4 h5 ⊢
     rcases Nat.lt_or_ge k x.ops.length with hk | hk
     ·rw [qadc _ hk] at h5
      generalize hyy : x.ops[k] = y at h5
      have wk1 : IntKind.i64.wrap ((k : Int) + 1) = (k : Int) + 1 := qaaq (by omega) (by omega)
      cases hv : gOp y <;> rw [hv] at h5 <;> replace h5 := Lib.hid h5 <;> unfold gOp at hv
      ·repeat' (first | (with_reducible first | refine zA ?_ | refine qaae ?_) | ((with_reducible refine qaac ?_); (try rw [hP]); simp -implicitDefEqProofs [qab5, *]) | ((with_reducible refine qaaf ?_); (try simp -implicitDefEqProofs [qab5, *])) | ((with_reducible refine qaaa rfl (fun h => ?_) (fun h => ?_)) <;> have h' := h <;> (try simp at h') <;> (try subst h')) | (with_reducible first | refine za ?_ ?_ | refine zb ?_ ?_ ?_ ?_) | (with_reducible first | exact qaab | exact qaad) | ((with_reducible first | refine zga ?_ | refine zgb ?_); rfl) | ((with_reducible first | refine zgd ?_ | refine zge ?_); (first | omega | (simp; done))) | (exact Co.refl _) | (exact CoL.refl _) | ((refine qaaj hJ (k + 1) ?_ ?_ ?_; (with_reducible refine qaah [] hm ?_ ?_ ?_ ?_) <;> (try simp only [zT, puth, Nat.reduceEqDiff, reduceIte, Nat.reduceAdd]))) | fail)
       exact ⟨by omega, by rw [h5.out, Bool.false_or]⟩
      ·repeat' (first | (with_reducible first | refine zA ?_ | refine qaae ?_) | ((with_reducible refine qaac ?_); (try rw [hP]); simp -implicitDefEqProofs [qab5, *]) | ((with_reducible refine qaaf ?_); (try simp -implicitDefEqProofs [qab5, *])) | ((with_reducible refine qaam ?_); (try simp only [qaap, qaag, qaai])) | ((with_reducible refine qaaa rfl (fun h => ?_) (fun h => ?_)) <;> have h' := h <;> (try simp at h') <;> (try subst h')) | (with_reducible refine zN hm ?_) | fail)
       rw [h5.out]; rfl
     ·obtain rfl : k = x.ops.length := by omega
      rw [List.drop_length] at h5
      replace h5 := Lib.hid h5
      repeat' (first | (with_reducible refine zA ?_) | ((with_reducible refine qaac ?_); (try rw [hP]); simp -implicitDefEqProofs [*]) | ((with_reducible refine qaak ?_); (try simp -implicitDefEqProofs [*])) | ((with_reducible refine qaaa rfl (fun h => ?_) (fun h => ?_)) <;> have h' := h <;> (try simp at h') <;> (try subst h')) | (with_reducible first | refine za ?_ ?_ | refine zb ?_ ?_ ?_ ?_) | (with_reducible first | exact qaab | exact qaad) | ((with_reducible first | refine zga ?_ | refine zgb ?_); rfl) | ((with_reducible first | refine zgd ?_ | refine zge ?_); (first | omega | (simp; done))) | (exact Co.refl _) | (exact CoL.refl _) | ((refine qaaj hJo (i + 1) ?_ ?_ ?_; (with_reducible refine qaah [] hm ?_ ?_ ?_ ?_) <;> (try simp only [zT, puth, Nat.reduceEqDiff, reduceIte, Nat.reduceAdd]))) | fail)
      exact ⟨by omega, by rw [h5.out]; rfl⟩
    ·obtain rfl : i = p.acts.length := by omega
     have hF : F = ((p.tabs.drop 0).any gTab || p.nodes.any qana) := by rw [h2, List.drop_length]; rfl
     clear h2 h1 hi hbb hJ hJo
     replace hF := Lib.hid hF
     repeat' (first | (with_reducible refine zA ?_) | ((with_reducible refine qaac ?_); (try rw [hP]); simp -implicitDefEqProofs [*]) | ((with_reducible refine qaak ?_); (try simp -implicitDefEqProofs [*])) | ((with_reducible refine qaaa rfl (fun h => ?_) (fun h => ?_)) <;> have h' := h <;> (try simp at h') <;> (try subst h')) | fail)
     refine qaal (qabb (fun s (i : Nat) => s.turn [(7, .int .i64 i)] []) (fun i => i ≤ p.tabs.length ∧ F = ((p.tabs.drop i).any gTab || p.nodes.any qana)) (fun i => p.tabs.length - i) 0 ?_ ⟨by simp, hF.out⟩ ?_)
     ·repeat' (first | ((with_reducible refine qaah [] hm ?_ ?_ ?_ ?_) <;> (try simp only [zT, puth, Nat.reduceEqDiff, reduceIte, Nat.reduceAdd])) | (with_reducible first | refine za ?_ ?_ | refine zb ?_ ?_ ?_ ?_) | (with_reducible first | exact qaab | exact qaad) | ((with_reducible first | refine zga ?_ | refine zgb ?_); rfl) | ((with_reducible refine zgd ?_); (first | omega | (simp; done))) | (exact Co.refl _) | (exact CoL.refl _) | fail)
     rintro J hJ i ⟨h1, h2⟩
     have hbb := b5.out
     clear hF
     unfold qamr
     simp only [zT, puth, Nat.reduceEqDiff, reduceIte, Nat.reduceAdd] at h1 h2 ⊢
     rcases Nat.lt_or_ge i p.tabs.length with hi | hi
     ·rw [qadc _ hi] at h2
      generalize hxx : p.tabs[i] = x at h2
      have wi : IntKind.i64.wrap ((i : Int) + 1) = (i : Int) + 1 := qaaq (by omega) (by omega)
      cases hv : gTab x <;> rw [hv] at h2 <;> replace h2 := Lib.hid h2
      ·unfold gTab at hv
       simp only [Bool.or_eq_false_iff] at hv
       obtain ⟨⟨v1, v2⟩, v3⟩ := hv
       repeat' (first | (with_reducible first | refine zA ?_ | refine qaae ?_) | ((with_reducible refine qaac ?_); (try rw [hP]); simp -implicitDefEqProofs [*]) | ((with_reducible refine qaaf ?_); (try simp -implicitDefEqProofs [*])) | ((with_reducible refine qaaa rfl (fun h => ?_) (fun h => ?_)) <;> have h' := h <;> (try simp at h') <;> (try subst h')) | (with_reducible first | refine za ?_ ?_ | refine zb ?_ ?_ ?_ ?_) | (with_reducible first | exact qaab | exact qaad) | ((with_reducible first | refine zga ?_ | refine zgb ?_); rfl) | ((with_reducible first | refine zgd ?_ | refine zge ?_); (first | omega | (simp; done))) | (exact Co.refl _) | (exact CoL.refl _) | ((refine qaaj hJ (i + 1) ?_ ?_ ?_; (with_reducible refine qaah [] hm ?_ ?_ ?_ ?_) <;> (try simp only [zT, puth, Nat.reduceEqDiff, reduceIte, Nat.reduceAdd]))) | fail)
       exact ⟨by omega, by rw [h2.out, Bool.false_or]⟩
      ·replace hv := Lib.hid hv
       repeat' (first | (with_reducible first | refine zA ?_ | refine qaae ?_) | ((with_reducible refine qaac ?_); (try rw [hP]); simp -implicitDefEqProofs [*]) | ((with_reducible refine qaaf ?_); (try simp -implicitDefEqProofs [*])) | ((with_reducible refine qaam ?_); (try simp only [qaap, qaag, qaai])) | ((with_reducible refine qaaa rfl (fun h => ?_) (fun h => ?_)) <;> have h' := h <;> (try simp at h') <;> (try subst h')) | ((with_reducible refine qaar (fun h => ?_) (fun h => ?_)) <;> have h' := h <;> (try simp at h') <;> (try subst h') <;> simp -implicitDefEqProofs [*]) | (with_reducible refine zN hm ?_) | (with_reducible first | refine za ?_ ?_ | refine zb ?_ ?_ ?_ ?_) | (with_reducible first | exact qaab | exact qaad) | ((with_reducible first | refine zga ?_ | refine zgb ?_); rfl) | ((with_reducible first | refine zgd ?_ | refine zge ?_); (first | omega | (simp; done))) | (exact Co.refl _) | (exact CoL.refl _) | ((refine qaaj hJ (i + 1) ?_ ?_ ?_; (with_reducible refine qaah [] hm ?_ ?_ ?_ ?_) <;> (try simp only [zT, puth, Nat.reduceEqDiff, reduceIte, Nat.reduceAdd]))) | fail)
       all_goals (first | (rw [h2.out]; rfl) | (exfalso; have q := hv.out; unfold gTab at q; simp only [Bool.or_eq_true, decide_eq_true_eq] at q; omega))
     ·obtain rfl : i = p.tabs.length := by omega
      have hF : F = ((p.nodes.drop 0).any qana || false) := by rw [h2, List.drop_length]; simp
      clear h2 h1 hi hbb hJ
      replace hF := Lib.hid hF
      repeat' (first | (with_reducible refine zA ?_) | ((with_reducible refine qaac ?_); (try rw [hP]); simp -implicitDefEqProofs [*]) | ((with_reducible refine qaak ?_); (try simp -implicitDefEqProofs [*])) | ((with_reducible refine qaaa rfl (fun h => ?_) (fun h => ?_)) <;> have h' := h <;> (try simp at h') <;> (try subst h')) | fail)
      refine qaal (qabb (fun s (i : Nat) => s.turn [(8, .int .i64 i)] []) (fun i => i ≤ p.nodes.length ∧ F = ((p.nodes.drop i).any qana || false)) (fun i => p.nodes.length - i) 0 ?_ ⟨by simp, hF.out⟩ ?_)
      ·repeat' (first | ((with_reducible refine qaah [] hm ?_ ?_ ?_ ?_) <;> (try simp only [zT, puth, Nat.reduceEqDiff, reduceIte, Nat.reduceAdd])) | (with_reducible first | refine za ?_ ?_ | refine zb ?_ ?_ ?_ ?_) | (with_reducible first | exact qaab | exact qaad) | ((with_reducible first | refine zga ?_ | refine zgb ?_); rfl) | ((with_reducible refine zgd ?_); (first | omega | (simp; done))) | (exact Co.refl _) | (exact CoL.refl _) | fail)
      rintro J hJ i ⟨h1, h2⟩
      have hbb := b6.out
      clear hF
      unfold qamq
      simp only [zT, puth, Nat.reduceEqDiff, reduceIte, Nat.reduceAdd] at h1 h2 ⊢
      rcases Nat.lt_or_ge i p.nodes.length with hi | hi
      ·rw [qadc _ hi] at h2
       generalize hxx : p.nodes[i] = x at h2
       have wi : IntKind.i64.wrap ((i : Int) + 1) = (i : Int) + 1 := qaaq (by omega) (by omega)
       cases hv : qana x <;> rw [hv] at h2 <;> replace h2 := Lib.hid h2 <;> unfold qana at hv
       ·repeat' (first | (with_reducible first | refine zA ?_ | refine qaae ?_) | ((with_reducible refine qaac ?_); (try rw [hP]); simp -implicitDefEqProofs [qab5, *]) | ((with_reducible refine qaaf ?_); (try simp -implicitDefEqProofs [qab5, *])) | ((with_reducible refine qaaa rfl (fun h => ?_) (fun h => ?_)) <;> have h' := h <;> (try simp at h') <;> (try subst h')) | (with_reducible first | refine za ?_ ?_ | refine zb ?_ ?_ ?_ ?_) | (with_reducible first | exact qaab | exact qaad) | ((with_reducible first | refine zga ?_ | refine zgb ?_); rfl) | ((with_reducible first | refine zgd ?_ | refine zge ?_); (first | omega | (simp; done))) | (exact Co.refl _) | (exact CoL.refl _) | ((refine qaaj hJ (i + 1) ?_ ?_ ?_; (with_reducible refine qaah [] hm ?_ ?_ ?_ ?_) <;> (try simp only [zT, puth, Nat.reduceEqDiff, reduceIte, Nat.reduceAdd]))) | fail)
        exact ⟨by omega, by rw [h2.out, Bool.false_or]⟩
       ·repeat' (first | (with_reducible first | refine zA ?_ | refine qaae ?_) | ((with_reducible refine qaac ?_); (try rw [hP]); simp -implicitDefEqProofs [qab5, *]) | ((with_reducible refine qaaf ?_); (try simp -implicitDefEqProofs [qab5, *])) | ((with_reducible refine qaam ?_); (try simp only [qaap, qaag, qaai])) | ((with_reducible refine qaaa rfl (fun h => ?_) (fun h => ?_)) <;> have h' := h <;> (try simp at h') <;> (try subst h')) | (with_reducible refine zN hm ?_) | fail)
        rw [h2.out]; rfl
      ·obtain rfl : i = p.nodes.length := by omega
       rw [List.drop_length] at h2
       replace h2 := Lib.hid h2
       repeat' (first | (with_reducible refine zA ?_) | ((with_reducible refine qaac ?_); (try rw [hP]); simp -implicitDefEqProofs [*]) | ((with_reducible refine qaak ?_); (try simp -implicitDefEqProofs [*])) | ((with_reducible refine qaam ?_); (try simp only [qaap, qaag, qaai])) | ((with_reducible refine qaaa rfl (fun h => ?_) (fun h => ?_)) <;> have h' := h <;> (try simp at h') <;> (try subst h')) | (with_reducible refine zN hm ?_) | fail)
       rw [h2.out]; rfl
 ·have hz : qajs p = true := by unfold qajs; rw [hT]; rfl
  rw [hz]
  replace hT := Lib.hid hT
  repeat' (first | (with_reducible refine zA ?_) | ((with_reducible refine qaac ?_); (try rw [hP]); simp -implicitDefEqProofs [*]) | ((with_reducible refine qaaf ?_); (try simp -implicitDefEqProofs [*])) | ((with_reducible refine qaam ?_); (try simp only [qaap, qaag, qaai])) | ((with_reducible refine qaaa rfl (fun h => ?_) (fun h => ?_)) <;> have h' := h <;> (try simp at h') <;> (try subst h')) | ((with_reducible refine qaar (fun h => ?_) (fun h => ?_)) <;> have h' := h <;> (try simp at h') <;> (try subst h') <;> simp -implicitDefEqProofs [*]) | (with_reducible refine zN hm ?_) | fail)
  all_goals (first | rfl | (exfalso; have q := hT.out; unfold gTop at q; simp only [Bool.or_eq_true, decide_eq_true_eq] at q; omega))
end Go.Proofs.Yticeaegpkpjjeaa
namespace Go.Proofs.Yticeaegpkpjjeaa
set_option linter.all false
open Go.RowKit
attribute [local simp] qabg qabf qaas qaa3 qaat qaa2 qabd qabe qaan qabo SOp.run SX.ev putd puts argS upds SOp.touch SSt.keep SSt.skip gets geth puth delh idOf SV.cells? setL qac6 qac7 sbin eq0 eq1 eqL qac1 qab1 qab2 qaap qabh qaag qabi qabp qaai qaao FrzOk qaa7 qaa0 qaa5 qaa6 qaau qaaz qabl qaa1 qaaw qaa8 qaav frzS frzH frz frz1 frz0 SlotsM ObjsM ObjM rn ren ren1 ren0 qabt qab6 qab9 qabs qabm qaca qab8 CoL qaa9 qacb dels adds idsH qabx
attribute [local simp] qadr refc qael qaed qab7 opc actc tabc qady qacl nums
theorem coL_at : ∀ {xs ys : List SV} {j : Nat} {y : SV}, CoL xs ys → ys[j]? = some y → ∃ x, xs[j]? = some x ∧ Co x y
 | x :: xs, y :: ys, 0, _, h, hy => by cases hy; exact ⟨x, rfl, h.1⟩
 | x :: xs, y :: ys, j + 1, _, h, hy => coL_at (xs := xs) (ys := ys) (j := j) h.2 (by simpa using hy)
 | [], [], _, _, _, hy => by simp at hy
 | [], _ :: _, _, _, h, _ => h.elim
 | _ :: _, [], _, _, h, _ => h.elim
theorem qbiy : ∀ {xs ys : List (List SV)} {j : Nat} {y : List SV}, CoLL xs ys → ys[j]? = some y → ∃ x, xs[j]? = some x ∧ CoL x y
 | x :: xs, y :: ys, 0, _, h, hy => by cases hy; exact ⟨x, rfl, h.1⟩
 | x :: xs, y :: ys, j + 1, _, h, hy => qbiy (xs := xs) (ys := ys) (j := j) h.2 (by simpa using hy)
 | [], [], _, _, _, hy => by simp at hy
 | [], _ :: _, _, _, h, _ => h.elim
 | _ :: _, [], _, _, h, _ => h.elim
theorem qbkq {z : Nat} {xs ys : List (List SV)} (h : CoLL xs ys) : Co (.view z xs) (.view z ys) := fun w A ρ v hv => by
 cases hv with
 | view0 hc ha =>
  have : ys = [] := List.eq_nil_of_length_eq_zero (by rw [← h.length]; rfl)
  subst this; exact .view0 hc ha
 | view cv hn hc hm hA hb hs h1 h2 ho =>
  refine .view cv (by rw [← h.length]; exact hn) hc hm hA hb (h.sizes hs) (fun i e j x he hx => ?_) (fun i e j x he hx => ?_) (fun i e j x he hx => ?_)
  all_goals
   obtain ⟨e', he', hl⟩ := qbiy h he
   obtain ⟨x', hx', hc'⟩ := coL_at hl hx
  ·exact h1 i e' j x' he' hx'
  ·exact hc' _ _ _ _ (h2 i e' j x' he' hx')
  ·exact ho i e' j x' he' hx'
end Go.Proofs.Yticeaegpkpjjeaa
namespace Go.Proofs.Yticeaegpkpjjeaa
set_option linter.all false
open Go.RowKit Go.ChangeShapes Go.WideShapes
attribute [local simp] qabg qabf qaas qaa3 qaat qaa2 qabd qabe qaan qabo SOp.run SX.ev putd puts argS upds SOp.touch SSt.keep SSt.skip gets geth puth delh idOf SV.cells? setL qac6 qac7 sbin eq0 eq1 eqL qac1 qab1 qab2 qaap qabh qaag qabi qabp qaai qaao FrzOk qaa7 qaa0 qaa5 qaa6 qaau qaaz qabl qaa1 qaaw qaa8 qaav frzS frzH frz frz1 frz0 SlotsM ObjsM ObjM rn ren ren1 ren0 qabt qab6 qab9 qabs qabm qaca qab8 CoL qaa9 qacb dels adds idsH qabx
attribute [local simp] qadr refc qael qaed qab7 opc actc tabc qady qacl nums
theorem opens_ref : Opens Try.prog 102 qahn := by
 have h : Opens Try.prog 102 (Lay.pair (Lay.int .i64) (Lay.int .i64)) :=
  Opens.struct Try.underlying102 (OpensF.cons opensI rfl (OpensF.one opensI rfl)) (by kernel_rfl) (by decide)
 refine h.weak rfl ?_
 rintro w ⟨a, b⟩ cs hr
 exact ⟨⟨a, b⟩, hr⟩
theorem opens_push : Opens Try.prog 137 qagy := by
 have h : Opens Try.prog 137 (Lay.pair i64L (Lay.pair qahn u64L)) :=
  Opens.struct Try.underlying137 (OpensF.cons opensI rfl (OpensF.cons opens_ref rfl (OpensF.one opensU rfl))) (by kernel_rfl) (by decide)
 refine h.weak rfl ?_
 rintro w ⟨a, b, c⟩ cs hr
 exact ⟨⟨a, b, c⟩, hr⟩
theorem qakc : Opens Try.prog 23 (Lay.slice (Lay.int .i64)) := opensI.slice Try.underlying23 (by kernel_rfl)
theorem opens_head : Opens Try.prog 100 qakg := by
 have h : Opens Try.prog 100 (Lay.slice i64L) :=
  Opens.struct Try.underlying100 (OpensF.one qakc rfl) (by kernel_rfl) (by decide)
 refine h.weak rfl ?_
 rintro w a cs hr
 exact ⟨⟨a⟩, hr⟩
theorem opens_case : Opens Try.prog 176 qak7 := by
 have h : Opens Try.prog 176 (Lay.pair u64L (Lay.pair u64L i64L)) :=
  Opens.struct Try.underlying176 (OpensF.cons opensU rfl (OpensF.cons opensU rfl (OpensF.one opensI rfl))) (by kernel_rfl) (by decide)
 refine h.weak rfl ?_
 rintro w ⟨a, b, c⟩ cs hr
 exact ⟨⟨a, b, c⟩, hr⟩
set_option maxRecDepth 20000 in
theorem opens_state : Opens Try.prog 105 qahi := by
 have h : Opens Try.prog 105 (Lay.pair i64L (Lay.pair qahn (Lay.pair (Lay.slice qak7) i64L))) :=
  Opens.struct Try.underlying105 (OpensF.cons opensI rfl (OpensF.cons opens_ref rfl (OpensF.cons (opens_case.slice Try.underlying103 (by kernel_rfl)) rfl (OpensF.one opensI rfl)))) (by kernel_rfl) (by decide)
 refine h.weak rfl ?_
 rintro w ⟨a, b, c, d⟩ cs hr
 exact ⟨⟨a, b, c, d⟩, hr⟩
theorem qaho : Opens Try.prog 109 (Lay.slice qagy) := opens_push.slice Try.underlying109 (by kernel_rfl)
set_option maxRecDepth 20000 in
theorem opens_op : Opens Try.prog 111 opLay := by
 have h : Opens Try.prog 111 (Lay.pair i64L (Lay.pair qahn (Lay.pair i64L (Lay.slice qagy)))) :=
  Opens.struct Try.underlying111 (OpensF.cons opensI rfl (OpensF.cons opens_ref rfl (OpensF.cons opensI rfl (OpensF.one qaho rfl)))) (by kernel_rfl) (by decide)
 refine h.weak rfl ?_
 rintro w ⟨a, b, c, d⟩ cs hr
 exact ⟨⟨a, b, c, d⟩, hr⟩
set_option maxRecDepth 20000 in
theorem opens_act : Opens Try.prog 108 qbe5 := by
 have h : Opens Try.prog 108 (Lay.pair (Lay.slice i64L) (Lay.slice opLay)) :=
  Opens.struct Try.underlying108 (OpensF.cons qakc rfl (OpensF.one (opens_op.slice Try.underlying106 (by kernel_rfl)) rfl)) (by kernel_rfl) (by decide)
 refine h.weak rfl ?_
 rintro w ⟨a, b⟩ cs hr
 exact ⟨⟨a, b⟩, hr⟩
set_option maxRecDepth 20000 in
theorem opens_tab : Opens Try.prog 114 qa41 := by
 have h : Opens Try.prog 114 (Lay.pair i64L (Lay.pair (Lay.slice qahn) (Lay.pair (Lay.slice i64L) (Lay.pair i64L (Lay.pair i64L (Lay.slice u64L)))))) :=
  Opens.struct Try.underlying114 (OpensF.cons opensI rfl (OpensF.cons (opens_ref.slice Try.underlying112 (by kernel_rfl)) rfl (OpensF.cons qakc rfl (OpensF.cons opensI rfl (OpensF.cons opensI rfl (OpensF.one opensN rfl)))))) (by kernel_rfl) (by decide)
 refine h.weak rfl ?_
 rintro w ⟨a, b, c, d, e, f⟩ cs hr
 exact ⟨⟨a, b, c, d, e, f⟩, hr⟩
set_option maxRecDepth 20000 in
theorem opens_node : Opens Try.prog 116 qake := by
 have h : Opens Try.prog 116 (Lay.pair i64L (Lay.pair i64L (Lay.pair (Lay.slice qagy) (Lay.pair i64L i64L)))) :=
  Opens.struct Try.underlying116 (OpensF.cons opensI rfl (OpensF.cons opensI rfl (OpensF.cons qaho rfl (OpensF.cons opensI rfl (OpensF.one opensI rfl))))) (by kernel_rfl) (by decide)
 refine h.weak rfl ?_
 rintro w ⟨a, b, c, d, e⟩ cs hr
 exact ⟨⟨a, b, c, d, e⟩, hr⟩
set_option maxRecDepth 20000 in
theorem opens_plan : Opens Try.prog 29 planLay := by
 have h : Opens Try.prog 29 (Lay.pair (Lay.slice qakg) (Lay.pair (Lay.slice i64L) (Lay.pair (Lay.slice qahi) (Lay.pair (Lay.slice qbe5) (Lay.pair (Lay.slice qa41) (Lay.pair (Lay.slice qake) (Lay.slice i64L))))))) :=
  Opens.struct Try.underlying29 (OpensF.cons (opens_head.slice Try.underlying22 (by kernel_rfl)) rfl (OpensF.cons qakc rfl (OpensF.cons (opens_state.slice Try.underlying24 (by kernel_rfl)) rfl (OpensF.cons (opens_act.slice Try.underlying25 (by kernel_rfl)) rfl (OpensF.cons (opens_tab.slice Try.underlying26 (by kernel_rfl)) rfl (OpensF.cons (opens_node.slice Try.underlying27 (by kernel_rfl)) rfl (OpensF.one qakc rfl))))))) (by kernel_rfl) (by decide)
 refine h.weak rfl ?_
 rintro w ⟨a, b, c, d, e, f, g⟩ cs hr
 exact ⟨⟨a, b, c, d, e, f, g⟩, hr⟩
theorem rep_lay {α : Type} {L : Lay α} {f : α → List SV} (hp : LayP L f) {w : World} {x : α} {cs : Array Value} (h : L.rep NoA w x cs.toList) : RepV w (fun _ => False) noPl (.agg (f x)) (.agg cs) := by
 obtain ⟨h1, h2⟩ := hp NoA w x cs.toList h
 have := RepV.agg (w := w) (A := NoA) (ρ := noPl) (cs := f x) (vs := cs.toList) h2 h1.1 h1.2
 exact this
end Go.Proofs.Yticeaegpkpjjeaa
namespace Go.Proofs.Yticeaegpkpjjeaa
set_option linter.all false
open Go.RowKit
attribute [local simp] qabg qabf qaas qaa3 qaat qaa2 qabd qabe qaan qabo SOp.run SX.ev putd puts argS upds SOp.touch SSt.keep SSt.skip gets geth puth delh idOf SV.cells? setL qac6 qac7 sbin eq0 eq1 eqL qac1 qab1 qab2 qaap qabh qaag qabi qabp qaai qaao FrzOk qaa7 qaa0 qaa5 qaa6 qaau qaaz qabl qaa1 qaaw qaa8 qaav frzS frzH frz frz1 frz0 SlotsM ObjsM ObjM rn ren ren1 ren0 qabt qab6 qab9 qabs qabm qaca qab8 CoL qaa9 qacb dels adds idsH qabx
attribute [local simp] qadr refc qael qaed qab7 opc actc tabc qady qacl nums
def twoP : PlanD := ⟨[⟨[8]⟩, ⟨[16]⟩], [], [⟨0, ⟨0, 0⟩, [⟨1, 1, 1⟩], 1000⟩, ⟨1, ⟨0, 0⟩, [], 1000⟩], [], [], [], [0, 1]⟩
theorem qaid : qafw twoP := by
 have f : ∀ n : Int, 0 ≤ n ∧ n ≤ 1000 → Fits .i64 n := fun n hn => Fits.of_i64 (by omega) (by omega)
 have g : ∀ n : Int, 0 ≤ n ∧ n ≤ 1000 → Fits .u64 n := fun n hn => Fits.of_u64 (by omega) (by omega)
 refine ⟨?_, ?_, ?_, ?_, ?_, ?_, ?_⟩ <;> simp [twoP, AllFit, qbe6, OkRef, qbh6, f, g]
theorem two_s (q : Nat) : SCalls Try.prog 43 [] [] q (.agg (qacl twoP)) [] := by
 refine qabj ?_ (fun _ => rfl) (fun _ => rfl) rfl q
 refine qaax (N := 14) Try.func43 rfl rfl (by kernel_rfl) qa6j (by simp) (by repeat' (first | exact trivial | refine And.intro ?_ ?_ | rfl | decide | exact PureR.ren _)) (by repeat' (first | exact trivial | refine And.intro ?_ ?_ | rfl | decide | exact PureR.ren _)) ?_
 rintro X hP hN hm
 unfold c_two
 repeat' (first | ((with_reducible refine qacj (c := .ret) ?_)) | (with_reducible refine zA ?_) | ((with_reducible refine qaac ?_); (try rw [hP]); simp -implicitDefEqProofs [*]) | fail)
 constructor
 refine qads [1, 3, 8] ?_ ?_
 ·simp only [FrzOk, geth, Nat.reduceEqDiff, reduceIte, and_true]
  refine ⟨?_, ?_, ?_⟩ <;> exact fun x hx => by simp at hx; subst hx; exact qab0 _ rfl
 simp -implicitDefEqProofs
 refine qads [5, 11, 12] ?_ ?_
 ·simp only [FrzOk, geth, Nat.reduceEqDiff, reduceIte, and_true]
  refine ⟨?_, ?_, ?_⟩ <;> exact fun x hx => by simp at hx; rcases hx with rfl | rfl <;> exact qab0 _ rfl
 simp -implicitDefEqProofs
 refine qaam ?_
 refine qag0 (ds := qacl twoP) hm rfl rfl (by rw [hP]; exact qbe4) (by rw [hP]; exact qarw) rfl ?_ rfl (fun σ => rfl)
 exact ⟨Co.refl _, Co.nilsl 1, qbkq ⟨CoL.refl _, ⟨Co.refl _, Co.refl _, Co.refl _, Co.nilsl 3, Co.refl _, trivial⟩, trivial⟩, Co.nilsl 2, Co.nilsl 6, Co.nilsl 5, Co.refl _, trivial⟩
end Go.Proofs.Yticeaegpkpjjeaa
namespace Go.Proofs.Yticeaegpkpjjeaa
set_option linter.all false
open Go.RowKit
attribute [local simp] qabg qabf qaas qaa3 qaat qaa2 qabd qabe qaan qabo SOp.run SX.ev putd puts argS upds SOp.touch SSt.keep SSt.skip gets geth puth delh idOf SV.cells? setL qac6 qac7 sbin eq0 eq1 eqL qac1 qab1 qab2 qaap qabh qaag qabi qabp qaai qaao FrzOk qaa7 qaa0 qaa5 qaa6 qaau qaaz qabl qaa1 qaaw qaa8 qaav frzS frzH frz frz1 frz0 SlotsM ObjsM ObjM rn ren ren1 ren0 qabt qab6 qab9 qabs qabm qaca qab8 CoL qaa9 qacb dels adds idsH qabx
attribute [local simp] qadr refc qael qaed qab7 opc actc tabc qady qacl nums bvc
def flA : PlanD := { twoP with nodes := [⟨4, 1, [], 1, 2⟩, ⟨3, 0, [⟨2, ⟨1, 0⟩, 0⟩], 2, 2⟩] }
def flB : PlanD := { twoP with nodes := [⟨3, 0, [⟨2, ⟨1, 0⟩, 0⟩], 1, 1⟩] }
theorem qbf6 : SmallP flA := by constructor <;> simp [flA, twoP]
theorem qbf5 : SmallP flB := by constructor <;> simp [flB, twoP]
theorem fl_ok {l : List NodeD} (h : ∀ n ∈ l, qbe8 n) : qafw { twoP with nodes := l } := ⟨qaid.1, qaid.2.1, qaid.2.2.1, qaid.2.2.2.1, qaid.2.2.2.2.1, h, qaid.2.2.2.2.2.2⟩
theorem flA_ok : qafw flA := fl_ok (by
 have f : ∀ n : Int, 0 ≤ n ∧ n ≤ 1000 → Fits .i64 n := fun n hn => Fits.of_i64 (by omega) (by omega)
 have g : ∀ n : Int, 0 ≤ n ∧ n ≤ 1000 → Fits .u64 n := fun n hn => Fits.of_u64 (by omega) (by omega)
 simp [qbe8, qbe7, f, g])
theorem flB_ok : qafw flB := fl_ok (by
 have f : ∀ n : Int, 0 ≤ n ∧ n ≤ 1000 → Fits .i64 n := fun n hn => Fits.of_i64 (by omega) (by omega)
 have g : ∀ n : Int, 0 ≤ n ∧ n ≤ 1000 → Fits .u64 n := fun n hn => Fits.of_u64 (by omega) (by omega)
 simp [qbe8, qbe7, f, g])
theorem qbkh : qahr flA = (0, 0) := by kernel_rfl
theorem qbkg : (qag5 flA).map bvc = [[.int .u64 1], [.int .u64 3], [.int .u64 1]] := by kernel_rfl
theorem qbkf : qahr flB = (12, 6000) := by kernel_rfl
theorem flA_len : (qag5 flA).length = 3 := by kernel_rfl
abbrev flP (x : SV) : List SV := [.view 1 (twoP.heads.map qadr), nums .i64 twoP.meta_, .view 5 (twoP.states.map qab7), .view 2 (twoP.acts.map actc), .view 6 (twoP.tabs.map tabc), x, nums .i64 twoP.out]
abbrev flRow : List (List SV) := [[.int .i64 4, .int .i64 1, .view 4 [], .int .i64 1, .int .i64 2], [.int .i64 3, .int .i64 0, .view 4 [[.int .i64 2, .int .i64 1, .int .i64 0, .int .u64 0]], .int .i64 2, .int .i64 2]]
theorem fl_call (q : Nat) (hq : 16 < q) : SCalls Try.prog 16 [.agg (flP (.own 16 2))] [(16, .row 116 5 flRow)] q (.tup [.own q 3, .agg [.int .i64 0, .int .i64 0]]) [(16, .row 116 5 flRow), (q, .row 39 1 [[.int .u64 1], [.int .u64 3], [.int .u64 1]])] := by
 have h := flow_o flA qbf6 flA_ok q
 rw [qbkh, qbkg, flA_len] at h
 refine qaii (h1 := [(16, .row 116 5 flRow)]) h ⟨qbj5 ⟨qaer _, qaer _, qaer _, qaer _, qaer _, qann (e := 116) rfl (fun e he => ?_) rfl, qaer _, trivial⟩, trivial⟩ (qbgb (qadn (qbgc _ _) (qadn (qasq (qadn (qaf9 _ _) (qadn (qaf9 _ _) qaga))) qaga))) (qatz ?_ qa6p) (fun id hid => ?_)
 ·rcases List.mem_cons.1 he with h1 | h1
  ·rw [h1]; exact qab0 _ rfl
  ·rw [List.mem_singleton.1 h1]; exact qab0 _ rfl
 ·intro e he
  simp at he
  rcases he with rfl | rfl | rfl <;> exact qadn (qaf9 _ _) qaga
 ·by_cases e : 16 = id
  ·subst e; simp [geth]; omega
  ·simp [geth, e] at hid
set_option maxHeartbeats 4000000 in
theorem qa6c (q : Nat) : SCalls Try.prog 14 [] [] q (.bool true) [] := by
 refine qabj ?_ (fun _ => rfl) (fun _ => rfl) rfl q
 refine qaax (N := 55) Try.func14 rfl rfl (by kernel_rfl) qak5 (by simp) (by repeat' (first | exact trivial | refine And.intro ?_ ?_ | rfl | decide | exact PureR.ren _)) (by repeat' (first | exact trivial | refine And.intro ?_ ?_ | rfl | decide | exact PureR.ren _)) ?_
 rintro X hP hN hm
 unfold c_fbegun
 have ht := fun q => two_s q
 replace ht := Lib.hid ht
 have hB := fun q => qa6b flB qbf5 flB_ok q
 rw [qbkf] at hB
 replace hB := Lib.hid hB
 repeat' (first | ((with_reducible refine qacj (c := .seq (.reg false qaje [1, 2, 3]) _) ?_)) | (with_reducible refine zA ?_) | ((with_reducible refine qaac ?_); (try rw [hP]); simp -implicitDefEqProofs [*]) | (refine qaay (ht.out _) ?_; simp -implicitDefEqProofs [*]) | fail)
 constructor
 refine qads [14] ?_ ?_
 ·simp only [FrzOk, geth, Nat.reduceEqDiff, reduceIte, and_true]
  exact fun x hx => by simp at hx; subst hx; exact qab0 _ rfl
 simp -implicitDefEqProofs
 refine qacs (s' := ⟨[(1, .ptr 9 0)], [(9, .cells 29 (flP (.own 16 2))), (16, .row 116 5 flRow)], 17⟩) (qaah [] hm ?_ ?_ rfl (by simp)) ?_
 ·repeat' (first | (with_reducible refine za ?_ ?_) | (with_reducible exact qaab) | (exact Co.refl _) | fail)
 ·exact ⟨⟨_, rfl, rfl, CoL.refl _⟩, ⟨_, rfl, rfl, rfl, ⟨⟨Co.refl _, Co.refl _, Co.nilsl 4, Co.refl _, Co.refl _, trivial⟩, CoLL.refl _⟩⟩, trivial⟩
 repeat' (first | ((with_reducible refine qacj (c := .seq (.reg false qajd [0]) _) ?_)) | (with_reducible first | refine zA ?_ | refine zK ?_) | ((with_reducible first | refine qaac ?_ | refine qaa4 (by rw [hP]; exact qacr) ?_); (try rw [hP]); simp -implicitDefEqProofs [*]) | (refine qabv (fl_call _ (by simp)) ⟨rfl, trivial⟩ ⟨rfl, rfl, trivial⟩ ?_; simp -implicitDefEqProofs [*]) | fail)
 constructor
 refine qads [16] ?_ ?_
 ·simp only [FrzOk, geth, Nat.reduceEqDiff, reduceIte, and_true]
  exact fun x hx => by simp at hx; rcases hx with rfl | rfl <;> exact qab0 _ rfl
 simp -implicitDefEqProofs
 repeat' (first | (with_reducible refine zA ?_) | ((with_reducible refine qaac ?_); (try rw [hP]); simp -implicitDefEqProofs [*]) | ((with_reducible refine qaam ?_); (try simp only [qaap, qaag, qaai])) | (refine qaay (hB.out _) ?_; simp -implicitDefEqProofs [*]) | (with_reducible refine zN hm ?_) | fail)
 all_goals rfl
set_option maxHeartbeats 4000000 in
theorem fdoes_s (p : PlanD) (hk : qafw p) (q : Nat) : SCalls Try.prog 4 [.agg (qacl p)] [] q (.bool true) [] := by
 refine qabj ?_ (fun _ => rfl) (fun _ => rfl) rfl q
 refine qaax (N := 43) Try.func4 rfl rfl (by kernel_rfl) qaox (by simp) (by repeat' (first | exact trivial | refine And.intro ?_ ?_ | rfl | decide | exact PureR.ren _)) (by repeat' (first | exact trivial | refine And.intro ?_ ?_ | rfl | decide | exact PureR.ren _)) ?_
 rintro X hP hN hm
 have hg := fun q => gplan_s p q
 unfold c_fdoes
 cases hG : qajs p <;> rw [hG] at hg
 ·have hs := qbje hG
  have c1 := fun q => flow_s p hs hk q
  have c2 := fun q => rflow_s p hs q
  have c3 := fun q => qa6b p hs hk q
  have hll : (qag5 p).length ≤ 1001 := by
   have := hs.nodes
   unfold qag5
   split
   ·simp
   ·rw [qado]; omega
  have hnn : (qag5 p).map bvc = ((qag5 p).map fun b => (b.toNat : Int)).map fun x => [SV.int .u64 x] := by rw [List.map_map]; rfl
  rw [hnn] at c1 c2
  generalize qahr p = F at c1 c2 c3
  have hl2 : ((qag5 p).map fun b => (b.toNat : Int)).length ≤ 1000000 := by rw [List.length_map]; omega
  generalize ((qag5 p).map fun b => (b.toNat : Int)) = L at c1 c2 hl2
  have c4 := fun q => qabj (qbic L L hl2) (fun _ => rfl) (fun _ => rfl) rfl q
  replace c4 := Lib.hid c4
  replace c1 := Lib.hid c1
  replace c2 := Lib.hid c2
  replace c3 := Lib.hid c3
  replace hs := Lib.hid hs
  replace hk := Lib.hid hk
  clear hnn
  repeat' (first | (with_reducible first | refine zA ?_ | refine zK ?_) | ((with_reducible first | refine qaac ?_ | refine qaa4 (by rw [hP]; exact qacr) ?_); (try rw [hP]); simp -implicitDefEqProofs [*]) | ((with_reducible refine qaaf ?_); (try simp -implicitDefEqProofs [*])) | ((with_reducible refine qaam ?_); (try simp only [qaap, qaag, qaai])) | ((with_reducible refine qaaa rfl (fun h => ?_) (fun h => ?_)) <;> have h' := h <;> (try simp at h') <;> (try subst h')) | ((first | refine qaay (qa6c _) ?_ | refine qaay (hg _) ?_ | refine qaay (oplan_s p hs.out _) ?_ | refine qaay (c1.out _) ?_ | refine qaay (c2.out _) ?_ | refine qaay (c3.out _) ?_ | refine qaay (c4.out _) ?_ | refine qaay (splan_s p hs.out _) ?_); simp -implicitDefEqProofs [*]) | (with_reducible refine zN hm ?_) | fail)
  all_goals rfl
 ·repeat' (first | (with_reducible refine zA ?_) | ((with_reducible refine qaac ?_); (try rw [hP]); simp -implicitDefEqProofs [*]) | ((with_reducible refine qaaf ?_); (try simp -implicitDefEqProofs [*])) | ((with_reducible refine qaam ?_); (try simp only [qaap, qaag, qaai])) | ((with_reducible refine qaaa rfl (fun h => ?_) (fun h => ?_)) <;> have h' := h <;> (try simp at h') <;> (try subst h')) | ((first | refine qaay (qa6c _) ?_ | refine qaay (hg _) ?_); simp -implicitDefEqProofs [*]) | (with_reducible refine zN hm ?_) | fail)
  all_goals rfl
theorem FlowDoes_law (p : PlanD) (cs : Array Value) (w : World) (h : planLay.rep NoA w p cs.toList) :
  Calls Try.prog 4 #[.agg cs] w fun e w' => e = .returned (.bool true) ∧ Below w.heap.size w w' :=
 law_of (vs := [.agg cs]) (fdoes_s p (qbfx NoA w p cs.toList h) 0) (Reps.cons (rep_lay qbft h) Reps.nil)
end Go.Proofs.Yticeaegpkpjjeaa
