/-
  Texts joined: XYrdG XYrdI XYrdJ. No condition.
-/
import Derived.Test.YticeaegpkpjjeaaProg
import Derived.ProofKit
import Derived.Test.YticeaegpkpjjeaaRows
import Derived.Deep.QuietTactic
import Derived.BigQuiet
import Derived.WalkSmall
import Derived.Handy
import Derived.WalkSpells
import Derived.RegionTactic
import Derived.BigRegion
import Derived.Deep.RegionLaw
import Derived.Test.YticeaegpkpjjeaaWalkSureK5
namespace Go.Proofs.Yticeaegpkpjjeaa
set_option linter.all false
open Go.RowKit
attribute [local simp] qabj qabi qaaw qaa2 qaax qaa1 qabg qabh qaap qab2 SOp.run SX.ev putd puts argS upds SOp.touch SSt.keep SSt.skip gets geth puth delh idOf SV.cells? setL qadu qadv sbin eq0 eq1 eqL qadr qacr qacs qaau qabk qaaf qabl qab3 qaai qaak FrzOk qaa5 qaaz qaa3 qaa4 qaaq qaay qabm qaa0 qaas qaa6 qaar frzS frzH frz frz1 frz0 SlotsM ObjsM ObjM rn ren ren1 ren0 qab6 qacp qacu qab5 qabn qacv qact CoL qaa7 qab7 dels adds idsH qabt
attribute [local simp] qaeh refc qaee qaea qacl opc actc tabc qaef qacc nums goc bvc u1 n1 b1 qac0
theorem qa3y (Y : List SV) (g : GoD) (r : RefD) (args : List Int) (hr : qa45 g args.length r) (hv : g.v.length ≤ 6) (ht : g.there.length = g.v.length) (q : Nat) (hq : 12 ≤ q) :
  SCalls Try.prog 96 [.ptr 0 0, .agg (refc r), nums .u64 args] (gobj Y g) q (.int .u64 (qadx g r args)) (gobj Y (useG g r.h)) :=
 g_up (g' := useG g r.h) hv hv (field_s Y g r args hr hv ht) q hq rfl rfl rfl
theorem qaz3 (Y : List SV) (g : GoD) (r : RefD) (hr : qa45 g 0 r) (hv : g.v.length ≤ 6) (ht : g.there.length = g.v.length) (q : Nat) (hq : 12 ≤ q) :
  SCalls Try.prog 96 [.ptr 0 0, .agg (refc r), .nilsl] (gobj Y g) q (.int .u64 (qadx g r [])) (gobj Y (useG g r.h)) :=
 qafq (qa3y Y g r [] hr hv ht q hq) ⟨Co.refl _, Co.refl _, Co.nilsl 1, trivial⟩
theorem qasu (p : PlanD) (Y : List SV) (f : Nat) (k : Int) (g : GoD) (hk : k = 1000 ∨ k = 1001) (hv : g.v.length ≤ 6) : SCalls Try.prog 50 [.ptr 0 0, .int .i64 k] [(0, .abs (goA Y g))] 1 (.bool (takeG p f k g).1) [(0, .abs (goA Y (takeG p f k g).2))] := by
 have hT : takeG p f k g = (k == 1000, g) := by
  cases f with
  | zero => rfl
  | succ f => unfold takeG; rw [if_pos hk]
 rw [hT]
 refine qaal (N := 137) Try.func50 rfl rfl (by kernel_rfl) qaha (by simp) (by repeat' (first | exact trivial | refine And.intro ?_ ?_ | rfl | decide | exact PureR.ren _)) (by repeat' (first | exact trivial | refine And.intro ?_ ?_ | rfl | decide | exact PureR.ren _)) ?_
 rintro X hP hN hm
 refine qaf0 (by omega) (by decide) (qahz _ g hv) fun hh h => ?_
 subst h
 unfold c_take
 rcases hk with rfl | rfl
 all_goals
  repeat' (first | (with_reducible refine zA ?_) | ((with_reducible refine qaad ?_); (try rw [hP]); simp -implicitDefEqProofs [*]) | ((with_reducible refine qaam ?_); (try simp only [qaau, qaaf, qaai])) | ((with_reducible refine qaab rfl (fun h => ?_) (fun h => ?_)) <;> have h' := h <;> (try simp at h') <;> (try subst h')) | ((with_reducible refine qaag [] hm ?_ ?_ ?_ ?_) <;> (try simp only [zT, puth, Nat.reduceEqDiff, reduceIte, Nat.reduceAdd])) | (with_reducible first | refine za ?_ ?_ | refine zb ?_ ?_ ?_ ?_ | refine zc ?_ ?_ ?_ ?_ | refine zd ?_ ?_ ?_ ?_) | (with_reducible first | exact qaaa | exact qaac) | ((with_reducible first | refine zga ?_ | refine zgb ?_); rfl) | ((with_reducible refine zgc ?_); (first | (with_reducible rfl) | rfl | (simp; done))) | ((with_reducible refine zgd ?_); (first | omega | (simp; done))) | (exact Co.refl _) | (exact CoL.refl _) | ((refine qa2f hm hv ?_; simp only [gobj, goc])) | (exact qab0 hv (six rfl rfl rfl rfl rfl rfl)) | fail)
theorem qans (els x : Int) (c : CaseD) (l : List CaseD) : qafm els x (c :: l) = if (bits .and .u64 x c.mask == c.value) = true then c.to_ else qafm els x l := rfl
theorem qafc {v : List (List Int)} (hv : v.length ≤ 6) {h N L : Nat} (hh : h < v.length) {x : List Int} (hx : x.length = L) {σ : Nat → Nat} (h1 : ∀ k, k < 6 → k ≠ h → σ (4 + k) = 4 + k) (h2 : σ (4 + h) = N) (y : List SV) (hy : y = [.own N L]) : CoLL ((qadl v).set h y) ((qadl (v.set h x)).map (·.map (Go.Proofs.Yticeaegpkpjjeaa.ren σ))) := by
 have e : (qadl (v.set h x)).map (·.map (Go.Proofs.Yticeaegpkpjjeaa.ren σ)) = (qadl v).set h y := by
  apply List.ext_getElem?
  intro k
  rw [List.getElem?_map, List.getElem?_set, qac0]
  by_cases hk : k < v.length
  ·rw [qaey (by rw [List.length_set]; exact hk), qaes _ _ _ _ hh]
   by_cases e : h = k
   ·subst e
    rw [if_pos rfl, if_pos hh, hy]
    simp [Go.Proofs.Yticeaegpkpjjeaa.ren, ren1, ren0, h2, hx]
   ·rw [if_neg e, if_neg (Ne.symm e), qaey hk]
    simp [Go.Proofs.Yticeaegpkpjjeaa.ren, ren1, ren0, h1 k (by omega) (Ne.symm e)]
  ·rw [List.getElem?_eq_none (by rw [qac0, List.length_set]; omega), List.getElem?_eq_none (by rw [qac0]; omega)]
   by_cases e : h = k
   ·omega
   ·rw [if_neg e]; rfl
 rw [e]; exact CoLL.refl _
theorem qa24 {v : List (List Int)} {k : Nat} (h : k < (qadl v).length) (N L : Nat) : ((qadl v)[k]).set 0 (.own N L) = [.own N L] := by
 have := qaey (v := v) (k := k) (by rw [qac0] at h; exact h)
 rw [List.getElem?_eq_getElem h] at this
 rw [Option.some.inj this]; rfl
theorem size_ok {ws : List Int} (h : qag0 ws = 0) : qaj9 ws = .tup [.int .i64 (qaka ws), .agg [.int .i64 0, .int .i64 0]] := by
 unfold qaj9; rw [h, (qaet h).2.2.2.2.2.1]
set_option maxHeartbeats 8000000 in
theorem take_s (p : PlanD) (T : SV) (hp : PlOk p) (ho : POn p) (hs : SmallP p) : ∀ (f : Nat) (k : Int) (g : GoD), (k = 1000 ∨ k = 1001 ∨ (0 ≤ k ∧ k < p.states.length ∧ (p.states.length : Int) - k ≤ f)) → GOk p g → g.b.length ≤ 100000 →
  SCalls Try.prog 50 [.ptr 0 0, .int .i64 k] [(0, .abs (goA (qacc p ++ [T]) g))] 1 (.bool (takeG p f k g).1) [(0, .abs (goA (qacc p ++ [T]) (takeG p f k g).2))] := by
 intro f
 induction f with
 | zero => exact fun k g hk hg hbl => qasu p _ 0 k g (by omega) (by rw [hg.vl]; exact hp.heads)
 | succ f ih =>
 intro k g hk hg hbl
 have hv : g.v.length ≤ 6 := by rw [hg.vl]; exact hp.heads
 by_cases h0 : k = 1000 ∨ k = 1001
 ·exact qasu p _ _ k g h0 hv
 refine qaal (N := 137) Try.func50 rfl rfl (by kernel_rfl) qaha (by simp) (by repeat' (first | exact trivial | refine And.intro ?_ ?_ | rfl | decide | exact PureR.ren _)) (by repeat' (first | exact trivial | refine And.intro ?_ ?_ | rfl | decide | exact PureR.ren _)) ?_
 rintro X hP hN hm
 refine qaf0 (by omega) (by decide) (qahz _ g hv) fun hh h => ?_
 subst h
 unfold c_take
 have hk2 : 0 ≤ k ∧ k < p.states.length ∧ (p.states.length : Int) - k ≤ (f + 1 : Nat) := by omega
 obtain ⟨k0, k1, k2⟩ := hk2
 have hlt : k.toNat < p.states.length := by omega
 have est := qasy k0 k1
 have hT : takeG p (f + 1) k g = if 0 ≤ (stAt p k).head ∧ (g.b.length : Int) < qael p (stAt p k).head then (false, g) else
   takeG p f (qafm (stAt p k).els (qadx (qaie p (stAt p k) g) (stAt p k).on []) (stAt p k).cases_) (onG (stAt p k) (qaie p (stAt p k) g)) := by rw [takeG.eq_2, if_neg h0]
 have e1 : (k == 1000) = false := by simp; omega
 have e2 : (k == 1001) = false := by simp; omega
 obtain ⟨F, hF⟩ : ∃ F, F = takeG p (f + 1) k g := ⟨_, rfl⟩
 rw [← hF]
 rw [← hF] at hT
 have ok := hp.ok k.toNat hlt
 have hon := ho k.toNat hlt
 rw [← est] at ok hon
 have hsx : p.states[k.toNat] = stAt p k := est.symm
 generalize stAt p k = s at hT ok hon hsx
 have hih : ∀ k' g', (k' = 1000 ∨ k' = 1001 ∨ (k < k' ∧ k' < p.states.length)) → GOk p g' → g'.b.length ≤ 100000 → ∀ q, 1 ≤ q → SCalls Try.prog 50 [.ptr 0 0, .int .i64 k'] [(0, .abs (goA (qacc p ++ [T]) g'))] q (.bool (takeG p f k' g').1) [(0, .abs (goA (qacc p ++ [T]) (takeG p f k' g').2))] := fun k' g' h1 h2 h3 q hq =>
  qaij (ih k' g' (by omega) h2 h3) (fun _ => rfl) (fun _ => rfl) rfl 0 q hq
 have hto : ∀ t ∈ qac5 s, t = 1000 ∨ t = 1001 ∨ (k < t ∧ t < p.states.length) := fun t ht => by have := ok.to_ t ht; omega
 have hfld : ∀ g', GOk p g' → s.cases_ ≠ [] → ∀ q, 12 ≤ q → SCalls Try.prog 96 [.ptr 0 0, .agg (refc s.on), .nilsl] (gobj (qacc p ++ [T]) g') q (.int .u64 (qadx g' s.on [])) (gobj (qacc p ++ [T]) (useG g' s.on.h)) := fun g' h1 h2 q hq =>
  qaz3 _ g' s.on (qa20 h1 (hon h2)) (by rw [h1.vl]; exact hp.heads) (by rw [h1.tl, h1.vl]) q hq
 have hcl := ok.cases_
 have hhd := ok.head
 have hv6 : ∀ g', GOk p g' → g'.v.length ≤ 6 := fun g' h => by rw [h.vl]; exact hp.heads
 clear ih
 have rest : ∀ g1, GOk p g1 → g1.b.length ≤ 100000 → F = takeG p f (qafm s.els (qadx g1 s.on []) s.cases_) (onG s g1) → SWp X (.seq (.seq (.reg false qae0 [0, 5, 8]) (.block 0 (.loop qaia))) (.seq (.reg false qagf [4]) .ret)) (QFun X [.tmp 4] 1 (.bool F.1) [(0, .abs (goA (qacc p ++ [T]) F.2))])
   ⟨[(0, .ptr 0 0), (5, .ptr 12 0)], gobj (qacc p ++ [T]) g1 ++ [(12, .cells 105 (qacl s))], 13⟩ := by
  intro g1 hg1 hb1 hFF
  have hx : qadx (useG g1 s.on.h) s.on [] = qadx g1 s.on [] := rfl
  have hf1 := hfld g1 hg1
  have hf2 := hfld (useG g1 s.on.h) (qatx hg1 _)
  rw [hx, use_use] at hf2
  generalize qadx g1 s.on [] = x at hFF hf1 hf2
  have hon1 : s.cases_ = [] → onG s g1 = g1 := fun h => by unfold onG; rw [if_pos h]
  have hon2 : s.cases_ ≠ [] → onG s g1 = useG g1 s.on.h := fun h => by unfold onG; rw [if_neg h]
  have hv1 := hv6 g1 hg1
  have hg2 := qatx hg1 s.on.h
  have hb2 : (useG g1 s.on.h).b.length ≤ 100000 := hb1
  have hv2 := hv6 _ hg2
  have hub : ∃ u, useG g1 s.on.h = { g1 with gone := u } := ⟨_, rfl⟩
  obtain ⟨u, hu⟩ := hub
  rw [hu] at hf1 hf2 hon2 hg2 hb2 hv2
  generalize onG s g1 = go at hFF hon1 hon2
  replace hF := Lib.hid hF
  replace hFF := Lib.hid hFF
  replace hf1 := Lib.hid hf1
  replace hf2 := Lib.hid hf2
  replace hon1 := Lib.hid hon1
  replace hon2 := Lib.hid hon2
  replace hg1 := Lib.hid hg1
  replace hg2 := Lib.hid hg2
  replace hih := Lib.hid hih
  replace hto := Lib.hid hto
  replace hv1 := Lib.hid hv1
  replace hv2 := Lib.hid hv2
  clear hfld hv6 hT ok hon hsx hg ho hx hu hv hs hhd
  repeat' (first | (with_reducible refine zA ?_) | ((with_reducible refine qaad ?_); (try rw [hP]); simp -implicitDefEqProofs [*]) | fail)
  refine qaat (qabp (fun s' (z : Nat × Bool) => s'.turn [(8, .int .i64 z.1)] [(0, .cells 135 (goc (qacc p ++ [T]) { g1 with gone := z.2 }))]) (fun z => z.1 ≤ s.cases_.length ∧ (z.1 = 0 → z.2 = g1.gone) ∧ (z.1 ≠ 0 → z.2 = u) ∧ F = takeG p f (qafm s.els x (s.cases_.drop z.1)) go) (fun z => s.cases_.length - z.1) (0, g1.gone) ?_ ⟨by simp, fun _ => rfl, fun h => absurd rfl h, hFF.out⟩ ?_)
  ·repeat' (first | ((with_reducible refine qaag [] hm ?_ ?_ ?_ ?_) <;> (try simp only [zT, puth, Nat.reduceEqDiff, reduceIte, Nat.reduceAdd])) | (with_reducible first | refine za ?_ ?_ | refine zb ?_ ?_ ?_ ?_ | refine zc ?_ ?_ ?_ ?_ | refine zd ?_ ?_ ?_ ?_) | (with_reducible first | exact qaaa | exact qaac) | ((with_reducible first | refine zga ?_ | refine zgb ?_); rfl) | ((with_reducible refine zgc ?_); (first | (with_reducible rfl) | rfl | (simp; done))) | ((with_reducible refine zgd ?_); (first | omega | (simp; done))) | (exact Co.refl _) | (exact CoL.refl _) | fail)
   all_goals first | exact qab0 hv1.out (six rfl rfl rfl rfl rfl rfl) | trace_state
  rintro J hJ ⟨i, u1⟩ ⟨h1, h2, h3, h4⟩
  unfold qaia
  simp only [zT, puth, Nat.reduceEqDiff, reduceIte, Nat.reduceAdd] at h1 h2 h3 h4 ⊢
  clear hFF
  rcases Nat.lt_or_ge i s.cases_.length with hi | hi
  ·have hne : s.cases_ ≠ [] := fun e => by rw [e] at hi; simp at hi
   have hgo := hon2.out hne
   have hfi : ∀ q, 12 ≤ q → SCalls Try.prog 96 [.ptr 0 0, .agg (refc s.on), .nilsl] (gobj (qacc p ++ [T]) { g1 with gone := u1 }) q (.int .u64 x) (gobj (qacc p ++ [T]) { g1 with gone := u }) := fun q hq => by
    by_cases hi0 : i = 0
    ·have := h2 hi0; subst this; exact hf1.out hne q hq
    ·have := h3 hi0; subst this; exact hf2.out hne q hq
   rw [List.drop_eq_getElem_cons hi, hgo] at h4
   have hin : s.cases_[i].to_ ∈ qac5 s := by unfold qac5; exact List.mem_append_left _ (List.mem_map.2 ⟨_, List.getElem_mem hi, rfl⟩)
   have ht := hto.out _ hin
   generalize hcc : s.cases_[i] = c at h4 ht
   have hih2 := hih.out c.to_ { g1 with gone := u } ht hg2.out hb2
   have wi : IntKind.i64.wrap ((i : Int) + 1) = (i : Int) + 1 := qaav (by omega) (by omega)
   clear h2 h3 hin ht
   cases hx : (bits .and .u64 x c.mask == c.value)
   ·have h5 : F = takeG p f (qafm s.els x (s.cases_.drop (i + 1))) { g1 with gone := u } := by rw [h4, qans, hx, if_neg (by decide)]
    replace h5 := Lib.hid h5
    replace hfi := Lib.hid hfi
    replace hne := Lib.hid hne
    replace hgo := Lib.hid hgo
    clear h4 hih2
    repeat' (first | (with_reducible first | refine zA ?_ | refine qaah ?_ | refine zK ?_) | ((with_reducible first | refine qaad ?_ | refine qaa8 (by rw [hP]; exact qadn) ?_); (try rw [hP]); simp -implicitDefEqProofs [*]) | ((with_reducible refine qaae ?_); (try simp -implicitDefEqProofs [*])) | ((with_reducible refine qaab rfl (fun h => ?_) (fun h => ?_)) <;> have h' := h <;> (try simp at h') <;> (try subst h')) | (refine qabc (hfi.out _ (by simp)) ⟨rfl, rfl, rfl, rfl, rfl, rfl, rfl, rfl, rfl, rfl, rfl, rfl, trivial⟩ ⟨rfl, rfl, rfl, rfl, rfl, rfl, rfl, rfl, rfl, rfl, rfl, rfl, trivial⟩ ?_; simp -implicitDefEqProofs [*]) | (with_reducible first | refine za ?_ ?_ | refine zb ?_ ?_ ?_ ?_ | refine zc ?_ ?_ ?_ ?_ | refine zd ?_ ?_ ?_ ?_) | (with_reducible first | exact qaaa | exact qaac) | ((with_reducible first | refine zga ?_ | refine zgb ?_); rfl) | ((with_reducible refine zgc ?_); (first | (with_reducible rfl) | rfl | (simp; done))) | ((with_reducible first | refine zgd ?_ | refine zge ?_); (first | omega | (simp; done))) | (exact Co.refl _) | (exact CoL.refl _) | ((refine qaaj hJ (i + 1, u) ?_ ?_ ?_; (with_reducible refine qaag [] hm ?_ ?_ ?_ ?_) <;> (try simp only [zT, puth, Nat.reduceEqDiff, reduceIte, Nat.reduceAdd]))) | (exact qab0 hv1.out (six rfl rfl rfl rfl rfl rfl)) | fail)
    all_goals first | (exact ⟨by omega, fun h => absurd h (Nat.succ_ne_zero _), fun _ => rfl, by rw [hgo.out]; exact h5.out⟩) | trace_state
   ·have h5 : F = takeG p f c.to_ { g1 with gone := u } := by rw [h4, qans, hx, if_pos rfl]
    rw [← h5] at hih2
    replace hih2 := Lib.hid hih2
    replace h5 := Lib.hid h5
    replace hfi := Lib.hid hfi
    replace hne := Lib.hid hne
    replace hgo := Lib.hid hgo
    clear h4
    repeat' (first | ((with_reducible refine qac1 (c := .seq (.reg false qaja [4]) .ret) ?_)) | (with_reducible first | refine zA ?_ | refine qaah ?_ | refine zK ?_) | ((with_reducible first | refine qaad ?_ | refine qaa8 (by rw [hP]; exact qadn) ?_); (try rw [hP]); simp -implicitDefEqProofs [*]) | ((with_reducible refine qaae ?_); (try simp -implicitDefEqProofs [*])) | ((with_reducible refine qaab rfl (fun h => ?_) (fun h => ?_)) <;> have h' := h <;> (try simp at h') <;> (try subst h')) | (refine qabc (hfi.out _ (by simp)) ⟨rfl, rfl, rfl, rfl, rfl, rfl, rfl, rfl, rfl, rfl, rfl, rfl, trivial⟩ ⟨rfl, rfl, rfl, rfl, rfl, rfl, rfl, rfl, rfl, rfl, rfl, rfl, trivial⟩ ?_; simp -implicitDefEqProofs [*]) | fail)
    constructor
    refine qacy (qasp (Y := qacc p ++ [T]) (g := { g1 with gone := u }) hv2.out ⟨rfl, rfl, rfl, rfl, rfl, rfl, rfl, rfl, rfl, rfl, rfl, rfl, trivial⟩ rfl) ?_
    repeat' (first | (with_reducible refine zA ?_) | ((with_reducible refine qaad ?_); (try rw [hP]); simp -implicitDefEqProofs [*]) | ((with_reducible refine qaam ?_); (try simp only [qaau, qaaf, qaai])) | (refine qabc (hih2.out _ (by simp)) ⟨rfl, trivial⟩ ⟨rfl, trivial⟩ ?_; simp -implicitDefEqProofs [*]) | (exact qa3w hm rfl rfl) | fail)
    all_goals trace_state
  ·obtain rfl : i = s.cases_.length := by omega
   rw [List.drop_length] at h4
   have hgo : go = { g1 with gone := u1 } := by
    by_cases he : s.cases_ = []
    ·rw [hon1.out he, h2 (by rw [he]; rfl)]
    ·rw [hon2.out he, h3 (fun e => he (List.eq_nil_of_length_eq_zero e))]
   have h5 : F = takeG p f s.els { g1 with gone := u1 } := by rw [h4, hgo]; rfl
   have hin : s.els ∈ qac5 s := by unfold qac5; exact List.mem_append_right _ (List.mem_singleton.2 rfl)
   have hgu : GOk p { g1 with gone := u1 } := ⟨hg1.out.vl, hg1.out.tl, hg1.out.row, hg1.out.ml⟩
   have hih2 := hih.out s.els { g1 with gone := u1 } (hto.out _ hin) hgu hb1
   rw [← h5] at hih2
   replace hih2 := Lib.hid hih2
   replace h5 := Lib.hid h5
   replace hgo := Lib.hid hgo
   replace hgu := Lib.hid hgu
   clear h4 h2 h3 hin
   repeat' (first | ((with_reducible refine qac1 (c := .seq (.reg false qagf [4]) .ret) ?_)) | (with_reducible refine zA ?_) | ((with_reducible refine qaad ?_); (try rw [hP]); simp -implicitDefEqProofs [*]) | ((with_reducible refine qaao ?_); (try simp -implicitDefEqProofs [*])) | ((with_reducible refine qaab rfl (fun h => ?_) (fun h => ?_)) <;> have h' := h <;> (try simp at h') <;> (try subst h')) | fail)
   constructor
   refine qacy (qasp (Y := qacc p ++ [T]) (g := { g1 with gone := u1 }) hv1.out ⟨rfl, rfl, rfl, rfl, rfl, rfl, rfl, rfl, rfl, rfl, rfl, rfl, trivial⟩ rfl) ?_
   repeat' (first | (with_reducible refine zA ?_) | ((with_reducible refine qaad ?_); (try rw [hP]); simp -implicitDefEqProofs [*]) | ((with_reducible refine qaam ?_); (try simp only [qaau, qaaf, qaai])) | (refine qabc (hih2.out _ (by simp)) ⟨rfl, trivial⟩ ⟨rfl, trivial⟩ ?_; simp -implicitDefEqProofs [*]) | (exact qa3w hm rfl rfl) | fail)
   all_goals trace_state
 replace rest := Lib.hid rest
 clear hih hfld hv6 ho
 cases hd : decide (0 ≤ s.head)
 ·have h00 : ¬ 0 ≤ s.head := of_decide_eq_false hd
  have hng : qaie p s g = g := by unfold qaie; rw [if_neg h00]
  rw [if_neg (fun h => h00 h.1), hng] at hT
  have hst := rest.out g hg hbl hT
  replace hst := Lib.hid hst
  replace hT := Lib.hid hT
  replace hF := Lib.hid hF
  replace ok := Lib.hid ok
  replace hg := Lib.hid hg
  replace hp := Lib.hid hp
  clear rest hon hto hng
  repeat' (first | ((with_reducible refine qac1 (c := .seq (.seq (.reg false qae0 [0, 5, 8]) _) _) ?_)) | (with_reducible refine zA ?_) | ((with_reducible refine qaad ?_); (try rw [hP]); simp -implicitDefEqProofs [*]) | ((with_reducible refine qaae ?_); (try simp -implicitDefEqProofs [*])) | ((with_reducible refine qaab rfl (fun h => ?_) (fun h => ?_)) <;> have h' := h <;> (try simp at h') <;> (try subst h')) | fail)
  constructor
  refine qacy ?_ hst.out
  simp only [gobj, goc, List.cons_append, List.nil_append]
  refine qaag [(12, 30)] hm ?_ ?_ rfl (by simp)
  ·repeat' (first | (with_reducible refine za ?_ ?_) | (with_reducible exact qaaa) | (exact Co.refl _) | fail)
  ·repeat' (first | (with_reducible first | refine zb ?_ ?_ ?_ ?_ | refine zc ?_ ?_ ?_ ?_ | refine zd ?_ ?_ ?_ ?_) | (with_reducible exact qaac) | ((with_reducible refine zga ?_); rfl) | ((with_reducible refine zgc ?_); (first | (with_reducible rfl) | rfl | (simp; done))) | (exact CoL.refl _) | fail)
   all_goals first | exact qab0 hv (six rfl rfl rfl rfl rfl rfl) | trace_state
 ·have h00 : 0 ≤ s.head := of_decide_eq_true hd
  have hnx : qaie p s g = qa2c p s.head g := by unfold qaie; rw [if_pos h00]
  obtain ⟨hz1, hz2, hz3, hz4, hz5⟩ := qazz hp h00 hhd.2
  have hlh : s.head.toNat < p.heads.length := by omega
  have hHD : p.heads[s.head.toNat] = ⟨qae2 p s.head⟩ := by unfold qae2; rw [List.getElem?_eq_getElem hlh]; rfl
  have hsc : qag0 (qae2 p s.head) = 0 := by have := hp.size _ (List.getElem_mem hlh); rw [hHD] at this; exact this
  have hsz := fun q => rsize_s (qae2 p s.head) q
  rw [size_ok hsc] at hsz
  rw [hnx] at hT
  have hsd : qael p s.head = qaka (qae2 p s.head) := rfl
  have hst := rest.out (qa2c p s.head g) (qat0 hg h00 hhd.2) (by show (g.b.drop _).length ≤ _; rw [List.length_drop]; omega)
  have hgd : qa2c p s.head g = { g with v := g.v.set s.head.toNat (qaoh (g.b.take (qael p s.head).toNat) 0 (qae2 p s.head)), there := g.there.set s.head.toNat true, b := g.b.drop (qael p s.head).toNat } := rfl
  rw [hgd] at hst hT
  rw [hsd] at hT hgd hz1 hz4 hz5 hst
  generalize hW : qae2 p s.head = W at hHD hsz hT hgd hz1 hz2 hz3 hz4 hz5 hst hsc
  generalize qaka W = n at hsz hT hgd hz1 hz4 hz5 hst
  obtain ⟨n, rfl⟩ := Int.eq_ofNat_of_zero_le (show 0 ≤ n by omega)
  replace hsz := Lib.hid hsz
  replace hgd := Lib.hid hgd
  by_cases hsh : g.b.length < n
  ·rw [if_pos ⟨h00, by omega⟩] at hT
   subst hT
   have kc : decide ((n : Int) > (g.b.length : Int)) = true := by simp; omega
   simp only [gt_iff_lt] at kc
   replace hF := Lib.hid hF
   replace ok := Lib.hid ok
   replace hg := Lib.hid hg
   replace hp := Lib.hid hp
   clear rest hon hto hst hz1 hz2 hz3 hW
   repeat' (first | (with_reducible first | refine zA ?_ | refine zK ?_) | ((with_reducible first | refine qaad ?_ | refine qaa8 (by rw [hP]; exact qadn) ?_); (try rw [hP]); simp -implicitDefEqProofs [*]) | ((with_reducible refine qaae ?_); (try simp -implicitDefEqProofs [*])) | ((with_reducible refine qaam ?_); (try simp only [qaau, qaaf, qaai])) | ((with_reducible refine qaab rfl (fun h => ?_) (fun h => ?_)) <;> have h' := h <;> (try simp at h') <;> (try subst h')) | (refine qabb (hsz.out _) ?_; simp -implicitDefEqProofs [*]) | ((with_reducible refine qaag [] hm ?_ ?_ ?_ ?_) <;> (try simp only [zT, puth, Nat.reduceEqDiff, reduceIte, Nat.reduceAdd])) | (with_reducible first | refine za ?_ ?_ | refine zb ?_ ?_ ?_ ?_ | refine zc ?_ ?_ ?_ ?_ | refine zd ?_ ?_ ?_ ?_) | (with_reducible first | exact qaaa | exact qaac) | ((with_reducible first | refine zga ?_ | refine zgb ?_); rfl) | ((with_reducible refine zgc ?_); (first | (with_reducible rfl) | rfl | (simp; done))) | ((with_reducible refine zgd ?_); (first | omega | (simp; done))) | (exact Co.refl _) | (exact CoL.refl _) | ((refine qa2f hm hv ?_; simp only [gobj, goc])) | (exact qab0 hv (six rfl rfl rfl rfl rfl rfl)) | fail)
   all_goals trace_state
  ·rw [if_neg (fun h => hsh (by omega))] at hT
   replace hst := hst hT
   have hpt := fun q => part_s (g.b.take n) (by rw [List.length_take]; omega) 0 W hz2 (by omega) (by rw [List.length_take]; omega) q
   have kc : decide ((n : Int) > (g.b.length : Int)) = false := by simp; omega
   simp only [gt_iff_lt] at kc
   have kt : (n : Int).toNat = n := by omega
   have kn : n ≤ g.b.length := by omega
   have k0 : (0 : Int) ≤ n := by omega
   have hgv := hg.vl
   have hgt := hg.tl
   have hk6 := hp.heads
   have kv : s.head < g.v.length := by omega
   have ktt : s.head < g.there.length := by omega
   have hpl := qaft (g.b.take n) W 0
   simp only [Int.toNat_natCast, Int.ofNat_eq_natCast] at hst
   generalize qaoh (g.b.take n) 0 W = PR at hpt hpl hst
   simp only [nums, List.map_take, Int.natCast_zero, Int.ofNat_eq_natCast] at hpt
   replace hpt := Lib.hid hpt
   replace hst := Lib.hid hst
   replace hT := Lib.hid hT
   replace hF := Lib.hid hF
   replace ok := Lib.hid ok
   replace hg := Lib.hid hg
   replace hp := Lib.hid hp
   replace hgv := Lib.hid hgv
   replace hgt := Lib.hid hgt
   replace hpl := Lib.hid hpl
   clear rest hon hto hz1 hz2 hz3 hW
   repeat' (first | ((with_reducible refine qac1 (c := .seq (.seq (.reg false qae0 [0, 5, 8]) _) _) ?_)) | (with_reducible first | refine zA ?_ | refine zK ?_) | ((with_reducible first | refine qaad ?_ | refine qaa8 (by rw [hP]; exact qadn) ?_); (try rw [hP]); simp -implicitDefEqProofs [*]) | ((with_reducible refine qaae ?_); (try simp -implicitDefEqProofs [*])) | ((with_reducible refine qaab rfl (fun h => ?_) (fun h => ?_)) <;> have h' := h <;> (try simp at h') <;> (try subst h')) | ((first | refine qabb (hsz.out _) ?_ | refine qabc (hpt.out _) trivial ⟨rfl, trivial⟩ ?_); simp -implicitDefEqProofs [*]) | fail)
   constructor
   refine qacy ?_ hst.out
   simp only [gobj, goc, List.cons_append, List.nil_append, List.length_set, qa24]
   have hvl : s.head.toNat < g.v.length := by omega
   have hm6 : s.head.toNat < 6 := by omega
   clear hst hT hF ok hg hp hsz hgd hpt hgv hgt kv ktt kc kt kn k0 hsx
   generalize s.head.toNat = m at hvl hm6 ⊢
   obtain rfl | rfl | rfl | rfl | rfl | rfl : m = 0 ∨ m = 1 ∨ m = 2 ∨ m = 3 ∨ m = 4 ∨ m = 5 := by omega
   ·refine qaag [(12, 30), (4, 93)] hm ?_ ?_ rfl (by simp)
    ·repeat' (first | (with_reducible refine za ?_ ?_) | (with_reducible exact qaaa) | (exact Co.refl _) | fail)
    ·repeat' (first | (with_reducible first | refine zb ?_ ?_ ?_ ?_ | refine zc ?_ ?_ ?_ ?_ | refine zd ?_ ?_ ?_ ?_) | (with_reducible exact qaac) | ((with_reducible refine zga ?_); rfl) | ((with_reducible refine zgc ?_); (first | (with_reducible rfl) | rfl | (simp; done))) | (exact Co.refl _) | (exact CoL.refl _) | (with_reducible refine qad4 ?_ ?_) | fail)
     all_goals first | (rw [List.map_set]; rfl) | (rw [qaes _ _ _ _ hvl, if_neg (by decide)]; done) | (rw [qaes _ _ _ _ hvl, if_pos rfl]; rfl) | (refine qafc hv hvl hpl.out (fun k hk hne => ?_) rfl _ rfl; obtain rfl | rfl | rfl | rfl | rfl : k = 1 ∨ k = 2 ∨ k = 3 ∨ k = 4 ∨ k = 5 := (by omega) <;> rfl) | (simp only [nums, List.map_drop]; exact Co.refl _) | trace_state
   ·refine qaag [(12, 30), (5, 93)] hm ?_ ?_ rfl (by simp)
    ·repeat' (first | (with_reducible refine za ?_ ?_) | (with_reducible exact qaaa) | (exact Co.refl _) | fail)
    ·repeat' (first | (with_reducible first | refine zb ?_ ?_ ?_ ?_ | refine zc ?_ ?_ ?_ ?_ | refine zd ?_ ?_ ?_ ?_) | (with_reducible exact qaac) | ((with_reducible refine zga ?_); rfl) | ((with_reducible refine zgc ?_); (first | (with_reducible rfl) | rfl | (simp; done))) | (exact Co.refl _) | (exact CoL.refl _) | (with_reducible refine qad4 ?_ ?_) | fail)
     all_goals first | (rw [List.map_set]; rfl) | (rw [qaes _ _ _ _ hvl, if_neg (by decide)]; done) | (rw [qaes _ _ _ _ hvl, if_pos rfl]; rfl) | (refine qafc hv hvl hpl.out (fun k hk hne => ?_) rfl _ rfl; obtain rfl | rfl | rfl | rfl | rfl : k = 0 ∨ k = 2 ∨ k = 3 ∨ k = 4 ∨ k = 5 := (by omega) <;> rfl) | (simp only [nums, List.map_drop]; exact Co.refl _) | trace_state
   ·refine qaag [(12, 30), (6, 93)] hm ?_ ?_ rfl (by simp)
    ·repeat' (first | (with_reducible refine za ?_ ?_) | (with_reducible exact qaaa) | (exact Co.refl _) | fail)
    ·repeat' (first | (with_reducible first | refine zb ?_ ?_ ?_ ?_ | refine zc ?_ ?_ ?_ ?_ | refine zd ?_ ?_ ?_ ?_) | (with_reducible exact qaac) | ((with_reducible refine zga ?_); rfl) | ((with_reducible refine zgc ?_); (first | (with_reducible rfl) | rfl | (simp; done))) | (exact Co.refl _) | (exact CoL.refl _) | (with_reducible refine qad4 ?_ ?_) | fail)
     all_goals first | (rw [List.map_set]; rfl) | (rw [qaes _ _ _ _ hvl, if_neg (by decide)]; done) | (rw [qaes _ _ _ _ hvl, if_pos rfl]; rfl) | (refine qafc hv hvl hpl.out (fun k hk hne => ?_) rfl _ rfl; obtain rfl | rfl | rfl | rfl | rfl : k = 0 ∨ k = 1 ∨ k = 3 ∨ k = 4 ∨ k = 5 := (by omega) <;> rfl) | (simp only [nums, List.map_drop]; exact Co.refl _) | trace_state
   ·refine qaag [(12, 30), (7, 93)] hm ?_ ?_ rfl (by simp)
    ·repeat' (first | (with_reducible refine za ?_ ?_) | (with_reducible exact qaaa) | (exact Co.refl _) | fail)
    ·repeat' (first | (with_reducible first | refine zb ?_ ?_ ?_ ?_ | refine zc ?_ ?_ ?_ ?_ | refine zd ?_ ?_ ?_ ?_) | (with_reducible exact qaac) | ((with_reducible refine zga ?_); rfl) | ((with_reducible refine zgc ?_); (first | (with_reducible rfl) | rfl | (simp; done))) | (exact Co.refl _) | (exact CoL.refl _) | (with_reducible refine qad4 ?_ ?_) | fail)
     all_goals first | (rw [List.map_set]; rfl) | (rw [qaes _ _ _ _ hvl, if_neg (by decide)]; done) | (rw [qaes _ _ _ _ hvl, if_pos rfl]; rfl) | (refine qafc hv hvl hpl.out (fun k hk hne => ?_) rfl _ rfl; obtain rfl | rfl | rfl | rfl | rfl : k = 0 ∨ k = 1 ∨ k = 2 ∨ k = 4 ∨ k = 5 := (by omega) <;> rfl) | (simp only [nums, List.map_drop]; exact Co.refl _) | trace_state
   ·refine qaag [(12, 30), (8, 93)] hm ?_ ?_ rfl (by simp)
    ·repeat' (first | (with_reducible refine za ?_ ?_) | (with_reducible exact qaaa) | (exact Co.refl _) | fail)
    ·repeat' (first | (with_reducible first | refine zb ?_ ?_ ?_ ?_ | refine zc ?_ ?_ ?_ ?_ | refine zd ?_ ?_ ?_ ?_) | (with_reducible exact qaac) | ((with_reducible refine zga ?_); rfl) | ((with_reducible refine zgc ?_); (first | (with_reducible rfl) | rfl | (simp; done))) | (exact Co.refl _) | (exact CoL.refl _) | (with_reducible refine qad4 ?_ ?_) | fail)
     all_goals first | (rw [List.map_set]; rfl) | (rw [qaes _ _ _ _ hvl, if_neg (by decide)]; done) | (rw [qaes _ _ _ _ hvl, if_pos rfl]; rfl) | (refine qafc hv hvl hpl.out (fun k hk hne => ?_) rfl _ rfl; obtain rfl | rfl | rfl | rfl | rfl : k = 0 ∨ k = 1 ∨ k = 2 ∨ k = 3 ∨ k = 5 := (by omega) <;> rfl) | (simp only [nums, List.map_drop]; exact Co.refl _) | trace_state
   ·refine qaag [(12, 30), (9, 93)] hm ?_ ?_ rfl (by simp)
    ·repeat' (first | (with_reducible refine za ?_ ?_) | (with_reducible exact qaaa) | (exact Co.refl _) | fail)
    ·repeat' (first | (with_reducible first | refine zb ?_ ?_ ?_ ?_ | refine zc ?_ ?_ ?_ ?_ | refine zd ?_ ?_ ?_ ?_) | (with_reducible exact qaac) | ((with_reducible refine zga ?_); rfl) | ((with_reducible refine zgc ?_); (first | (with_reducible rfl) | rfl | (simp; done))) | (exact Co.refl _) | (exact CoL.refl _) | (with_reducible refine qad4 ?_ ?_) | fail)
     all_goals first | (rw [List.map_set]; rfl) | (rw [qaes _ _ _ _ hvl, if_neg (by decide)]; done) | (rw [qaes _ _ _ _ hvl, if_pos rfl]; rfl) | (refine qafc hv hvl hpl.out (fun k hk hne => ?_) rfl _ rfl; obtain rfl | rfl | rfl | rfl | rfl : k = 0 ∨ k = 1 ∨ k = 2 ∨ k = 3 ∨ k = 4 := (by omega) <;> rfl) | (simp only [nums, List.map_drop]; exact Co.refl _) | trace_state
end Go.Proofs.Yticeaegpkpjjeaa
namespace Go.Proofs.Yticeaegpkpjjeaa
set_option linter.all false
open Go.RowKit
attribute [local simp] qabj qabi qaaw qaa2 qaax qaa1 qabg qabh qaap qab2 SOp.run SX.ev putd puts argS upds SOp.touch SSt.keep SSt.skip gets geth puth delh idOf SV.cells? setL qadu qadv sbin eq0 eq1 eqL qadr qacr qacs qaau qabk qaaf qabl qab3 qaai qaak FrzOk qaa5 qaaz qaa3 qaa4 qaaq qaay qabm qaa0 qaas qaa6 qaar frzS frzH frz frz1 frz0 SlotsM ObjsM ObjM rn ren ren1 ren0 qab6 qacp qacu qab5 qabn qacv qact CoL qaa7 qab7 dels adds idsH qabt
attribute [local simp] qaeh refc qaee qaea qacl opc actc tabc qaef qacc nums goc bvc u1 n1 b1 qac0
def widW (t : TabD) (w : List Int) : Int := if t.kind = 2 then el w 0 else 0
def qan7 (t : TabD) (w : List Int) (acts : List ActD) : List SV := [.int .i64 t.kind, .view 2 (t.keys.map refc), nums .i64 t.acts, .int .i64 t.cap, .int .i64 t.def_, nums .u64 t.args, nums .i64 w, .view 2 (acts.map actc), .int .i64 t.kind, .int .i64 w.length, .int .i64 (widW t w), .int .i64 t.cap, .nilsl, .int .i64 t.def_, nums .u64 t.args]
theorem qatq (t : TabD) (w : List Int) (acts : List ActD) (hw : t.kind = 2 → w ≠ []) (q : Nat) : SCalls Try.prog 47 [.agg (tabc t), nums .i64 w, .view 2 (acts.map actc)] [] q (.cp (qan7 t w acts)) [] := by
 refine qabs ?_ (fun _ => rfl) (fun _ => rfl) rfl q
 refine qaal (N := 36) Try.func47 rfl rfl (by kernel_rfl) qagw (by simp) (by repeat' (first | exact trivial | refine And.intro ?_ ?_ | rfl | decide | exact PureR.ren _)) (by repeat' (first | exact trivial | refine And.intro ?_ ?_ | rfl | decide | exact PureR.ren _)) ?_
 rintro X hP hN hm
 unfold c_newstore
 by_cases hk : t.kind = 2
 ·have hne := hw hk
  have hl : 0 < w.length := List.length_pos_iff.2 hne
  obtain ⟨x, hx⟩ : ∃ x, w[0]'hl = x := ⟨_, rfl⟩
  have hW : widW t w = x := by unfold widW; rw [if_pos hk, qaz4 w 0 hl, hx]
  have kk : (t.kind == 2) = true := by simpa using hk
  repeat' (first | ((with_reducible refine qac1 (c := .ret) ?_)) | (with_reducible refine zA ?_) | ((with_reducible refine qaad ?_); (try rw [hP]); simp -implicitDefEqProofs [*]) | ((with_reducible refine qaab rfl (fun h => ?_) (fun h => ?_)) <;> have h' := h <;> (try simp at h') <;> (try subst h')) | fail)
  constructor
  refine qaec [18] ?_ ?_
  ·simp only [FrzOk, geth, Nat.reduceEqDiff, reduceIte, and_true]
   exact qaba _ rfl
  simp -implicitDefEqProofs
  refine qaam (qafi hm ?_ fun _ => rfl)
  simp [qan7, *]
 ·have hW : widW t w = 0 := by unfold widW; rw [if_neg hk]
  have kk : (t.kind == 2) = false := by simpa using hk
  repeat' (first | ((with_reducible refine qac1 (c := .ret) ?_)) | (with_reducible refine zA ?_) | ((with_reducible refine qaad ?_); (try rw [hP]); simp -implicitDefEqProofs [*]) | ((with_reducible refine qaae ?_); (try simp -implicitDefEqProofs [*])) | ((with_reducible refine qaab rfl (fun h => ?_) (fun h => ?_)) <;> have h' := h <;> (try simp at h') <;> (try subst h')) | fail)
  constructor
  refine qaec [18] ?_ ?_
  ·simp only [FrzOk, geth, Nat.reduceEqDiff, reduceIte, and_true]
   exact qaba _ rfl
  simp -implicitDefEqProofs
  refine qaam (qafi hm ?_ fun _ => rfl)
  simp [qan7, *]
def stC (p : PlanD) (t : TabD) : List SV := [.cp (qan7 t (qabu p t) p.acts)]
instance (p : PlanD) : PureF (stC p) := ⟨fun _ _ => rfl, fun _ => rfl, fun _ => qaba _ rfl⟩
set_option maxHeartbeats 4000000 in
theorem qazn (p : PlanD) (htl : p.tabs.length ≤ 1000) (hkl : ∀ t ∈ p.tabs, t.keys.length ≤ 1000000) (hw : ∀ t ∈ p.tabs, t.kind = 2 → qabu p t ≠ []) (q : Nat) : SCalls Try.prog 12 [.agg (qacc p)] [] q (.cp (qacc p ++ [.view 1 (p.tabs.map (stC p))])) [] := by
 refine qabs ?_ (fun _ => rfl) (fun _ => rfl) rfl q
 refine qaal (N := 40) Try.func12 rfl rfl (by kernel_rfl) qah6 (by simp) (by repeat' (first | exact trivial | refine And.intro ?_ ?_ | rfl | decide | exact PureR.ren _)) (by repeat' (first | exact trivial | refine And.intro ?_ ?_ | rfl | decide | exact PureR.ren _)) ?_
 rintro X hP hN hm
 unfold c_newyard
 repeat' (first | (with_reducible refine zA ?_) | ((with_reducible refine qaad ?_); (try rw [hP]); simp -implicitDefEqProofs [*]) | fail)
 refine qacy (qafn (t := 124) (cs := qacc p ++ [.nilsl]) 4 7 125 1 rfl rfl) ?_
 simp only [zT, puth, Nat.reduceEqDiff, reduceIte, Nat.reduceAdd]
 refine qaat (qabp (fun s (i : Nat) => s.turn [(4, .int .i64 i)] [(4, .cells 124 (qacc p ++ [.own 7 i])), (7, .row 125 1 ((p.tabs.take i).map (stC p)))]) (fun i => i ≤ p.tabs.length) (fun i => p.tabs.length - i) 0 ?_ (by simp) ?_)
 ·repeat' (first | ((with_reducible refine qaag [] hm ?_ ?_ ?_ ?_) <;> (try simp only [zT, puth, Nat.reduceEqDiff, reduceIte, Nat.reduceAdd])) | (with_reducible first | refine za ?_ ?_ | refine zb ?_ ?_ ?_ ?_ | refine zc ?_ ?_ ?_ ?_) | (with_reducible first | exact qaaa | exact qaac) | ((with_reducible first | refine zga ?_ | refine zgb ?_); rfl) | ((with_reducible refine zgc ?_); (first | (with_reducible rfl) | rfl | (simp; done))) | ((with_reducible refine zgd ?_); (first | omega | (simp; done))) | (exact Co.refl _) | (exact CoL.refl _) | fail)
  all_goals trace_state
 rintro J hJ i h1
 unfold qagl
 simp only [zT, puth, Nat.reduceEqDiff, reduceIte, Nat.reduceAdd] at h1 ⊢
 have hlen : ((p.tabs.take i).map (stC p)).length = i := by rw [List.length_map, List.length_take]; omega
 rcases Nat.lt_or_ge i p.tabs.length with hi | hi
 ·have hall : (p.tabs.take (i + 1)).map (stC p) = (p.tabs.take i).map (stC p) ++ [[.cp (qan7 p.tabs[i] (qabu p p.tabs[i]) p.acts)]] := by rw [← List.take_append_getElem hi, List.map_append]; rfl
  generalize hRR : (p.tabs.take i).map (stC p) = RR at hlen hall ⊢
  have hwd := fun q => qay5 p p.tabs[i] (hkl _ (List.getElem_mem hi)) q
  have hns := fun q => qatq p.tabs[i] (qabu p p.tabs[i]) p.acts (hw _ (List.getElem_mem hi)) q
  generalize hxx : p.tabs[i] = t at hall hwd hns
  generalize qabu p t = W at hall hwd hns
  generalize qan7 t W p.acts = C at hall hns
  have wi : IntKind.i64.wrap ((i : Int) + 1) = (i : Int) + 1 := qaav (by omega) (by omega)
  have hb1 : i + 1 ≤ maxLen := by unfold maxLen; omega
  replace hall := Lib.hid hall
  replace hRR := Lib.hid hRR
  replace hwd := Lib.hid hwd
  replace hns := Lib.hid hns
  clear hw hkl
  repeat' (first | (with_reducible first | refine zA ?_ | refine qacj ?_ | refine zK ?_) | ((with_reducible first | refine qaad ?_ | refine qaa8 (by rw [hP]; exact qadn) ?_); (try rw [hP]); simp -implicitDefEqProofs [*]) | ((with_reducible refine qaae ?_); (try simp -implicitDefEqProofs [*])) | ((with_reducible refine qaab rfl (fun h => ?_) (fun h => ?_)) <;> have h' := h <;> (try simp at h') <;> (try subst h')) | ((with_reducible refine qabw ?_ ?_); (first | omega | (unfold maxLen; omega)); simp -implicitDefEqProofs [*]) | ((first | refine qabb (hwd.out _) ?_ | refine qabb (hns.out _) ?_); simp -implicitDefEqProofs [*]) | (with_reducible first | refine za ?_ ?_ | refine zb ?_ ?_ ?_ ?_ | refine zc ?_ ?_ ?_ ?_) | (with_reducible first | exact qaaa | exact qaac) | ((with_reducible first | refine zga ?_ | refine zgb ?_); rfl) | ((with_reducible first | refine zgd ?_ | refine zge ?_); (first | omega | (simp; done))) | (exact Co.refl _) | (exact CoL.refl _) | ((refine qaaj hJ (i + 1) ?_ ?_ ?_; (with_reducible refine qaag [(7, ?_)] hm ?_ ?_ ?_ ?_) <;> (try simp only [zT, puth, Nat.reduceEqDiff, reduceIte, Nat.reduceAdd]))) | fail)
  all_goals first | omega | (exact hall.out.symm) | trace_state
 ·obtain rfl : i = p.tabs.length := by omega
  rw [List.take_length] at hlen ⊢
  repeat' (first | ((with_reducible refine qac1 (c := .ret) ?_)) | (with_reducible refine zA ?_) | ((with_reducible refine qaad ?_); (try rw [hP]); simp -implicitDefEqProofs [*]) | ((with_reducible refine qaao ?_); (try simp -implicitDefEqProofs [*])) | ((with_reducible refine qaab rfl (fun h => ?_) (fun h => ?_)) <;> have h' := h <;> (try simp at h') <;> (try subst h')) | fail)
  constructor
  have htk : (p.tabs.map (stC p)).take p.tabs.length = p.tabs.map (stC p) := List.take_of_length_le (by omega)
  refine qaec [7] ?_ ?_
  ·simp only [FrzOk, geth, Nat.reduceEqDiff, reduceIte, qail, and_true]
  simp -implicitDefEqProofs [htk, hlen, Nat.le_refl]
  refine qaec [4] ?_ ?_
  ·simp only [FrzOk, geth, Nat.reduceEqDiff, reduceIte, and_true]
   exact qaba _ rfl
  simp -implicitDefEqProofs
  refine qaam (qafi hm ?_ fun _ => rfl)
  rfl
structure YOk (p : PlanD) : Prop where
 pl : PlOk p
 on : POn p
 s : SmallP p
 m : p.meta_.length ≤ 4
theorem yok_of {p : PlanD} (hs : SmallP p) (h : (qafs p).1 = 0) : YOk p := ⟨pok_of h, pon_of h, hs, qa3h h⟩
def qaek (p : PlanD) (b : List Int) (port : Int) : Bool × GoD := takeG p p.states.length 0 (qafl p b port)
set_option maxHeartbeats 4000000 in
theorem parse_s (p : PlanD) (hy : YOk p) (T : SV) (b : List Int) (port : Int) (hp0 : 0 ≤ port) (hp1 : port ≤ 65535) (hbl : b.length ≤ 100000) (q : Nat) :
  SCalls Try.prog 13 [.cp (qacc p ++ [T]), nums .u8 b, .int .i64 port] [] q (.tup [.int .u64 (qaif (qaek p b port).2).toNat, .int .i64 ((b.length : Int) - (qaek p b port).2.b.length), .bool (qaek p b port).1]) [] := by
 refine qabs ?_ (fun _ => rfl) (fun _ => rfl) rfl q
 refine qaal (N := 28) Try.func13 rfl rfl (by kernel_rfl) qaku (by simp) (by repeat' (first | exact trivial | refine And.intro ?_ ?_ | rfl | decide | exact PureR.ren _)) (by repeat' (first | exact trivial | refine And.intro ?_ ?_ | rfl | decide | exact PureR.ren _)) ?_
 rintro X hP hN hm
 unfold c_parse
 have h6 := hy.pl.heads
 have hh8 : ∀ h ∈ p.heads, h.w.length ≤ 8 := fun h hh => (qaet (hy.pl.size h hh)).2.1
 have h4 := hy.m
 have hst := fun q => qaoc (start_s p T b port hp0 hp1 h6 hh8 (by omega) hbl) (fun _ => rfl) q
 have hg0 : GOk p (qafl p b port) := qasx p b port
 have hss := hy.pl.states
 have htk := fun id q hq => qaij (take_s p T hy.pl hy.on hy.s p.states.length 0 (qafl p b port) (.inr (.inr ⟨by omega, by omega, by omega⟩)) hg0 hbl) (fun _ => rfl) (fun _ => rfl) rfl id q hq
 have hg1 : GOk p (qaek p b port).2 := qaty hy.pl _ _ _ hg0
 have hbb : (qaek p b port).2.b.length ≤ b.length := take_b p _ _ _
 change ∀ id q hq, SCalls Try.prog 50 [.ptr id 0, .int .i64 0] [(id, .abs (goA (qacc p ++ [T]) (qafl p b port)))] q (.bool (qaek p b port).1) [(id, .abs (goA (qacc p ++ [T]) (qaek p b port).2))] at htk
 generalize qaek p b port = G at htk hg1 hbb ⊢
 have hv : G.2.v.length ≤ 6 := by rw [hg1.vl]; exact h6
 have ht : G.2.there.length ≤ 6 := by rw [hg1.tl]; exact h6
 have hmk := fun q hq => qa3r (qacc p ++ [T]) G.2 ht hv q hq
 have hww : IntKind.i64.wrap ((b.length : Int) - G.2.b.length) = (b.length : Int) - G.2.b.length := IntWalk.i64_in _ ⟨by omega, by omega⟩
 replace hst := Lib.hid hst
 replace htk := Lib.hid htk
 replace hmk := Lib.hid hmk
 replace hg0 := Lib.hid hg0
 replace hg1 := Lib.hid hg1
 clear hh8
 repeat' (first | ((with_reducible refine qac1 (c := .seq (.reg true qajf [6, 7, 8]) .ret) ?_)) | (with_reducible refine zA ?_) | ((with_reducible refine qaad ?_); (try rw [hP]); simp -implicitDefEqProofs [*]) | ((first | refine qabc (hst.out _) trivial ⟨rfl, trivial⟩ ?_ | refine qabc (htk.out _ _ (by simp)) ⟨rfl, trivial⟩ ⟨rfl, trivial⟩ ?_); simp -implicitDefEqProofs [*]) | fail)
 constructor
 refine qacy (s' := ⟨[(1, nums .u8 b), (9, .ptr 0 0), (10, .bool G.1)], [(0, .abs (goA (qacc p ++ [T]) G.2))], 1⟩) (qaag [(0, 6)] hm ?_ ?_ rfl (by simp)) ?_
 ·repeat' (first | (with_reducible refine za ?_ ?_) | (with_reducible exact qaaa) | (exact Co.refl _) | fail)
  all_goals trace_state
 ·repeat' (first | (with_reducible refine qazj ?_ ?_) | (with_reducible exact qaac) | ((with_reducible refine zga ?_); rfl) | fail)
  all_goals trace_state
 refine qaf0 (by omega) (by decide) (qahz _ G.2 hv) fun hh h => ?_
 subst h
 repeat' (first | (with_reducible first | refine zA ?_ | refine zK ?_) | ((with_reducible refine qaa8 (by rw [hP]; exact qadn) ?_); (try rw [hP]); simp -implicitDefEqProofs [*]) | ((with_reducible refine qaam ?_); (try simp only [qaau, qaaf, qaai])) | (refine call_r (hmk.out _ (by simp)) ⟨rfl, rfl, rfl, rfl, rfl, rfl, rfl, rfl, rfl, rfl, rfl, rfl, trivial⟩ ⟨rfl, rfl, rfl, rfl, rfl, rfl, rfl, rfl, rfl, rfl, rfl, rfl, trivial⟩ ?_; simp -implicitDefEqProofs [*]) | (refine fin_ttt hm (by decide) (by decide) (by decide) rfl rfl rfl (fun _ => rfl) (fun _ => rfl) (fun _ => rfl)) | fail)
 all_goals trace_state
end Go.Proofs.Yticeaegpkpjjeaa
namespace Go.Proofs.Yticeaegpkpjjeaa
set_option linter.all false
open Go.RowKit
attribute [local simp] qabj qabi qaaw qaa2 qaax qaa1 qabg qabh qaap qab2 SOp.run SX.ev putd puts argS upds SOp.touch SSt.keep SSt.skip gets geth puth delh idOf SV.cells? setL qadu qadv sbin eq0 eq1 eqL qadr qacr qacs qaau qabk qaaf qabl qab3 qaai qaak FrzOk qaa5 qaaz qaa3 qaa4 qaaq qaay qabm qaa0 qaas qaa6 qaar frzS frzH frz frz1 frz0 SlotsM ObjsM ObjM rn ren ren1 ren0 qab6 qacp qacu qab5 qabn qacv qact CoL qaa7 qab7 dels adds idsH qabt
attribute [local simp] qaeh refc qaee qaea qacl opc actc tabc qaef qacc nums
theorem qayz {p : PlanD} (h : (qafs p).1 = 0) : p.tabs.length ≤ 5 ∧ ∀ t ∈ p.tabs, t.keys.length ≤ 3 ∧ 1 ≤ (qabu p t).length := by
 have h1 := qabv h
 have h2 := qabv h1.2
 have h3 := qabv h2.2
 have h4 := qabv h3.2
 have h5 := qabv h4.2
 have ht := qabv h5.1
 have m := qafv ht.1
 rw [decide_eq_false_iff_not] at m
 refine ⟨by omega, fun t hm => ?_⟩
 have := qaew ht.2 t hm
 unfold tabF at this
 by_cases h1 : 3 < t.keys.length
 ·rw [if_pos h1] at this; exact absurd this (by decide)
 rw [if_neg h1] at this
 by_cases h2 : (qabu p t).contains 0 = true
 ·rw [if_pos h2] at this; exact absurd this (by decide)
 rw [if_neg h2] at this
 refine ⟨by omega, ?_⟩
 unfold qaei at this
 by_cases g1 : t.kind < 1 ∨ 3 < t.kind
 ·rw [if_pos g1] at this; exact absurd this (by decide)
 rw [if_neg g1] at this
 by_cases g2 : (qabu p t).length < 1 ∨ 3 < (qabu p t).length ∨ (t.kind = 2 ∧ 1 < (qabu p t).length) ∨ t.acts.length < 1 ∨ 4 < t.acts.length
 ·rw [if_pos g2] at this; exact absurd this (by decide)
 omega
theorem qatp {p : PlanD} (h : (qafs p).1 = 0) (q : Nat) : SCalls Try.prog 12 [.agg (qacc p)] [] q (.cp (qacc p ++ [.view 1 (p.tabs.map (stC p))])) [] := by
 have ht := qayz h
 exact qazn p (by omega) (fun t hm => by have := ht.2 t hm; omega) (fun t hm _ e => by have := (ht.2 t hm).2; rw [e] at this; simp at this) q
def pkF (b : List Int) (port : Int) : Int × Int := if 600 < b.length then (14, -1) else if port < 0 ∨ 65535 < port then (1, -1) else (0, 0)
theorem pktf_s (b : List Int) (port : Int) (q : Nat) : SCalls Try.prog 11 [nums .u8 b, .int .i64 port] [] q (.agg [.int .i64 (pkF b port).1, .int .i64 (pkF b port).2]) [] := by
 refine qabs ?_ (fun _ => rfl) (fun _ => rfl) rfl q
 refine qaal (N := 17) Try.func11 rfl rfl (by kernel_rfl) qaov (by simp) (by repeat' (first | exact trivial | refine And.intro ?_ ?_ | rfl | decide | exact PureR.ren _)) (by repeat' (first | exact trivial | refine And.intro ?_ ?_ | rfl | decide | exact PureR.ren _)) ?_
 rintro X hP hN hm
 unfold c_pktf
 by_cases h1 : 600 < b.length
 ·have hF : pkF b port = (14, -1) := if_pos h1
  rw [hF]
  have h2 : (600 : Int) < b.length := by omega
  repeat' (first | (with_reducible refine zA ?_) | ((with_reducible refine qaad ?_); (try rw [hP]); simp -implicitDefEqProofs [*]) | ((with_reducible refine qaam ?_); (try simp only [qaau, qaaf, qaai])) | ((with_reducible refine qaab rfl (fun h => ?_) (fun h => ?_)) <;> have h' := h <;> (try simp at h') <;> (try subst h')) | (refine qabb (rF_s _ _ _) ?_; simp -implicitDefEqProofs [*]) | (refine qa2g hm rfl rfl (by rw [hP]; exact qab1) (by rw [hP]; exact qabr) rfl (CoL.refl _) rfl (fun σ => rfl)) | fail)
  all_goals trace_state
 ·have h1' : ¬ (600 : Int) < b.length := by omega
  have e : pkF b port = if port < 0 ∨ 65535 < port then (1, -1) else (0, 0) := if_neg h1
  rw [e]
  cases k1 : decide (port < 0) <;> cases k2 : decide (65535 < port)
  all_goals
   simp only [decide_eq_true_eq, decide_eq_false_iff_not] at k1 k2
   first | rw [if_pos (by omega)] | rw [if_neg (by omega)]
   repeat' (first | (with_reducible refine zA ?_) | ((with_reducible refine qaad ?_); (try rw [hP]); simp -implicitDefEqProofs [*]) | ((with_reducible refine qaae ?_); (try simp -implicitDefEqProofs [*])) | ((with_reducible refine qaam ?_); (try simp only [qaau, qaaf, qaai])) | ((with_reducible refine qaab rfl (fun h => ?_) (fun h => ?_)) <;> have h' := h <;> (try simp at h') <;> (try subst h')) | (refine qabb (rF_s _ _ _) ?_; simp -implicitDefEqProofs [*]) | (refine qa2g hm rfl rfl (by rw [hP]; exact qab1) (by rw [hP]; exact qabr) rfl (CoL.refl _) rfl (fun σ => rfl)) | fail)
   all_goals trace_state
theorem pk_ok {b : List Int} {port : Int} (h : (pkF b port).1 = 0) : 0 ≤ port ∧ port ≤ 65535 ∧ b.length ≤ 600 := by
 unfold pkF at h
 split at h
 ·exact absurd h (by decide)
 ·split at h
  ·exact absurd h (by decide)
  ·omega
set_option maxHeartbeats 4000000 in
theorem wsure_s (p : PlanD) (hk : qaid p) (b : List Int) (port : Int) (q : Nat) : SCalls Try.prog 3 [.agg (qacc p), nums .u8 b, .int .i64 port] [] q (.bool true) [] := by
 refine qabs ?_ (fun _ => rfl) (fun _ => rfl) rfl q
 refine qaal (N := 85) Try.func3 rfl rfl (by kernel_rfl) qakl (by simp) (by repeat' (first | exact trivial | refine And.intro ?_ ?_ | rfl | decide | exact PureR.ren _)) (by repeat' (first | exact trivial | refine And.intro ?_ ?_ | rfl | decide | exact PureR.ren _)) ?_
 rintro X hP hN hm
 have hg := fun q => gplan_s p q
 unfold c_wsure
 cases hG : qahy p <;> rw [hG] at hg
 ·by_cases hbl : 2000 < b.length
  ·have hbl2 : (2000 : Int) < b.length := by omega
   repeat' (first | (with_reducible refine zA ?_) | ((with_reducible refine qaad ?_); (try rw [hP]); simp -implicitDefEqProofs [*]) | ((with_reducible refine qaae ?_); (try simp -implicitDefEqProofs [*])) | ((with_reducible refine qaam ?_); (try simp only [qaau, qaaf, qaai])) | ((with_reducible refine qaab rfl (fun h => ?_) (fun h => ?_)) <;> have h' := h <;> (try simp at h') <;> (try subst h')) | ((first | refine qabb (qae3 _) ?_ | refine qabb (hg _) ?_); simp -implicitDefEqProofs [*]) | (with_reducible refine zN hm ?_) | fail)
   all_goals rfl
  have hs := qa2u hG
  have c1 := fun q => walk_s p hs hk q
  have hbl2 : ¬ (2000 : Int) < b.length := by omega
  by_cases hc0 : (qan6 p).1 = 0
  ·have hpz : (qafs p).1 = 0 := by
    by_cases hz : (qafs p).1 = 0
    ·exact hz
    ·unfold qan6 at hc0; rw [if_pos hz] at hc0; exact absurd hc0 hz
   have hwl : qayu p = qa2v p := by unfold qayu; rw [if_neg (by simpa using hc0)]
   rw [hwl] at c1
   have hsl : (qa2v p).length = p.states.length + 1 := by unfold qa2v; rw [qadj]
   have hgs2 : (qa2v p)[p.states.length]'(by omega) = setAt p p.states.length := by unfold setAt; rw [List.getD_eq_getElem?_getD, List.getElem?_eq_getElem (by omega)]; rfl
   have c2 := fun q => qatp hpz q
   have c3 := fun q => pktf_s b port q
   have hy := yok_of hs hpz
   have c4 := fun (h : (pkF b port).1 = 0) => fun q => parse_s p hy (.view 1 (p.tabs.map (stC p))) b port (pk_ok h).1 (pk_ok h).2.1 (by omega) q
   have hw : (qaek p b port).1 = true → (setAt p p.states.length).there = true ∧ qaif (qaek p b port).2 &&& (setAt p p.states.length).must = (setAt p p.states.length).must ∧ qaif (qaek p b port).2 &&& (setAt p p.states.length).may = qaif (qaek p b port).2 ∧ (setAt p p.states.length).least ≤ (b.length : Int) - (qaek p b port).2.b.length ∧ (b.length : Int) - (qaek p b port).2.b.length ≤ (setAt p p.states.length).most := fun ht => by
    have h0 : RW p 0 0 (wayG b.length (qafl p b port)) := ⟨rfl, qay0 p hy.pl b port _ _⟩
    have := qast hy.pl (n := b.length) p.states.length 0 (qafl p b port) (qasx p b port) (fun e => absurd e (by decide)) (fun _ _ => ⟨by decide, by have := hy.pl.states; omega, h0⟩) ht
    exact qa2s hy.pl this
   generalize qan6 p = C at c1 hc0
   generalize pkF b port = K at c3 c4
   generalize qaek p b port = G at c4 hw
   generalize setAt p p.states.length = y at hgs2 hw
   generalize qaif G.2 = TT at c4 hw
   have kc : (C.1 != 0) = false := by simpa using hc0
   replace c1 := Lib.hid c1
   replace c2 := Lib.hid c2
   replace c3 := Lib.hid c3
   replace hs := Lib.hid hs
   replace hk := Lib.hid hk
   replace hy := Lib.hid hy
   clear hwl hpz hc0
   by_cases hkz : K.1 = 0
   ·have c5 := c4 hkz
    have kk : (K.1 != 0) = false := by simpa using hkz
    replace c5 := Lib.hid c5
    clear c4 hkz
    cases hG1 : G.1 <;> rw [hG1] at c5
    ·clear hw
     repeat' (first | (with_reducible refine zA ?_) | ((with_reducible refine qaad ?_); (try rw [hP]); simp -implicitDefEqProofs [setc, *]) | ((with_reducible refine qaae ?_); (try simp -implicitDefEqProofs [setc, *])) | ((with_reducible refine qaam ?_); (try simp only [qaau, qaaf, qaai])) | ((with_reducible refine qaab rfl (fun h => ?_) (fun h => ?_)) <;> have h' := h <;> (try simp at h') <;> (try subst h')) | ((first | refine qabb (qae3 _) ?_ | refine qabb (hg _) ?_ | refine qabb (c1.out _) ?_ | refine qabb (c2.out _) ?_ | refine qabb (c3.out _) ?_ | refine qabb (c5.out _) ?_); simp -implicitDefEqProofs [setc, *]) | (with_reducible refine zN hm ?_) | fail)
     all_goals first | rfl | trace_state
    ·obtain ⟨w1, w2, w3, w4, w5⟩ := hw hG1
     clear hw
     repeat' (first | (with_reducible refine zA ?_) | ((with_reducible refine qaad ?_); (try rw [hP]); simp -implicitDefEqProofs [-BitVec.toNat_and, qabq, setc, *]) | ((with_reducible refine qaae ?_); (try simp -implicitDefEqProofs [-BitVec.toNat_and, qabq, setc, *])) | ((with_reducible refine qaam ?_); (try simp only [qaau, qaaf, qaai])) | ((with_reducible refine qaab rfl (fun h => ?_) (fun h => ?_)) <;> have h' := h <;> (try simp at h') <;> (try subst h')) | ((with_reducible refine qabw ?_ ?_); (first | omega | (unfold maxLen; omega)); simp -implicitDefEqProofs [-BitVec.toNat_and, qabq, setc, *]) | ((first | refine qabb (qae3 _) ?_ | refine qabb (hg _) ?_ | refine qabb (c1.out _) ?_ | refine qabb (c2.out _) ?_ | refine qabb (c3.out _) ?_ | refine qabb (c5.out _) ?_); simp -implicitDefEqProofs [-BitVec.toNat_and, qabq, setc, *]) | (with_reducible refine zN hm ?_) | fail)
     all_goals first | rfl | trace_state
   ·have kk : (K.1 != 0) = true := by simpa using hkz
    clear c4 hkz hw
    repeat' (first | (with_reducible refine zA ?_) | ((with_reducible refine qaad ?_); (try rw [hP]); simp -implicitDefEqProofs [setc, *]) | ((with_reducible refine qaae ?_); (try simp -implicitDefEqProofs [setc, *])) | ((with_reducible refine qaam ?_); (try simp only [qaau, qaaf, qaai])) | ((with_reducible refine qaab rfl (fun h => ?_) (fun h => ?_)) <;> have h' := h <;> (try simp at h') <;> (try subst h')) | ((first | refine qabb (qae3 _) ?_ | refine qabb (hg _) ?_ | refine qabb (c1.out _) ?_ | refine qabb (c3.out _) ?_); simp -implicitDefEqProofs [setc, *]) | (with_reducible refine zN hm ?_) | fail)
    all_goals first | rfl | trace_state
  ·have kc : ((qan6 p).1 != 0) = true := by simpa using hc0
   generalize qan6 p = C at c1 kc
   generalize qayu p = L at c1
   replace c1 := Lib.hid c1
   replace hs := Lib.hid hs
   replace hk := Lib.hid hk
   clear hc0
   repeat' (first | (with_reducible refine zA ?_) | ((with_reducible refine qaad ?_); (try rw [hP]); simp -implicitDefEqProofs [setc, *]) | ((with_reducible refine qaae ?_); (try simp -implicitDefEqProofs [setc, *])) | ((with_reducible refine qaam ?_); (try simp only [qaau, qaaf, qaai])) | ((with_reducible refine qaab rfl (fun h => ?_) (fun h => ?_)) <;> have h' := h <;> (try simp at h') <;> (try subst h')) | ((first | refine qabb (qae3 _) ?_ | refine qabb (hg _) ?_ | refine qabb (c1.out _) ?_); simp -implicitDefEqProofs [setc, *]) | (with_reducible refine zN hm ?_) | fail)
   all_goals first | rfl | trace_state
 ·repeat' (first | (with_reducible refine zA ?_) | ((with_reducible refine qaad ?_); (try rw [hP]); simp -implicitDefEqProofs [*]) | ((with_reducible refine qaae ?_); (try simp -implicitDefEqProofs [*])) | ((with_reducible refine qaam ?_); (try simp only [qaau, qaaf, qaai])) | ((with_reducible refine qaab rfl (fun h => ?_) (fun h => ?_)) <;> have h' := h <;> (try simp at h') <;> (try subst h')) | ((first | refine qabb (qae3 _) ?_ | refine qabb (hg _) ?_); simp -implicitDefEqProofs [*]) | (with_reducible refine zN hm ?_) | fail)
  all_goals rfl
theorem WalkSure_law (p : PlanD) (cs : Array Value) (ao : Option Addr) (n cap : Nat) (b : List Int) (port : Int) (w : World) (h : planLay.rep NoA w p cs.toList) (hr : Rd w .u8 ao n cap b) (hp : (Lit.int .i64 port).wf = true) :
  Calls Try.prog 3 #[.agg cs, .slice ao n cap, .int .i64 port] w fun e w' => e = .returned (.bool true) ∧ Below w.heap.size w w' :=
 law_of (vs := [.agg cs, .slice ao n cap, .int .i64 port]) (wsure_s p (qazt NoA w p cs.toList h) b port 0) (Reps.cons (rep_lay qazp h) (Reps.cons (rd_view hr fun _ _ _ h => h) (Reps.cons .int Reps.nil)))
end Go.Proofs.Yticeaegpkpjjeaa
