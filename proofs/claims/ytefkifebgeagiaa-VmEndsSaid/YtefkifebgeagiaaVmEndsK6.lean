/-
  Texts joined: XVmB XVmC XVmD XVmE XVmF XVmG XVmH XVmI. No condition.
-/
import Derived.Test.YtefkifebgeagiaaProg
import Derived.Test.YtefkifebgeagiaaRows
import Derived.Deep.QuietTactic
import Derived.BigQuiet
import Derived.WalkSmall
import Derived.Handy
import Derived.Deep.RegionLaw
import Derived.Deep.Cut
import Derived.Deep.CutRange
import Derived.WalkSpells
import Derived.RegionTactic
import Derived.BigRegion
import Derived.Deep.RegionHeld3
import Derived.Deep.DrawnRows
import Derived.Outline
import Derived.Laws.StructEq
import Derived.Test.YtefkifebgeagiaaVmEndsK5
namespace Go.Proofs.Ytefkifebgeagiaa
set_option linter.all false
open Go.RowKit
attribute [local simp] qab2 qab1 qaa2 qabg qaa3 qabf qabz qab0 qaav qacs SOp.run SX.ev putd puts argS upds SOp.touch SSt.keep SSt.skip gets geth puth delh idOf SV.cells? setL qaf7 qaf8 sbin eq0 eq1 eqL qafp qaef qaeg qaaj qab3 qaaa qab4 qact qaae qaas FrzOk qabj qaa5 qabh qabi qaax qaa4 qab5 qaa6 qaaz qabk qaay frzS frzH frz frz1 frz0 SlotsM ObjsM ObjM rn ren ren1 ren0 qacw qadi qaep qacv qab6 qadj qaeo CoL qabm qabl dels adds idsH qabc
variable {p : Prog} {b : List Int} {port : Int} {M : VmM}
theorem qapc (p : Prog) (b : List Int) (port : Int) (M : VmM) {hp : Hp} (h0 : geth hp 0 = some (.cells 91 (vcl p b port M))) (h1 : geth hp 1 = some (.row 39 1 (M.slot.map fun x => [SV.int .u64 x]))) (h2 : geth hp 2 = some (.row 4 1 (M.full.map fun x => [SV.bool x]))) (h3 : geth hp 3 = some (.row 5 1 (M.out.map fun x => [SV.int .u8 x]))) : Lent hp (.ptr 0 0) (.cp (vcw p b port M)) := by
 refine qaqh (t := 91) (cs := vcl p b port M) h0 ?_ ?_
 ·have app : ∀ xs cs ds, qapj hp cs ds → qapj hp (xs ++ cs) (xs ++ ds) := by
   intro xs cs ds h
   induction xs with
   | nil => exact h
   | cons x xs ih => exact ⟨qacm _, ih⟩
  exact app [_, _, _, _, _, _] _ _ (app _ _ _ (app _ _ _ ⟨qaej (e := 39) h1 PureR.pure (by simp), qaej (e := 4) h2 PureR.pure (by simp), qacm _, qaej (e := 5) h3 PureR.pure (by simp), trivial⟩))
 ·intro x hx
  simp only [vcw, vcg, vtw, List.mem_cons, List.mem_append, List.mem_map, List.not_mem_nil, or_false] at hx
  rcases hx with rfl | rfl | rfl | rfl | rfl | rfl | ⟨a, _, rfl⟩ | ⟨a, _, rfl⟩ | rfl | rfl | rfl | rfl <;> first | exact qage _ _ | exact qafd _ | exact qafc _ _ | exact qaeh
def regC (M : VmM) : List Int → Int
 | [] => 0
 | r :: l => if M.have_.getD r.toNat false = true then regC M l else 15
theorem qan0 {l : List SV} {i : Nat} {x : SV} (h : l[i]? = some x) : ∃ r, l.drop i = x :: r := by
 obtain ⟨hi, rfl⟩ := List.getElem?_eq_some_iff.1 h
 exact ⟨_, List.drop_eq_getElem_cons hi⟩
theorem vreg_s (p : Prog) (b : List Int) (port : Int) (M : VmM) (h : VOk M) (l : List Int) (hl : ∀ r ∈ l, 0 ≤ r ∧ r < 10) (hll : l.length ≤ 100) (q : Nat) : SCalls Try.prog 66 [.cp (vcw p b port M), nums .i64 l] [] q (.int .i64 (regC M l)) [] := by
 refine qabu ?_ (fun _ => rfl) (fun _ => rfl) rfl q
 obtain ⟨F, hF⟩ : ∃ F, F = regC M l := ⟨_, rfl⟩
 rw [← hF]
 replace hF := Lib.hid hF
 refine qaar (N := 21) Try.func66 rfl rfl (by kernel_rfl) qaiu (by simp) (by repeat' (first | exact trivial | refine And.intro ?_ ?_ | rfl | decide | exact PureR.ren _)) (by repeat' (first | exact trivial | refine And.intro ?_ ?_ | rfl | decide | exact PureR.ren _)) ?_
 rintro X hP hN hm
 have l1 : (vcw p b port M).length = 30 := qaec h.r h.h rfl
 have l2 := fun (r : Nat) (hr : r < M.have_.length) => vcg_hav (p := p) (b := b) (port := port) (tl := vtw M) h.r hr
 change ∀ (r : Nat) (hr : r < M.have_.length), (vcw p b port M)[16 + r]? = _ at l2
 have q2 := h.h
 generalize vcw p b port M = V at l1 l2
 unfold c_vreg nums
 repeat' (first | (with_reducible refine zA ?_) | ((with_reducible refine qaac ?_); (try rw [hP]); simp -implicitDefEqProofs [*]) | fail)
 refine qab8 (qaew (fun s (i : Nat) => s.turn [(9, .int .i64 i)] []) (fun i => i ≤ l.length ∧ F = regC M (l.drop i)) (fun i => l.length - i) 0 ?_ ⟨by simp, hF.out⟩ ?_)
 ·repeat' (first | ((with_reducible refine qabw [] hm ?_ ?_ ?_ ?_) <;> (try simp only [zT, puth, Nat.reduceEqDiff, reduceIte, Nat.reduceAdd])) | (with_reducible refine za ?_ ?_) | (with_reducible first | exact qach | exact qac0) | ((with_reducible refine zgb ?_); rfl) | ((with_reducible refine zgd ?_); (first | omega | (simp; done))) | (exact Co.refl _) | fail)
 rintro J hJ i ⟨g1, g2⟩
 unfold qaig
 simp only [zT, puth, Nat.reduceEqDiff, reduceIte, Nat.reduceAdd] at g1 g2 ⊢
 replace g2 := Lib.hid g2
 rcases Nat.lt_or_ge i l.length with hi | hi
 ·have g3 := g2.out
  rw [List.drop_eq_getElem_cons hi, regC] at g3
  have hb := hl l[i] (List.getElem_mem hi)
  obtain ⟨r, hr⟩ : ∃ r : Nat, l[i] = r := ⟨l[i].toNat, by omega⟩
  have hr10 : r < 10 := by omega
  have hrh : r < M.have_.length := by omega
  rw [hr, Int.toNat_natCast, List.getD_eq_getElem?_getD, List.getElem?_eq_getElem hrh, Option.getD_some] at g3
  obtain ⟨rest, l3⟩ := qan0 (l2 r hrh)
  generalize M.have_[r] = y at l3 g3
  have wi : IntKind.i64.wrap ((i : Int) + 1) = (i : Int) + 1 := qady (by omega) (by omega)
  replace g3 := Lib.hid g3
  clear hb l2 hl
  repeat' (first | (with_reducible first | refine zA ?_ | refine qaad ?_) | ((with_reducible refine qaac ?_); (try rw [hP]); simp -implicitDefEqProofs [wi, List.getElem?_eq_getElem hi, hr, l1, l3, *]) | ((with_reducible refine qaai ?_); (try simp -implicitDefEqProofs [wi, List.getElem?_eq_getElem hi, hr, l1, l3, *])) | ((with_reducible refine qaah ?_); (try simp only [qaaj, qaaa, qaae])) | ((with_reducible refine qaab rfl (fun h => ?_) (fun h => ?_)) <;> have h' := h <;> (try simp at h') <;> (try subst h')) | ((with_reducible refine qagc ?_ ?_); (first | omega | (unfold maxLen; omega)); simp -implicitDefEqProofs [wi, List.getElem?_eq_getElem hi, hr, l1, l3, *]) | (with_reducible refine zM hm ?_) | (with_reducible refine za ?_ ?_) | (with_reducible first | exact qach | exact qac0) | ((with_reducible refine zgb ?_); rfl) | ((with_reducible first | refine zgd ?_ | refine zge ?_); (first | omega | (simp; done))) | (exact Co.refl _) | ((refine qadm hJ (i + 1) ?_ ?_ ?_; (with_reducible refine qabw [] hm ?_ ?_ ?_ ?_) <;> (try simp only [zT, puth, Nat.reduceEqDiff, reduceIte, Nat.reduceAdd]))) | fail)
  all_goals first | (refine ⟨by omega, ?_⟩; rw [g3.out, if_pos rfl]) | (rw [g3.out, if_neg (by decide)]) | omega | trace_state
 ·obtain rfl : i = l.length := by omega
  repeat' (first | (with_reducible refine zA ?_) | ((with_reducible refine qaac ?_); (try rw [hP]); simp -implicitDefEqProofs [*]) | ((with_reducible refine qae6 ?_); (try simp -implicitDefEqProofs [*])) | ((with_reducible refine qaah ?_); (try simp only [qaaj, qaaa, qaae])) | ((with_reducible refine qaab rfl (fun h => ?_) (fun h => ?_)) <;> have h' := h <;> (try simp at h') <;> (try subst h')) | (with_reducible refine zM hm ?_) | fail)
  all_goals first | (rw [g2.out, List.drop_length]; rfl) | trace_state
theorem qaj3 (p : Prog) (b : List Int) (port : Int) (M : VmM) (h : VOk M) (l : List Int) (hl : ∀ r ∈ l, 0 ≤ r ∧ r < 10) (hll : l.length ≤ 100) (id q : Nat) (hid : 4 ≤ id) : SCalls Try.prog 66 [.ptr 0 0, .own id l.length] (vobj p b port M ++ [(id, .row 3 1 (l.map fun x => [SV.int .i64 x]))]) q (.int .i64 (regC M l)) (vobj p b port M ++ [(id, .row 3 1 (l.map fun x => [SV.int .i64 x]))]) :=
 qadx (vreg_s p b port M h l hl hll q) ⟨qapc p b port M rfl rfl rfl rfl, qaej (e := 3) (by simp only [vobj, List.cons_append, List.nil_append, geth]; rw [if_neg (by omega), if_neg (by omega), if_neg (by omega), if_neg (by omega), if_pos trivial]) PureR.pure (by simp), trivial⟩ (qadt _ _)
def qabq (b : List Int) (at_ n : Int) : Bool := decide (at_ ≤ b.length) && decide (n ≤ (b.length : Int) - at_)
theorem qam7 (p : Prog) (b : List Int) (port : Int) (M : VmM) (hb : b.length ≤ 1000000) (at_ n : Int) (ha : 0 ≤ at_) (q : Nat) : SCalls Try.prog 65 [.cp (vcw p b port M), .int .u64 at_, .int .u64 n] [] q (.bool (qabq b at_ n)) [] := by
 refine qabu ?_ (fun _ => rfl) (fun _ => rfl) rfl q
 refine qaar (N := 24) Try.func65 rfl rfl (by kernel_rfl) qafk (by simp) (by repeat' (first | exact trivial | refine And.intro ?_ ?_ | rfl | decide | exact PureR.ren _)) (by repeat' (first | exact trivial | refine And.intro ?_ ?_ | rfl | decide | exact PureR.ren _)) ?_
 rintro X hP hN hm
 have w1 : IntKind.u64.wrap (b.length : Int) = b.length := qafn (by omega) (by omega)
 obtain ⟨rest, g5⟩ : ∃ rest, (vcw p b port M).drop 4 = nums .u8 b :: rest := ⟨_, rfl⟩
 obtain ⟨F, hF⟩ : ∃ F, F = qabq b at_ n := ⟨_, rfl⟩
 rw [← hF]
 unfold qabq at hF
 replace hF := Lib.hid hF
 generalize vcw p b port M = V at g5
 unfold c_vwithin
 by_cases h1 : at_ ≤ b.length
 ·have w2 : IntKind.u64.wrap ((b.length : Int) - at_) = b.length - at_ := qafn (by omega) (by omega)
  repeat' (first | (with_reducible refine zA ?_) | ((with_reducible refine qaac ?_); (try rw [hP]); simp -implicitDefEqProofs [nums, g5, w1, w2, h1, *]) | ((with_reducible refine qaah ?_); (try simp only [qaaj, qaaa, qaae])) | (with_reducible refine zN hm ?_) | fail)
  all_goals first | (rw [hF.out, decide_eq_true h1, Bool.true_and]; done) | trace_state
 ·repeat' (first | (with_reducible refine zA ?_) | ((with_reducible refine qaac ?_); (try rw [hP]); simp -implicitDefEqProofs [nums, g5, w1, h1, *]) | ((with_reducible refine qaah ?_); (try simp only [qaaj, qaaa, qaae])) | (with_reducible refine zN hm ?_) | fail)
  all_goals first | (rw [hF.out, decide_eq_false h1, Bool.false_and]; done) | trace_state
theorem qae5 (p : Prog) (b : List Int) (port : Int) (M : VmM) (hb : b.length ≤ 1000000) (at_ n : Int) (ha : 0 ≤ at_) (q : Nat) : SCalls Try.prog 65 [.ptr 0 0, .int .u64 at_, .int .u64 n] (vobj p b port M) q (.bool (qabq b at_ n)) (vobj p b port M) :=
 qadx (qam7 p b port M hb at_ n ha q) ⟨qapc p b port M rfl rfl rfl rfl, qacm _, qacm _, trivial⟩ (qala _)
def qanc (b : Bool) : Int := if b then 1 else 0
theorem qap4 (x : Bool) (q : Nat) : SCalls Try.prog 81 [.bool x] [] q (.int .u64 (qanc x)) [] := by
 refine qabu ?_ (fun _ => rfl) (fun _ => rfl) rfl q
 refine qaar (N := 4) Try.func81 rfl rfl (by kernel_rfl) qafy (by simp) (by repeat' (first | exact trivial | refine And.intro ?_ ?_ | rfl | decide | exact PureR.ren _)) (by repeat' (first | exact trivial | refine And.intro ?_ ?_ | rfl | decide | exact PureR.ren _)) ?_
 rintro X hP hN hm
 unfold c_ptruth
 cases x
 all_goals
  repeat' (first | (with_reducible refine zA ?_) | ((with_reducible refine qaac ?_); (try rw [hP]); simp -implicitDefEqProofs [*]) | ((with_reducible refine qaai ?_); (try simp -implicitDefEqProofs [*])) | ((with_reducible refine qaah ?_); (try simp only [qaaj, qaaa, qaae])) | ((with_reducible refine qaab rfl (fun h => ?_) (fun h => ?_)) <;> have h' := h <;> (try simp at h') <;> (try subst h')) | (with_reducible refine zM hm ?_) | fail)
  all_goals rfl
def onesV (a c : Int) : Int := IntKind.u64.wrap (bits .and .u64 (IntKind.u64.wrap (bits .and .u64 a 65535 + bits .and .u64 c 65535)) 65535 + IntKind.u64.wrap (bits .and .u64 a 65535 + bits .and .u64 c 65535) / 2 ^ min 16 IntKind.u64.bits)
theorem vones_s (a c : Int) (q : Nat) : SCalls Try.prog 74 [.int .u64 a, .int .u64 c] [] q (.int .u64 (onesV a c)) [] := by
 refine qabu ?_ (fun _ => rfl) (fun _ => rfl) rfl q
 refine qaar (N := 16) Try.func74 rfl rfl (by kernel_rfl) qagn (by simp) (by repeat' (first | exact trivial | refine And.intro ?_ ?_ | rfl | decide | exact PureR.ren _)) (by repeat' (first | exact trivial | refine And.intro ?_ ?_ | rfl | decide | exact PureR.ren _)) ?_
 rintro X hP hN hm
 unfold c_vones
 repeat' (first | (with_reducible refine zA ?_) | ((with_reducible refine qaac ?_); (try rw [hP]); simp -implicitDefEqProofs [*]) | ((with_reducible refine qaah ?_); (try simp only [qaaj, qaaa, qaae])) | (with_reducible refine zM hm ?_) | fail)
 all_goals rfl
def qajy (op a c : Int) : Int :=
 if op = 3 then IntKind.u64.wrap (a + c) else if op = 4 then IntKind.u64.wrap (a - c) else if op = 5 then IntKind.u64.wrap (a * c) else if op = 6 then bits .and .u64 a c else if op = 7 then bits .or .u64 a c else if op = 8 then bits .xor .u64 a c
 else if op = 9 then IntKind.u64.wrap (a * 2 ^ min c.toNat IntKind.u64.bits) else if op = 10 then a / 2 ^ min c.toNat IntKind.u64.bits else if op = 11 then qanc (decide (a < c)) else if op = 12 then qanc (a == c) else 0
theorem qap5 (op a c : Int) (hc : 0 ≤ c) (q : Nat) : SCalls Try.prog 75 [.int .i64 op, .int .u64 a, .int .u64 c] [] q (.int .u64 (qajy op a c)) [] := by
 refine qabu ?_ (fun _ => rfl) (fun _ => rfl) rfl q
 refine qaar (N := 60) Try.func75 rfl rfl (by kernel_rfl) qafz (by simp) (by repeat' (first | exact trivial | refine And.intro ?_ ?_ | rfl | decide | exact PureR.ren _)) (by repeat' (first | exact trivial | refine And.intro ?_ ?_ | rfl | decide | exact PureR.ren _)) ?_
 rintro X hP hN hm
 unfold c_papply
 repeat' (first | (with_reducible first | refine zA ?_ | refine qaad ?_) | ((with_reducible refine qaac ?_); (try rw [hP]); simp -implicitDefEqProofs [*]) | ((with_reducible refine qaai ?_); (try simp -implicitDefEqProofs [*])) | ((with_reducible refine qaah ?_); (try simp only [qaaj, qaaa, qaae])) | ((with_reducible refine qaab rfl (fun h => ?_) (fun h => ?_)) <;> have h' := h <;> (try simp at h') <;> (try subst h')) | (refine qabb (qap4 _ _) ?_; simp -implicitDefEqProofs [*]) | (with_reducible refine zM hm ?_) | fail)
 all_goals first | rfl | (simp_all [qajy]; done) | trace_state
end Go.Proofs.Ytefkifebgeagiaa
namespace Go.Proofs.Ytefkifebgeagiaa
set_option linter.all false
open Go.RowKit
attribute [local simp] qab2 qab1 qaa2 qabg qaa3 qabf qabz qab0 qaav qacs SOp.run SX.ev putd puts argS upds SOp.touch SSt.keep SSt.skip gets geth puth delh idOf SV.cells? setL qaf7 qaf8 sbin eq0 eq1 eqL qafp qaef qaeg qaaj qab3 qaaa qab4 qact qaae qaas FrzOk qabj qaa5 qabh qabi qaax qaa4 qab5 qaa6 qaaz qabk qaay frzS frzH frz frz1 frz0 SlotsM ObjsM ObjM rn ren ren1 ren0 qacw qadi qaep qacv qab6 qadj qaeo CoL qabm qabl dels adds idsH qabc
variable {p : Prog} {b : List Int} {port : Int} {M : VmM}
structure VPos (M : VmM) : Prop where
 r : ∀ v ∈ M.regs, 0 ≤ v
 s : ∀ v ∈ M.slot, 0 ≤ v
def qaf3 (b : List Int) (at_ : Nat) : Nat → Int
 | 0 => 0
 | k + 1 => bits .or .u64 (IntKind.u64.wrap (qaf3 b at_ k * 2 ^ min 8 IntKind.u64.bits)) (IntKind.u64.wrap (el b (at_ + k)))
def qanr (b : List Int) (x : Ins) (M : VmM) : VmM × Int :=
 if qabq b (el M.regs x.s.toNat) (x.n + x.k) = true then (putM M x.r.toNat (qaf3 b ((el M.regs x.s.toNat).toNat + x.n.toNat) x.k.toNat), 0) else (M, 16)
theorem vload_s (p : Prog) (b : List Int) (port : Int) (M : VmM) (h : VOk M) (hpos : VPos M) (hb : b.length ≤ 1000000) (x : Ins) (hr : 0 ≤ x.r ∧ x.r < 10) (hs : 0 ≤ x.s ∧ x.s < 10) (hk : 1 ≤ x.k ∧ x.k ≤ 8) (hn : 0 ≤ x.n ∧ x.n ≤ 600) (q : Nat) (hq : 4 ≤ q) : SCalls Try.prog 73 [.ptr 0 0, .agg (icv x)] (vobj p b port M) q (.int .i64 (qanr b x M).2) (vobj p b port (qanr b x M).1) := by
 refine v_up ?_ q hq rfl rfl rfl
 obtain ⟨op, r0, s0, k0, tt, n0⟩ := x
 simp only at hr hs hk hn
 obtain ⟨r, rfl⟩ : ∃ r : Nat, r0 = r := ⟨r0.toNat, by omega⟩
 obtain ⟨s, rfl⟩ : ∃ r : Nat, s0 = r := ⟨s0.toNat, by omega⟩
 obtain ⟨k, rfl⟩ : ∃ r : Nat, k0 = r := ⟨k0.toNat, by omega⟩
 obtain ⟨n, rfl⟩ : ∃ r : Nat, n0 = r := ⟨n0.toNat, by omega⟩
 have hsr : s < M.regs.length := by rw [h.r]; omega
 have hat : 0 ≤ M.regs[s] := hpos.r _ (List.getElem_mem hsr)
 obtain ⟨a, ha⟩ : ∃ a : Nat, M.regs[s] = a := ⟨M.regs[s].toNat, by omega⟩
 have hL : qanr b ⟨op, r, s, k, tt, n⟩ M = if qabq b a ((n : Int) + k) = true then (putM M r (qaf3 b (a + n) k), 0) else (M, 16) := by
  unfold qanr
  simp only [Int.toNat_natCast, qaf9 M.regs s hsr, ha]
 have k1 := fun q => qae5 p b port M hb a ((n : Int) + k) (by omega) q
 have hwi : qabq b a ((n : Int) + k) = true → a + n + k ≤ b.length := by
  unfold qabq
  intro h1
  simp only [Bool.and_eq_true, decide_eq_true_eq] at h1
  omega
 obtain ⟨M2, hM2⟩ : ∃ M2, M2 = (qanr b ⟨op, r, s, k, tt, n⟩ M).1 := ⟨_, rfl⟩
 obtain ⟨e2, he2⟩ : ∃ e2, e2 = (qanr b ⟨op, r, s, k, tt, n⟩ M).2 := ⟨_, rfl⟩
 rw [← hM2, ← he2]
 rw [hL] at hM2 he2
 clear hL
 generalize hW : qabq b a ((n : Int) + k) = W at k1 hwi hM2 he2
 have w1 : IntKind.u64.wrap (k : Int) = k := qafn (by omega) (by omega)
 have w2 : IntKind.u64.wrap ((n : Int) + k) = (n : Int) + k := qafn (by omega) (by omega)
 have g1 := qaev (p := p) (b := b) (port := port) (H := M.have_) (tl := vtl M) hsr
 rw [ha] at g1
 have l1 := qaec (p := p) (b := b) (port := port) (tl := vtl M) h.r h.h rfl
 clear hW
 cases W
 ·rw [if_neg (by decide)] at hM2 he2
  refine qaar (N := 53) Try.func73 rfl rfl (by kernel_rfl) qaem (by simp) (by repeat' (first | exact trivial | refine And.intro ?_ ?_ | rfl | decide | exact PureR.ren _)) (qaes p b port M) ?_
  rintro X hP hN hm
  generalize hG : vobj p b port M2 = G
  replace hG := Lib.hid hG
  replace hM2 := Lib.hid hM2
  obtain rfl := he2
  unfold vobj vcl at k1 ⊢
  unfold c_vload
  repeat' (first | (with_reducible first | refine zA ?_ | refine zK ?_) | ((with_reducible first | refine qaac ?_ | refine qaap (by rw [hP]; exact qad7) ?_); (try rw [hP]); simp -implicitDefEqProofs [icv, w1, w2, g1, l1, *]) | ((with_reducible refine qaah ?_); (try simp only [qaaj, qaaa, qaae])) | ((with_reducible refine qaab rfl (fun h => ?_) (fun h => ?_)) <;> have h' := h <;> (try simp at h') <;> (try subst h')) | (refine qabs (k1 _) ⟨rfl, rfl, rfl, rfl, trivial⟩ ⟨rfl, rfl, rfl, rfl, trivial⟩ ?_; simp -implicitDefEqProofs [icv, w1, w2, g1, l1, *]) | ((rw [← hG.out, hM2.out]; exact qaqn hm rfl (qab9 _ _) (.inr ⟨_, rfl⟩) rfl rfl rfl rfl)) | fail)
  all_goals trace_state
 ·rw [if_pos rfl] at hM2 he2
  have hwl := hwi rfl
  have k2 := fun q hq => qapm p b port M h r (qaf3 b (a + n) k) (by omega) q hq
  refine qaar (N := 53) Try.func73 rfl rfl (by kernel_rfl) qaem (by simp) (by repeat' (first | exact trivial | refine And.intro ?_ ?_ | rfl | decide | exact PureR.ren _)) (qaes p b port M) ?_
  rintro X hP hN hm
  simp only at hM2
  rw [← hM2] at k2
  generalize hG : vobj p b port M2 = G
  replace hG := Lib.hid hG
  replace hM2 := Lib.hid hM2
  obtain rfl := he2
  unfold vobj vcl at k1 k2 ⊢
  unfold c_vload
  repeat' (first | (with_reducible first | refine zA ?_ | refine zK ?_) | ((with_reducible first | refine qaac ?_ | refine qaap (by rw [hP]; exact qad7) ?_); (try rw [hP]); simp -implicitDefEqProofs [icv, w1, w2, g1, l1, *]) | ((with_reducible refine qaai ?_); (try simp -implicitDefEqProofs [icv, w1, w2, g1, l1, *])) | ((with_reducible refine qaab rfl (fun h => ?_) (fun h => ?_)) <;> have h' := h <;> (try simp at h') <;> (try subst h')) | (refine qabs (k1 _) ⟨rfl, rfl, rfl, rfl, trivial⟩ ⟨rfl, rfl, rfl, rfl, trivial⟩ ?_; simp -implicitDefEqProofs [icv, w1, w2, g1, l1, *]) | fail)
  refine qab8 (qaew (fun s (z : Nat × Int) => s.turn [(27, .int .i64 z.1), (6, .int .u64 z.2)] []) (fun z => z.1 ≤ k ∧ z.2 = qaf3 b (a + n) z.1) (fun z => k - z.1) (0, 0) ?_ ⟨by simp, rfl⟩ ?_)
  ·repeat' (first | ((with_reducible refine qabw [] hm ?_ ?_ ?_ ?_) <;> (try simp only [zT, puth, Nat.reduceEqDiff, reduceIte, Nat.reduceAdd])) | (with_reducible first | refine za ?_ ?_ | refine zb ?_ ?_ ?_ ?_ | refine zc ?_ ?_ ?_ ?_) | (with_reducible first | exact qach | exact qac0) | ((with_reducible first | refine zga ?_ | refine zgb ?_); rfl) | ((with_reducible refine zgc ?_); (first | (with_reducible rfl) | rfl | (simp; done))) | ((with_reducible refine zgd ?_); (first | omega | (simp; done))) | (exact Co.refl _) | (exact CoL.refl _) | fail)
   all_goals exact qaj5 p b port M rfl rfl rfl
  rintro J hJ ⟨i, v⟩ ⟨g2, g3⟩
  unfold qaf2
  simp only [zT, puth, Nat.reduceEqDiff, reduceIte, Nat.reduceAdd] at g2 g3 ⊢
  rcases Nat.lt_or_ge i k with hi | hi
  ·have hbl : a + n + i < b.length := by omega
   have wi : IntKind.i64.wrap ((i : Int) + 1) = (i : Int) + 1 := qady (by omega) (by omega)
   have g5 : qaf3 b (a + n) (i + 1) = bits .or .u64 (IntKind.u64.wrap (v * 2 ^ min 8 IntKind.u64.bits)) (IntKind.u64.wrap b[a + n + i]) := by
    rw [qaf3, ← g3, qaf9 b (a + n + i) hbl]
   clear g3
   obtain ⟨A, hA⟩ : ∃ A : Nat, A = a + n := ⟨_, rfl⟩
   obtain ⟨B, hB⟩ : ∃ B : Nat, B = a + n + i := ⟨_, rfl⟩
   have e1 : (a : Int) + n = A := by omega
   have e2 : (A : Int) + i = B := by omega
   have w3 : IntKind.u64.wrap (A : Int) = A := qafn (by omega) (by omega)
   have w4 : IntKind.i64.wrap (A : Int) = A := IntWalk.i64_in _ ⟨by omega, by omega⟩
   have w5 : IntKind.i64.wrap (B : Int) = B := IntWalk.i64_in _ ⟨by omega, by omega⟩
   subst hB
   replace hA := Lib.hid hA
   generalize hBB : a + n + i = B at *
   replace hBB := Lib.hid hBB
   replace g5 := Lib.hid g5
   repeat' (first | (with_reducible first | refine zA ?_ | refine qaad ?_ | refine zK ?_) | ((with_reducible first | refine qaac ?_ | refine qaap (by rw [hP]; exact qad7) ?_); (try rw [hP]); simp -implicitDefEqProofs [nums, wi, e1, e2, w3, w4, w5, l1, qabe, List.getElem?_eq_getElem hbl, *]) | ((with_reducible refine qaai ?_); (try simp -implicitDefEqProofs [nums, wi, e1, e2, w3, w4, w5, l1, qabe, List.getElem?_eq_getElem hbl, *])) | ((with_reducible refine qaab rfl (fun h => ?_) (fun h => ?_)) <;> have h' := h <;> (try simp at h') <;> (try subst h')) | (with_reducible first | refine za ?_ ?_ | refine zb ?_ ?_ ?_ ?_ | refine zc ?_ ?_ ?_ ?_) | (with_reducible first | exact qach | exact qac0) | ((with_reducible first | refine zga ?_ | refine zgb ?_); rfl) | ((with_reducible refine zgc ?_); (first | (with_reducible rfl) | rfl | (simp; done))) | ((with_reducible first | refine zgd ?_ | refine zge ?_); (first | omega | (simp; done))) | (exact Co.refl _) | (exact CoL.refl _) | ((refine qadm hJ ((i + 1, ?_)) ?_ ?_ ?_; rotate_left 1; (with_reducible refine qabw [] hm ?_ ?_ ?_ ?_) <;> (try simp only [zT, puth, Nat.reduceEqDiff, reduceIte, Nat.reduceAdd]))) | (exact qaj5 p b port M rfl rfl rfl) | fail)
   all_goals exact ⟨by simp only; omega, g5.out.symm⟩
  ·obtain rfl : i = k := by omega
   subst g3
   repeat' (first | (with_reducible refine zA ?_) | ((with_reducible refine qaac ?_); (try rw [hP]); simp -implicitDefEqProofs [*]) | ((with_reducible refine qae6 ?_); (try simp -implicitDefEqProofs [*])) | ((with_reducible refine qaah ?_); (try simp only [qaaj, qaaa, qaae])) | ((with_reducible refine qaab rfl (fun h => ?_) (fun h => ?_)) <;> have h' := h <;> (try simp at h') <;> (try subst h')) | (refine qadk (k2 _ (by simp)) ⟨rfl, rfl, rfl, rfl, trivial⟩ ⟨rfl, rfl, rfl, rfl, trivial⟩ ?_; simp -implicitDefEqProofs [*]) | ((rw [← hG.out]; exact qaqn hm rfl (qab9 _ _) (.inr ⟨_, rfl⟩) rfl rfl rfl rfl)) | fail)
   all_goals trace_state
end Go.Proofs.Ytefkifebgeagiaa
namespace Go.Proofs.Ytefkifebgeagiaa
set_option linter.all false
open Go.RowKit
attribute [local simp] qab2 qab1 qaa2 qabg qaa3 qabf qabz qab0 qaav qacs SOp.run SX.ev putd puts argS upds SOp.touch SSt.keep SSt.skip gets geth puth delh idOf SV.cells? setL qaf7 qaf8 sbin eq0 eq1 eqL qafp qaef qaeg qaaj qab3 qaaa qab4 qact qaae qaas FrzOk qabj qaa5 qabh qabi qaax qaa4 qab5 qaa6 qaaz qabk qaay frzS frzH frz frz1 frz0 SlotsM ObjsM ObjM rn ren ren1 ren0 qacw qadi qaep qacv qab6 qadj qaeo CoL qabm qabl dels adds idsH qabc
variable {p : Prog} {b : List Int} {port : Int} {M : VmM}
def putB (v : Int) : Nat → List Int
 | 0 => []
 | k + 1 => IntKind.u8.wrap (v / 2 ^ min (8 * k) IntKind.u64.bits) :: putB v k
def notV (v : Int) : Int := bits .xor .u64 (if IntKind.u64.signed = true then -1 else IntKind.u64.max) v
def oneM (b : List Int) (x : Ins) (M : VmM) : VmM × Int :=
 if M.have_.getD x.r.toNat false = false then (M, 15)
 else if x.op = 4 then (putM M x.r.toNat (notV (el M.regs x.r.toNat)), 0)
 else if x.op = 8 then ({ M with slot := M.slot.set x.n.toNat (el M.regs x.r.toNat), full := M.full.set x.n.toNat true }, 0)
 else if x.op = 14 then ({ M with out := M.out ++ putB (el M.regs x.r.toNat) x.k.toNat }, 0)
 else if x.op = 15 then (if qabq b (el M.regs x.r.toNat) 0 = true then ({ M with out := M.out ++ b.drop (el M.regs x.r.toNat).toNat }, 0) else (M, 16))
 else if x.op = 16 then ({ M with op := IntKind.i64.wrap (bits .and .u64 (el M.regs x.r.toNat) 65535) }, 0)
 else (M, 0)
structure VSl (p : Prog) (M : VmM) : Prop where
 s : (M.slot.length : Int) = p.slots
 f : (M.full.length : Int) = p.slots
set_option maxRecDepth 4000 in
theorem vone_s (p : Prog) (b : List Int) (port : Int) (M : VmM) (h : VOk M) (hpos : VPos M) (hsl : VSl p M) (hb : b.length ≤ 1000000) (ho : M.out.length ≤ 100000000) (x : Ins) (hr : 0 ≤ x.r ∧ x.r < 10) (hn0 : 0 ≤ x.n) (hn : x.op = 8 → x.n < p.slots) (hk : x.op = 14 → 1 ≤ x.k ∧ x.k ≤ 8) : SCalls Try.prog 76 [.ptr 0 0, .agg (icv x)] (vobj p b port M) 4 (.int .i64 (oneM b x M).2) (qaet 4 p b port (oneM b x M).1) := by
 obtain ⟨op, r0, s0, k0, tt, n0⟩ := x
 simp only at hr hn0 hn hk
 obtain ⟨r, rfl⟩ : ∃ r : Nat, r0 = r := ⟨r0.toNat, by omega⟩
 obtain ⟨n, rfl⟩ : ∃ r : Nat, n0 = r := ⟨n0.toNat, by omega⟩
 have hrr : r < M.regs.length := by rw [h.r]; omega
 have hrh : r < M.have_.length := by rw [h.h]; omega
 have hat : 0 ≤ M.regs[r] := hpos.r _ (List.getElem_mem hrr)
 obtain ⟨a, ha⟩ : ∃ a : Nat, M.regs[r] = a := ⟨M.regs[r].toNat, by omega⟩
 obtain ⟨M2, hM2⟩ : ∃ M2, M2 = (oneM b ⟨op, r, s0, k0, tt, n⟩ M).1 := ⟨_, rfl⟩
 obtain ⟨e2, he2⟩ : ∃ e2, e2 = (oneM b ⟨op, r, s0, k0, tt, n⟩ M).2 := ⟨_, rfl⟩
 rw [← hM2, ← he2]
 have hL : oneM b ⟨op, r, s0, k0, tt, n⟩ M = if M.have_[r] = false then (M, 15) else if op = 4 then (putM M r (notV a), 0) else if op = 8 then ({ M with slot := M.slot.set n a, full := M.full.set n true }, 0)
   else if op = 14 then ({ M with out := M.out ++ putB a k0.toNat }, 0) else if op = 15 then (if qabq b a 0 = true then ({ M with out := M.out ++ b.drop a }, 0) else (M, 16)) else if op = 16 then ({ M with op := IntKind.i64.wrap (bits .and .u64 a 65535) }, 0) else (M, 0) := by
  unfold oneM
  simp only [Int.toNat_natCast, qaf9 M.regs r hrr, ha, List.getD_eq_getElem?_getD, List.getElem?_eq_getElem hrh, Option.getD_some]
 rw [hL] at hM2 he2
 clear hL
 have k1 := fun id q hid => qaj3 p b port M h [(r : Int)] (by intro y hy; simp at hy; omega) (by simp) id q hid
 rw [show regC M [(r : Int)] = if M.have_[r] = true then 0 else 15 by simp [regC, List.getElem?_eq_getElem hrh]] at k1
 have g1 := qaev (p := p) (b := b) (port := port) (H := M.have_) (tl := vtl M) hrr
 rw [ha] at g1
 have l1 := fun (R : List Int) (H : List Bool) (u x y z : SV) (hR : R.length = 10) (hH : H.length = 10) => qaec (p := p) (b := b) (port := port) (tl := [u, x, y, z]) hR hH rfl
 have q1 := h.r
 have q2 := h.h
 generalize hY : M.have_[r] = Y at k1 hM2 he2
 refine qaar (N := 108) Try.func76 rfl rfl (by kernel_rfl) qaiw (by simp) (by repeat' (first | exact trivial | refine And.intro ?_ ?_ | rfl | decide | exact PureR.ren _)) (qaes p b port M) ?_
 rintro X hP hN hm
 unfold c_vone
 replace hM2 := Lib.hid hM2
 replace he2 := Lib.hid he2
 unfold vobj vcl vtl at k1 ⊢
 unfold vtl at g1
 simp only [List.cons_append, List.nil_append] at k1
 cases Y
 ·rw [if_neg (by decide)] at k1
  obtain rfl : e2 = 15 := by rw [he2.out, if_pos rfl]
  obtain rfl : M2 = M := by rw [hM2.out, if_pos rfl]
  repeat' (first | (with_reducible refine zA ?_) | ((with_reducible refine qaac ?_); (try rw [hP]); simp -implicitDefEqProofs [icv, l1, q1, q2, *]) | ((with_reducible refine qaah ?_); (try simp only [qaaj, qaaa, qaae])) | ((with_reducible refine qaab rfl (fun h => ?_) (fun h => ?_)) <;> have h' := h <;> (try simp at h') <;> (try subst h')) | (refine qabs (k1 _ _ (by simp)) ⟨rfl, rfl, rfl, rfl, rfl, trivial⟩ ⟨rfl, rfl, rfl, rfl, rfl, trivial⟩ ?_; simp -implicitDefEqProofs [icv, l1, q1, q2, *]) | (exact qacd 3 (.inl rfl) hm rfl rfl rfl rfl rfl) | fail)
  all_goals trace_state
 ·rw [if_pos rfl] at k1
  have hM3 := hM2.out
  have he3 := he2.out
  rw [if_neg (by decide)] at hM3 he3
  clear hM2 he2 hY
  by_cases o4 : op = 4
  ·rw [if_pos o4] at hM3 he3
   obtain rfl : e2 = 0 := he3
   obtain rfl : M2 = putM M r (notV a) := hM3
   subst o4
   have k2 := fun q hq => qapm p b port M h r (notV a) (by omega) q hq
   obtain ⟨I, hI⟩ : ∃ I, I = qaet 4 p b port (putM M r (notV a)) := ⟨_, rfl⟩
   rw [← hI]
   replace hI := Lib.hid hI
   unfold vobj vcl vtl at k2
   unfold notV at k2 hI
   repeat' (first | (with_reducible first | refine zA ?_ | refine qaad ?_ | refine zK ?_) | ((with_reducible first | refine qaac ?_ | refine qaap (by rw [hP]; exact qad7) ?_); (try rw [hP]); simp -implicitDefEqProofs [icv, l1, q1, q2, g1, qaao, qaan, qaam, qaal, qaag, qaaf, qabe, *]) | ((with_reducible refine qaai ?_); (try simp -implicitDefEqProofs [icv, l1, q1, q2, g1, qaao, qaan, qaam, qaal, qaag, qaaf, qabe, *])) | ((with_reducible refine qaah ?_); (try simp only [qaaj, qaaa, qaae])) | ((with_reducible refine qaab rfl (fun h => ?_) (fun h => ?_)) <;> have h' := h <;> (try simp at h') <;> (try subst h')) | ((first | refine qabs (k1 _ _ (by simp)) ⟨rfl, rfl, rfl, rfl, rfl, trivial⟩ ⟨rfl, rfl, rfl, rfl, rfl, trivial⟩ ?_ | refine qadk (k2 _ (by simp)) ⟨rfl, rfl, rfl, rfl, trivial⟩ ⟨rfl, rfl, rfl, rfl, trivial⟩ ?_); simp -implicitDefEqProofs [icv, l1, q1, q2, g1, qaao, qaan, qaam, qaal, qaag, qaaf, qabe, *]) | ((rw [hI.out]; exact qacd 3 (.inl rfl) hm rfl rfl rfl rfl rfl)) | fail)
   all_goals trace_state
  rw [if_neg o4] at hM3 he3
  by_cases o8 : op = 8
  ·rw [if_pos o8] at hM3 he3
   obtain rfl : e2 = 0 := he3
   subst o8
   have hns : n < M.slot.length := by have := hsl.s; have := hn rfl; omega
   have hnf : n < M.full.length := by have := hsl.f; have := hn rfl; omega
   replace hM3 := Lib.hid hM3
   repeat' (first | (with_reducible first | refine zA ?_ | refine qaad ?_ | refine zK ?_) | ((with_reducible first | refine qaac ?_ | refine qaap (by rw [hP]; exact qad7) ?_); (try rw [hP]); simp -implicitDefEqProofs [icv, l1, q1, q2, g1, qaao, qaan, qaam, qaal, qaag, qaaf, qabe, List.getElem?_eq_getElem hns, List.getElem?_eq_getElem hnf, *]) | ((with_reducible refine qaai ?_); (try simp -implicitDefEqProofs [icv, l1, q1, q2, g1, qaao, qaan, qaam, qaal, qaag, qaaf, qabe, List.getElem?_eq_getElem hns, List.getElem?_eq_getElem hnf, *])) | ((with_reducible refine qaah ?_); (try simp only [qaaj, qaaa, qaae])) | ((with_reducible refine qaab rfl (fun h => ?_) (fun h => ?_)) <;> have h' := h <;> (try simp at h') <;> (try subst h')) | (refine qabs (k1 _ _ (by simp)) ⟨rfl, rfl, rfl, rfl, rfl, trivial⟩ ⟨rfl, rfl, rfl, rfl, rfl, trivial⟩ ?_; simp -implicitDefEqProofs [icv, l1, q1, q2, g1, qaao, qaan, qaam, qaal, qaag, qaaf, qabe, List.getElem?_eq_getElem hns, List.getElem?_eq_getElem hnf, *]) | ((rw [hM3.out]; exact qacd 3 (.inl rfl) hm rfl (by simp [geth]) (by simp [geth]) (by simp [geth]) rfl)) | fail)
   all_goals trace_state
  rw [if_neg o8] at hM3 he3
  by_cases o14 : op = 14
  ·rw [if_pos o14] at hM3 he3
   subst o14
   obtain rfl : e2 = 0 := he3
   have hk := hk rfl
   obtain ⟨k, rfl⟩ : ∃ r : Nat, k0 = r := ⟨k0.toNat, by omega⟩
   rw [Int.toNat_natCast] at hM3
   replace hM3 := Lib.hid hM3
   have wk0 : IntKind.i64.wrap ((k : Int) - 1) = (k : Int) - 1 := IntWalk.i64_in _ ⟨by omega, by omega⟩
   repeat' (first | (with_reducible first | refine zA ?_ | refine qaad ?_ | refine zK ?_) | ((with_reducible first | refine qaac ?_ | refine qaap (by rw [hP]; exact qad7) ?_); (try rw [hP]); simp -implicitDefEqProofs [icv, l1, q1, q2, g1, qaao, qaan, qaam, qaal, qaag, qaaf, qabe, wk0, *]) | ((with_reducible refine qaai ?_); (try simp -implicitDefEqProofs [icv, l1, q1, q2, g1, qaao, qaan, qaam, qaal, qaag, qaaf, qabe, wk0, *])) | ((with_reducible refine qaab rfl (fun h => ?_) (fun h => ?_)) <;> have h' := h <;> (try simp at h') <;> (try subst h')) | (refine qabs (k1 _ _ (by simp)) ⟨rfl, rfl, rfl, rfl, rfl, trivial⟩ ⟨rfl, rfl, rfl, rfl, rfl, trivial⟩ ?_; simp -implicitDefEqProofs [icv, l1, q1, q2, g1, qaao, qaan, qaam, qaal, qaag, qaaf, qabe, wk0, *]) | fail)
   refine qab8 (qaew (fun s (z : Nat × List Int) => ⟨[(0, .ptr 0 0), (6, .int .u64 a), (7, .int .i64 ((z.1 : Int) - 1))], [(0, .cells 91 (vcg p b port M.regs M.have_ [.own 1 M.slot.length, .own 2 M.full.length, .int .i64 M.op, .own 4 z.2.length])), (1, .row 39 1 (M.slot.map fun x => [SV.int .u64 x])), (2, .row 4 1 (M.full.map fun x => [SV.bool x])), (4, .row 5 1 (z.2.map fun x => [SV.int .u8 x]))], 5⟩) (fun z => z.1 ≤ 8 ∧ M2 = { M with out := z.2 ++ putB a z.1 } ∧ z.2.length + z.1 ≤ 100000008) (fun z => z.1) (k, M.out) ?_ ⟨by simp only; omega, hM3.out, by simp only; omega⟩ ?_)
   ·exact qabw [(4, 3)] hm ⟨Co.refl _, Co.refl _, Co.refl _, trivial⟩ ⟨⟨_, rfl, rfl, by rw [qaeu _ _ _ _ _ _ _ _ _ _ rfl rfl]; exact CoL.refl _⟩, ⟨_, rfl, rfl, rfl, by rw [PureR.ren]; exact CoLL.refl _⟩, ⟨_, rfl, rfl, rfl, by rw [PureR.ren]; exact CoLL.refl _⟩, ⟨_, rfl, rfl, rfl, by rw [PureR.ren]; exact CoLL.refl _⟩, trivial⟩ rfl (by simp)
   rintro J hJ ⟨i, o⟩ ⟨f1, f2, f3⟩
   unfold qaih
   simp only at f1 f2 f3 ⊢
   replace f2 := Lib.hid f2
   cases i with
   | zero =>
    repeat' (first | (with_reducible refine zA ?_) | ((with_reducible refine qaac ?_); (try rw [hP]); simp -implicitDefEqProofs [icv, l1, q1, q2, g1, qaao, qaan, qaam, qaal, qaag, qaaf, qabe, *]) | ((with_reducible refine qae6 ?_); (try simp -implicitDefEqProofs [icv, l1, q1, q2, g1, qaao, qaan, qaam, qaal, qaag, qaaf, qabe, *])) | ((with_reducible refine qaah ?_); (try simp only [qaaj, qaaa, qaae])) | ((with_reducible refine qaab rfl (fun h => ?_) (fun h => ?_)) <;> have h' := h <;> (try simp at h') <;> (try subst h')) | ((rw [f2.out]; exact qacd 4 (.inr (by decide)) hm rfl (by simp [geth, putB]) rfl rfl (by simp [geth, putB]))) | fail)
    all_goals trace_state
   | succ j =>
    have w5 : IntKind.i64.wrap (8 * (j : Int)) = 8 * (j : Int) := IntWalk.i64_in _ ⟨by omega, by omega⟩
    have w6 : IntKind.i64.wrap ((j : Int) - 1) = (j : Int) - 1 := IntWalk.i64_in _ ⟨by omega, by omega⟩
    have e5 : ((j + 1 : Nat) : Int) - 1 = j := by omega
    have e6 : (8 * (j : Int)).toNat = 8 * j := by omega
    have e7 : 0 ≤ 8 * (j : Int) := by omega
    have b1 : o.length + 1 ≤ maxLen := by unfold maxLen; omega
    have b2 : o.length + 1 ≤ 140737488355328 := by omega
    simp only [e5]
    repeat' (first | (with_reducible first | refine zA ?_ | refine qaj9 ?_ | refine zK ?_) | ((with_reducible first | refine qaac ?_ | refine qaap (by rw [hP]; exact qad7) ?_); (try rw [hP]); simp -implicitDefEqProofs [icv, l1, q1, q2, g1, qaao, qaan, qaam, qaal, qaag, qaaf, qabe, w5, w6, e6, e7, b1, b2, *]) | ((with_reducible refine qaai ?_); (try simp -implicitDefEqProofs [icv, l1, q1, q2, g1, qaao, qaan, qaam, qaal, qaag, qaaf, qabe, w5, w6, e6, e7, b1, b2, *])) | ((with_reducible refine qaab rfl (fun h => ?_) (fun h => ?_)) <;> have h' := h <;> (try simp at h') <;> (try subst h')) | fail)
    refine qadm hJ (j, o ++ [IntKind.u8.wrap ((a : Int) / 2 ^ min (8 * j) IntKind.u64.bits)]) (qabw [(4, 19)] hm ⟨Co.refl _, Co.refl _, Co.refl _, trivial⟩ ⟨⟨_, rfl, rfl, ?_⟩, ⟨_, rfl, rfl, rfl, ?_⟩, ⟨_, rfl, rfl, rfl, ?_⟩, ⟨_, rfl, rfl, rfl, ?_⟩, trivial⟩ rfl (by simp)) ⟨by simp only; omega, ?_, ?_⟩ (by simp only; omega)
    ·rw [qaeu _ _ _ _ _ _ _ _ _ _ rfl rfl]
     simp only [List.length_append, List.length_singleton]
     exact CoL.refl _
    ·rw [PureR.ren]; exact CoLL.refl _
    ·rw [PureR.ren]; exact CoLL.refl _
    ·rw [PureR.ren, List.map_append]; exact CoLL.refl _
    ·rw [f2.out]; simp [putB]
    ·simp only [List.length_append, List.length_singleton]; omega
  rw [if_neg o14] at hM3 he3
  by_cases o15 : op = 15
  ·rw [if_pos o15] at hM3 he3
   subst o15
   have k3 := fun q => qae5 p b port M hb a 0 (by omega) q
   unfold vobj vcl vtl at k3
   have hwi : qabq b a 0 = true → a ≤ b.length := by
    unfold qabq
    intro h1
    simp only [Bool.and_eq_true, decide_eq_true_eq] at h1
    omega
   generalize qabq b a 0 = W at hM3 he3 k3 hwi
   cases W
   ·obtain rfl : e2 = 16 := he3
    obtain rfl : M2 = M := hM3
    repeat' (first | (with_reducible first | refine zA ?_ | refine qaad ?_ | refine zK ?_) | ((with_reducible first | refine qaac ?_ | refine qaap (by rw [hP]; exact qad7) ?_); (try rw [hP]); simp -implicitDefEqProofs [icv, l1, q1, q2, g1, qaao, qaan, qaam, qaal, qaag, qaaf, qabe, *]) | ((with_reducible refine qaai ?_); (try simp -implicitDefEqProofs [icv, l1, q1, q2, g1, qaao, qaan, qaam, qaal, qaag, qaaf, qabe, *])) | ((with_reducible refine qaah ?_); (try simp only [qaaj, qaaa, qaae])) | ((with_reducible refine qaab rfl (fun h => ?_) (fun h => ?_)) <;> have h' := h <;> (try simp at h') <;> (try subst h')) | ((first | refine qabs (k1 _ _ (by simp)) ⟨rfl, rfl, rfl, rfl, rfl, trivial⟩ ⟨rfl, rfl, rfl, rfl, rfl, trivial⟩ ?_ | refine qabs (k3 _) ⟨rfl, rfl, rfl, rfl, trivial⟩ ⟨rfl, rfl, rfl, rfl, trivial⟩ ?_); simp -implicitDefEqProofs [icv, l1, q1, q2, g1, qaao, qaan, qaam, qaal, qaag, qaaf, qabe, *]) | (exact qacd 3 (.inl rfl) hm rfl rfl rfl rfl rfl) | fail)
    all_goals trace_state
   ·obtain rfl : e2 = 0 := he3
    rw [if_pos rfl] at hM3
    have hab := hwi rfl
    replace hM3 := Lib.hid hM3
    have b1 : M.out.length + (b.length - a) ≤ maxLen := by unfold maxLen; omega
    have b2 : M.out.length + (b.length - a) ≤ 140737488355328 := by omega
    repeat' (first | (with_reducible first | refine zA ?_ | refine qaad ?_ | refine zK ?_) | ((with_reducible first | refine qaac ?_ | refine qaap (by rw [hP]; exact qad7) ?_); (try rw [hP]); simp -implicitDefEqProofs [icv, l1, q1, q2, g1, qaao, qaan, qaam, qaal, qaag, qaaf, qabe, nums, b1, b2, *]) | ((with_reducible refine qaai ?_); (try simp -implicitDefEqProofs [icv, l1, q1, q2, g1, qaao, qaan, qaam, qaal, qaag, qaaf, qabe, nums, b1, b2, *])) | ((with_reducible refine qaah ?_); (try simp only [qaaj, qaaa, qaae])) | ((with_reducible refine qaab rfl (fun h => ?_) (fun h => ?_)) <;> have h' := h <;> (try simp at h') <;> (try subst h')) | ((first | refine qabs (k1 _ _ (by simp)) ⟨rfl, rfl, rfl, rfl, rfl, trivial⟩ ⟨rfl, rfl, rfl, rfl, rfl, trivial⟩ ?_ | refine qabs (k3 _) ⟨rfl, rfl, rfl, rfl, trivial⟩ ⟨rfl, rfl, rfl, rfl, trivial⟩ ?_); simp -implicitDefEqProofs [icv, l1, q1, q2, g1, qaao, qaan, qaam, qaal, qaag, qaaf, qabe, nums, b1, b2, *]) | ((rw [hM3.out]; exact qacd 62 (.inr (by decide)) hm rfl (by simp [geth]) rfl rfl (by simp [geth]))) | fail)
    all_goals trace_state
  rw [if_neg o15] at hM3 he3
  by_cases o16 : op = 16
  ·rw [if_pos o16] at hM3 he3
   subst o16
   obtain rfl : e2 = 0 := he3
   replace hM3 := Lib.hid hM3
   repeat' (first | (with_reducible first | refine zA ?_ | refine qaad ?_ | refine zK ?_) | ((with_reducible first | refine qaac ?_ | refine qaap (by rw [hP]; exact qad7) ?_); (try rw [hP]); simp -implicitDefEqProofs [icv, l1, q1, q2, g1, qaao, qaan, qaam, qaal, qaag, qaaf, qabe, *]) | ((with_reducible refine qaai ?_); (try simp -implicitDefEqProofs [icv, l1, q1, q2, g1, qaao, qaan, qaam, qaal, qaag, qaaf, qabe, *])) | ((with_reducible refine qaah ?_); (try simp only [qaaj, qaaa, qaae])) | ((with_reducible refine qaab rfl (fun h => ?_) (fun h => ?_)) <;> have h' := h <;> (try simp at h') <;> (try subst h')) | (refine qabs (k1 _ _ (by simp)) ⟨rfl, rfl, rfl, rfl, rfl, trivial⟩ ⟨rfl, rfl, rfl, rfl, rfl, trivial⟩ ?_; simp -implicitDefEqProofs [icv, l1, q1, q2, g1, qaao, qaan, qaam, qaal, qaag, qaaf, qabe, *]) | ((rw [hM3.out]; exact qacd 3 (.inl rfl) hm rfl rfl rfl rfl rfl)) | fail)
   all_goals trace_state
  rw [if_neg o16] at hM3 he3
  obtain rfl : e2 = 0 := he3
  obtain rfl : M2 = M := hM3
  have b4 : (op == 4) = false := by simpa using o4
  have b8 : (op == 8) = false := by simpa using o8
  have b14 : (op == 14) = false := by simpa using o14
  have b15 : (op == 15) = false := by simpa using o15
  have b16 : (op == 16) = false := by simpa using o16
  clear o4 o8 o14 o15 o16
  repeat' (first | (with_reducible first | refine zA ?_ | refine qaad ?_ | refine zK ?_) | ((with_reducible first | refine qaac ?_ | refine qaap (by rw [hP]; exact qad7) ?_); (try rw [hP]); simp -implicitDefEqProofs [icv, l1, q1, q2, g1, qaao, qaan, qaam, qaal, qaag, qaaf, qabe, b4, b8, b14, b15, b16, *]) | ((with_reducible refine qaai ?_); (try simp -implicitDefEqProofs [icv, l1, q1, q2, g1, qaao, qaan, qaam, qaal, qaag, qaaf, qabe, b4, b8, b14, b15, b16, *])) | ((with_reducible refine qaah ?_); (try simp only [qaaj, qaaa, qaae])) | ((with_reducible refine qaab rfl (fun h => ?_) (fun h => ?_)) <;> have h' := h <;> (try simp at h') <;> (try subst h')) | (refine qabs (k1 _ _ (by simp)) ⟨rfl, rfl, rfl, rfl, rfl, trivial⟩ ⟨rfl, rfl, rfl, rfl, rfl, trivial⟩ ?_; simp -implicitDefEqProofs [icv, l1, q1, q2, g1, qaao, qaan, qaam, qaal, qaag, qaaf, qabe, b4, b8, b14, b15, b16, *]) | (exact qacd 3 (.inl rfl) hm rfl rfl rfl rfl rfl) | fail)
  all_goals trace_state
end Go.Proofs.Ytefkifebgeagiaa
namespace Go.Proofs.Ytefkifebgeagiaa
set_option linter.all false
open Go.RowKit
attribute [local simp] qab2 qab1 qaa2 qabg qaa3 qabf qabz qab0 qaav qacs SOp.run SX.ev putd puts argS upds SOp.touch SSt.keep SSt.skip gets geth puth delh idOf SV.cells? setL qaf7 qaf8 sbin eq0 eq1 eqL qafp qaef qaeg qaaj qab3 qaaa qab4 qact qaae qaas FrzOk qabj qaa5 qabh qabi qaax qaa4 qab5 qaa6 qaaz qabk qaay frzS frzH frz frz1 frz0 SlotsM ObjsM ObjM rn ren ren1 ren0 qacw qadi qaep qacv qab6 qadj qaeo CoL qabm qabl dels adds idsH qabc
variable {p : Prog} {b : List Int} {port : Int} {M : VmM}
def qad6 (b : List Int) (port : Int) (x : Ins) (M : VmM) : VmM × Int :=
 if x.op = 1 then (putM M x.r.toNat x.n, 0)
 else if x.op = 18 then (putM M x.r.toNat (IntKind.u64.wrap port), 0)
 else if x.op = 7 then (if M.full.getD x.n.toNat false = false then (M, 15) else (putM M x.r.toNat (el M.slot x.n.toNat), 0))
 else if x.op = 2 then (if regC M [x.s] ≠ 0 then (M, 15) else (putM M x.r.toNat (el M.regs x.s.toNat), 0))
 else if x.op = 6 then (if regC M [x.s] ≠ 0 then (M, 15) else qanr b x M)
 else if x.op = 3 then (if regC M [x.r, x.s] ≠ 0 then (M, 15) else (putM M x.r.toNat (qajy x.k (el M.regs x.r.toNat) (el M.regs x.s.toNat)), 0))
 else if x.op = 5 then (if regC M [x.r, x.s] ≠ 0 then (M, 15) else (putM M x.r.toNat (onesV (el M.regs x.r.toNat) (el M.regs x.s.toNat)), 0))
 else oneM b x M
theorem qafb (M : VmM) : ∀ l, regC M l = 0 ∨ regC M l = 15
 | [] => .inl rfl
 | r :: l => by
  have ih := qafb M l
  unfold regC; split
  ·exact ih
  ·exact .inr rfl
theorem qaqv {l : List Int} (h : ∀ v ∈ l, 0 ≤ v) (i : Nat) : 0 ≤ el l i := by
 by_cases hi : i < l.length
 ·rw [qaf9 l i hi]; exact h _ (List.getElem_mem hi)
 ·rw [el_out l i (by omega)]; exact Int.le_refl _
set_option maxRecDepth 4000 in
theorem qapn (p : Prog) (b : List Int) (port : Int) (M : VmM) (h : VOk M) (hpos : VPos M) (hsl : VSl p M) (hb : b.length ≤ 1000000) (ho : M.out.length ≤ 100000000) (x : Ins) (hx : InsP p.slots p.tabs x) (hx14 : x.op = 14 → 1 ≤ x.k ∧ x.k ≤ 8) (h13 : x.op ≠ 13) : SCalls Try.prog 67 [.ptr 0 0, .agg (icv x)] (vobj p b port M) 4 (.int .i64 (qad6 b port x M).2) (qaet 4 p b port (qad6 b port x M).1) := by
 have hr := hx.r
 have hs := hx.s h13
 have hn0 := hx.n0
 have hone := fun q hq => v_upk (vone_s p b port M h hpos hsl hb ho x hr hn0 (fun h => hx.n7 (.inr h)) hx14) q hq rfl rfl rfl
 have hload := fun (h6 : x.op = 6) q hq => vload_s p b port M h hpos hb x hr hs ⟨(hx.k6 h6).1, (hx.k6 h6).2.1⟩ ⟨hn0, (hx.k6 h6).2.2⟩ q hq
 have hn7 := fun h7 => hx.n7 (.inl h7)
 obtain ⟨op, r0, s0, k0, tt, n0⟩ := x
 simp only at hr hs hn0 hn7 h13
 obtain ⟨r, rfl⟩ : ∃ r : Nat, r0 = r := ⟨r0.toNat, by omega⟩
 obtain ⟨s, rfl⟩ : ∃ r : Nat, s0 = r := ⟨s0.toNat, by omega⟩
 obtain ⟨n, rfl⟩ : ∃ r : Nat, n0 = r := ⟨n0.toNat, by omega⟩
 have hrr : r < M.regs.length := by rw [h.r]; omega
 have hsr : s < M.regs.length := by rw [h.r]; omega
 have kr := fun id q hid => qaj3 p b port M h [(s : Int)] (by intro y hy; simp at hy; omega) (by simp) id q hid
 have kr2 := fun id q hid => qaj3 p b port M h [(r : Int), (s : Int)] (by intro y hy; simp at hy; omega) (by simp) id q hid
 have cr := qafb M [(s : Int)]
 have cr2 := qafb M [(r : Int), (s : Int)]
 have kp := fun v q hq => qapm p b port M h r v (by omega) q hq
 have ka := fun op q => qap5 op (el M.regs r) (el M.regs s) (qaqv hpos.r s) q
 have ko := fun q => vones_s (el M.regs r) (el M.regs s) q
 have g1 := qaev (p := p) (b := b) (port := port) (H := M.have_) (tl := vtl M) hrr
 have g2 := qaev (p := p) (b := b) (port := port) (H := M.have_) (tl := vtl M) hsr
 rw [← qaf9 M.regs r hrr] at g1
 rw [← qaf9 M.regs s hsr] at g2
 have l1 := fun (R : List Int) (H : List Bool) (u x y z : SV) (hR : R.length = 10) (hH : H.length = 10) => qaec (p := p) (b := b) (port := port) (tl := [u, x, y, z]) hR hH rfl
 have q1 := h.r
 have q2 := h.h
 obtain ⟨e2, he2⟩ : ∃ e2, e2 = (qad6 b port ⟨op, r, s, k0, tt, n⟩ M).2 := ⟨_, rfl⟩
 obtain ⟨I, hI⟩ : ∃ I, I = qaet 4 p b port (qad6 b port ⟨op, r, s, k0, tt, n⟩ M).1 := ⟨_, rfl⟩
 rw [← hI, ← he2]
 unfold qad6 at hI he2
 simp only [Int.toNat_natCast] at hI he2
 refine qaar (N := 143) Try.func67 rfl rfl (by kernel_rfl) qafw (by simp) (by repeat' (first | exact trivial | refine And.intro ?_ ?_ | rfl | decide | exact PureR.ren _)) (qaes p b port M) ?_
 rintro X hP hN hm
 unfold c_vplain
 generalize hvo : vobj p b port M = VO
 unfold vobj vcl vtl at hvo kr kr2
 unfold vtl at g1 g2
 simp only [List.cons_append, List.nil_append] at kr kr2
 subst hvo
 unfold vobj vcl vtl at kp
 by_cases o1 : op = 1
 ·rw [if_pos o1] at hI he2
  obtain rfl : e2 = 0 := he2
  subst o1
  have k2 := kp n
  clear hone hload kr kr2 kp ka ko
  replace hI := Lib.hid hI
  repeat' (first | (with_reducible first | refine zA ?_ | refine qaad ?_) | ((with_reducible refine qaac ?_); (try rw [hP]); simp -implicitDefEqProofs [icv, l1, q1, q2, qaao, qaan, qaam, qaal, qaag, qaaf, qabe, qac8, *]) | ((with_reducible refine qaah ?_); (try simp only [qaaj, qaaa, qaae])) | ((with_reducible refine qaab rfl (fun h => ?_) (fun h => ?_)) <;> have h' := h <;> (try simp at h') <;> (try subst h')) | (refine qadk (k2 _ (by simp)) ⟨rfl, rfl, rfl, rfl, trivial⟩ ⟨rfl, rfl, rfl, rfl, trivial⟩ ?_; simp -implicitDefEqProofs [icv, l1, q1, q2, qaao, qaan, qaam, qaal, qaag, qaaf, qabe, qac8, *]) | ((rw [hI.out]; exact qacd 3 (.inl rfl) hm rfl rfl rfl rfl rfl)) | fail)
  all_goals trace_state
 rw [if_neg o1] at hI he2
 by_cases o18 : op = 18
 ·rw [if_pos o18] at hI he2
  obtain rfl : e2 = 0 := he2
  subst o18
  have k2 := kp (IntKind.u64.wrap port)
  clear hone hload kr kr2 kp ka ko
  replace hI := Lib.hid hI
  repeat' (first | (with_reducible first | refine zA ?_ | refine qaad ?_ | refine zK ?_) | ((with_reducible first | refine qaac ?_ | refine qaap (by rw [hP]; exact qad7) ?_); (try rw [hP]); simp -implicitDefEqProofs [icv, l1, q1, q2, qaao, qaan, qaam, qaal, qaag, qaaf, qabe, qac8, *]) | ((with_reducible refine qaah ?_); (try simp only [qaaj, qaaa, qaae])) | ((with_reducible refine qaab rfl (fun h => ?_) (fun h => ?_)) <;> have h' := h <;> (try simp at h') <;> (try subst h')) | (refine qadk (k2 _ (by simp)) ⟨rfl, rfl, rfl, rfl, trivial⟩ ⟨rfl, rfl, rfl, rfl, trivial⟩ ?_; simp -implicitDefEqProofs [icv, l1, q1, q2, qaao, qaan, qaam, qaal, qaag, qaaf, qabe, qac8, *]) | ((rw [hI.out]; exact qacd 3 (.inl rfl) hm rfl rfl rfl rfl rfl)) | fail)
  all_goals trace_state
 rw [if_neg o18] at hI he2
 by_cases o7 : op = 7
 ·rw [if_pos o7] at hI he2
  subst o7
  have hns : n < M.slot.length := by have := hsl.s; have := hn7 rfl; omega
  have hnf : n < M.full.length := by have := hsl.f; have := hn7 rfl; omega
  have k2 := kp (el M.slot n)
  have es : M.slot[n] = el M.slot n := (qaf9 M.slot n hns).symm
  rw [List.getD_eq_getElem?_getD, List.getElem?_eq_getElem hnf, Option.getD_some] at hI he2
  clear hone hload kr kr2 kp ka ko
  generalize hY : M.full[n] = Y at hI he2
  cases Y
  ·rw [if_pos rfl] at hI he2
   obtain rfl : e2 = 15 := he2
   replace hI := Lib.hid hI
   repeat' (first | (with_reducible first | refine zA ?_ | refine qaad ?_ | refine zK ?_) | ((with_reducible first | refine qaac ?_ | refine qaap (by rw [hP]; exact qad7) ?_); (try rw [hP]); simp -implicitDefEqProofs [icv, l1, q1, q2, qaao, qaan, qaam, qaal, qaag, qaaf, qabe, qac8, List.getElem?_eq_getElem hns, List.getElem?_eq_getElem hnf, hY, *]) | ((with_reducible refine qaah ?_); (try simp only [qaaj, qaaa, qaae])) | ((with_reducible refine qaab rfl (fun h => ?_) (fun h => ?_)) <;> have h' := h <;> (try simp at h') <;> (try subst h')) | ((rw [hI.out]; exact qacd 3 (.inl rfl) hm rfl rfl rfl rfl rfl)) | fail)
   all_goals trace_state
  ·rw [if_neg (by decide)] at hI he2
   obtain rfl : e2 = 0 := he2
   replace hI := Lib.hid hI
   repeat' (first | (with_reducible first | refine zA ?_ | refine qaad ?_ | refine zK ?_) | ((with_reducible first | refine qaac ?_ | refine qaap (by rw [hP]; exact qad7) ?_); (try rw [hP]); simp -implicitDefEqProofs [icv, l1, q1, q2, qaao, qaan, qaam, qaal, qaag, qaaf, qabe, qac8, List.getElem?_eq_getElem hns, List.getElem?_eq_getElem hnf, hY, es, *]) | ((with_reducible refine qaai ?_); (try simp -implicitDefEqProofs [icv, l1, q1, q2, qaao, qaan, qaam, qaal, qaag, qaaf, qabe, qac8, List.getElem?_eq_getElem hns, List.getElem?_eq_getElem hnf, hY, es, *])) | ((with_reducible refine qaah ?_); (try simp only [qaaj, qaaa, qaae])) | ((with_reducible refine qaab rfl (fun h => ?_) (fun h => ?_)) <;> have h' := h <;> (try simp at h') <;> (try subst h')) | (refine qadk (k2 _ (by simp)) ⟨rfl, rfl, rfl, rfl, trivial⟩ ⟨rfl, rfl, rfl, rfl, trivial⟩ ?_; simp -implicitDefEqProofs [icv, l1, q1, q2, qaao, qaan, qaam, qaal, qaag, qaaf, qabe, qac8, List.getElem?_eq_getElem hns, List.getElem?_eq_getElem hnf, hY, es, *]) | ((rw [hI.out]; exact qacd 3 (.inl rfl) hm rfl rfl rfl rfl rfl)) | fail)
   all_goals trace_state
 rw [if_neg o7] at hI he2
 by_cases o2 : op = 2
 ·rw [if_pos o2] at hI he2
  subst o2
  have k2 := kp (el M.regs s)
  clear hone hload kr2 kp ka ko cr2
  generalize regC M [(s : Int)] = C at hI he2 kr cr
  rcases cr with rfl | rfl
  ·rw [if_neg (by decide)] at hI he2
   obtain rfl : e2 = 0 := he2
   replace hI := Lib.hid hI
   repeat' (first | (with_reducible first | refine zA ?_ | refine qaad ?_ | refine zK ?_) | ((with_reducible first | refine qaac ?_ | refine qaap (by rw [hP]; exact qad7) ?_); (try rw [hP]); simp -implicitDefEqProofs [icv, l1, q1, q2, qaao, qaan, qaam, qaal, qaag, qaaf, qabe, qac8, g2, *]) | ((with_reducible refine qaai ?_); (try simp -implicitDefEqProofs [icv, l1, q1, q2, qaao, qaan, qaam, qaal, qaag, qaaf, qabe, qac8, g2, *])) | ((with_reducible refine qaah ?_); (try simp only [qaaj, qaaa, qaae])) | ((with_reducible refine qaab rfl (fun h => ?_) (fun h => ?_)) <;> have h' := h <;> (try simp at h') <;> (try subst h')) | ((first | refine qabs (kr _ _ (by simp)) ⟨rfl, rfl, rfl, rfl, rfl, trivial⟩ ⟨rfl, rfl, rfl, rfl, rfl, trivial⟩ ?_ | refine qadk (k2 _ (by simp)) ⟨rfl, rfl, rfl, rfl, trivial⟩ ⟨rfl, rfl, rfl, rfl, trivial⟩ ?_); simp -implicitDefEqProofs [icv, l1, q1, q2, qaao, qaan, qaam, qaal, qaag, qaaf, qabe, qac8, g2, *]) | ((rw [hI.out]; exact qacd 3 (.inl rfl) hm rfl rfl rfl rfl rfl)) | fail)
   all_goals trace_state
  ·rw [if_pos (by decide)] at hI he2
   obtain rfl : e2 = 15 := he2
   replace hI := Lib.hid hI
   repeat' (first | (with_reducible first | refine zA ?_ | refine qaad ?_) | ((with_reducible refine qaac ?_); (try rw [hP]); simp -implicitDefEqProofs [icv, l1, q1, q2, qaao, qaan, qaam, qaal, qaag, qaaf, qabe, qac8, *]) | ((with_reducible refine qaai ?_); (try simp -implicitDefEqProofs [icv, l1, q1, q2, qaao, qaan, qaam, qaal, qaag, qaaf, qabe, qac8, *])) | ((with_reducible refine qaah ?_); (try simp only [qaaj, qaaa, qaae])) | ((with_reducible refine qaab rfl (fun h => ?_) (fun h => ?_)) <;> have h' := h <;> (try simp at h') <;> (try subst h')) | (refine qabs (kr _ _ (by simp)) ⟨rfl, rfl, rfl, rfl, rfl, trivial⟩ ⟨rfl, rfl, rfl, rfl, rfl, trivial⟩ ?_; simp -implicitDefEqProofs [icv, l1, q1, q2, qaao, qaan, qaam, qaal, qaag, qaaf, qabe, qac8, *]) | ((rw [hI.out]; exact qacd 3 (.inl rfl) hm rfl rfl rfl rfl rfl)) | fail)
   all_goals trace_state
 rw [if_neg o2] at hI he2
 by_cases o6 : op = 6
 ·rw [if_pos o6] at hI he2
  subst o6
  have k2 := hload rfl
  clear hone hload kr2 kp ka ko cr2
  generalize regC M [(s : Int)] = C at hI he2 kr cr
  rcases cr with rfl | rfl
  ·rw [if_neg (by decide)] at hI he2
   rw [← he2] at k2
   generalize (qanr b ⟨6, r, s, k0, tt, n⟩ M).1 = M3 at k2 hI
   unfold vobj vcl vtl icv at k2
   clear he2
   replace hI := Lib.hid hI
   repeat' (first | (with_reducible first | refine zA ?_ | refine qaad ?_) | ((with_reducible refine qaac ?_); (try rw [hP]); simp -implicitDefEqProofs [icv, l1, q1, q2, qaao, qaan, qaam, qaal, qaag, qaaf, qabe, qac8, *]) | ((with_reducible refine qaai ?_); (try simp -implicitDefEqProofs [icv, l1, q1, q2, qaao, qaan, qaam, qaal, qaag, qaaf, qabe, qac8, *])) | ((with_reducible refine qaah ?_); (try simp only [qaaj, qaaa, qaae])) | ((with_reducible refine qaab rfl (fun h => ?_) (fun h => ?_)) <;> have h' := h <;> (try simp at h') <;> (try subst h')) | ((first | refine qabs (kr _ _ (by simp)) ⟨rfl, rfl, rfl, rfl, rfl, trivial⟩ ⟨rfl, rfl, rfl, rfl, rfl, trivial⟩ ?_ | refine qadk (k2 _ (by simp)) ⟨rfl, rfl, rfl, rfl, trivial⟩ ⟨rfl, rfl, rfl, rfl, trivial⟩ ?_); simp -implicitDefEqProofs [icv, l1, q1, q2, qaao, qaan, qaam, qaal, qaag, qaaf, qabe, qac8, *]) | ((rw [hI.out]; exact qacd 3 (.inl rfl) hm rfl rfl rfl rfl rfl)) | fail)
   all_goals trace_state
  ·rw [if_pos (by decide)] at hI he2
   obtain rfl : e2 = 15 := he2
   replace hI := Lib.hid hI
   clear k2
   repeat' (first | (with_reducible first | refine zA ?_ | refine qaad ?_) | ((with_reducible refine qaac ?_); (try rw [hP]); simp -implicitDefEqProofs [icv, l1, q1, q2, qaao, qaan, qaam, qaal, qaag, qaaf, qabe, qac8, *]) | ((with_reducible refine qaah ?_); (try simp only [qaaj, qaaa, qaae])) | ((with_reducible refine qaab rfl (fun h => ?_) (fun h => ?_)) <;> have h' := h <;> (try simp at h') <;> (try subst h')) | (refine qabs (kr _ _ (by simp)) ⟨rfl, rfl, rfl, rfl, rfl, trivial⟩ ⟨rfl, rfl, rfl, rfl, rfl, trivial⟩ ?_; simp -implicitDefEqProofs [icv, l1, q1, q2, qaao, qaan, qaam, qaal, qaag, qaaf, qabe, qac8, *]) | ((rw [hI.out]; exact qacd 3 (.inl rfl) hm rfl rfl rfl rfl rfl)) | fail)
   all_goals trace_state
 rw [if_neg o6] at hI he2
 by_cases o3 : op = 3
 ·rw [if_pos o3] at hI he2
  subst o3
  have k2 := kp (qajy k0 (el M.regs r) (el M.regs s))
  clear hone hload kr kp ko cr
  generalize regC M [(r : Int), (s : Int)] = C at hI he2 kr2 cr2
  rcases cr2 with rfl | rfl
  ·rw [if_neg (by decide)] at hI he2
   obtain rfl : e2 = 0 := he2
   replace hI := Lib.hid hI
   repeat' (first | (with_reducible first | refine zA ?_ | refine qaad ?_ | refine zK ?_) | ((with_reducible first | refine qaac ?_ | refine qaap (by rw [hP]; exact qad7) ?_); (try rw [hP]); simp -implicitDefEqProofs [icv, l1, q1, q2, qaao, qaan, qaam, qaal, qaag, qaaf, qabe, qac8, g1, g2, *]) | ((with_reducible refine qaai ?_); (try simp -implicitDefEqProofs [icv, l1, q1, q2, qaao, qaan, qaam, qaal, qaag, qaaf, qabe, qac8, g1, g2, *])) | ((with_reducible refine qaah ?_); (try simp only [qaaj, qaaa, qaae])) | ((with_reducible refine qaab rfl (fun h => ?_) (fun h => ?_)) <;> have h' := h <;> (try simp at h') <;> (try subst h')) | ((first | refine qabs (kr2 _ _ (by simp)) ⟨rfl, rfl, rfl, rfl, rfl, trivial⟩ ⟨rfl, rfl, rfl, rfl, rfl, trivial⟩ ?_ | refine qadk (k2 _ (by simp)) ⟨rfl, rfl, rfl, rfl, trivial⟩ ⟨rfl, rfl, rfl, rfl, trivial⟩ ?_ | refine qabb (ka _ _) ?_); simp -implicitDefEqProofs [icv, l1, q1, q2, qaao, qaan, qaam, qaal, qaag, qaaf, qabe, qac8, g1, g2, *]) | ((rw [hI.out]; exact qacd 3 (.inl rfl) hm rfl rfl rfl rfl rfl)) | fail)
   all_goals trace_state
  ·rw [if_pos (by decide)] at hI he2
   obtain rfl : e2 = 15 := he2
   replace hI := Lib.hid hI
   repeat' (first | (with_reducible first | refine zA ?_ | refine qaad ?_) | ((with_reducible refine qaac ?_); (try rw [hP]); simp -implicitDefEqProofs [icv, l1, q1, q2, qaao, qaan, qaam, qaal, qaag, qaaf, qabe, qac8, *]) | ((with_reducible refine qaai ?_); (try simp -implicitDefEqProofs [icv, l1, q1, q2, qaao, qaan, qaam, qaal, qaag, qaaf, qabe, qac8, *])) | ((with_reducible refine qaah ?_); (try simp only [qaaj, qaaa, qaae])) | ((with_reducible refine qaab rfl (fun h => ?_) (fun h => ?_)) <;> have h' := h <;> (try simp at h') <;> (try subst h')) | (refine qabs (kr2 _ _ (by simp)) ⟨rfl, rfl, rfl, rfl, rfl, trivial⟩ ⟨rfl, rfl, rfl, rfl, rfl, trivial⟩ ?_; simp -implicitDefEqProofs [icv, l1, q1, q2, qaao, qaan, qaam, qaal, qaag, qaaf, qabe, qac8, *]) | ((rw [hI.out]; exact qacd 3 (.inl rfl) hm rfl rfl rfl rfl rfl)) | fail)
   all_goals trace_state
 rw [if_neg o3] at hI he2
 by_cases o5 : op = 5
 ·rw [if_pos o5] at hI he2
  subst o5
  have k2 := kp (onesV (el M.regs r) (el M.regs s))
  clear hone hload kr kp ka cr
  generalize regC M [(r : Int), (s : Int)] = C at hI he2 kr2 cr2
  rcases cr2 with rfl | rfl
  ·rw [if_neg (by decide)] at hI he2
   obtain rfl : e2 = 0 := he2
   replace hI := Lib.hid hI
   repeat' (first | (with_reducible first | refine zA ?_ | refine qaad ?_ | refine zK ?_) | ((with_reducible first | refine qaac ?_ | refine qaap (by rw [hP]; exact qad7) ?_); (try rw [hP]); simp -implicitDefEqProofs [icv, l1, q1, q2, qaao, qaan, qaam, qaal, qaag, qaaf, qabe, qac8, g1, g2, *]) | ((with_reducible refine qaai ?_); (try simp -implicitDefEqProofs [icv, l1, q1, q2, qaao, qaan, qaam, qaal, qaag, qaaf, qabe, qac8, g1, g2, *])) | ((with_reducible refine qaah ?_); (try simp only [qaaj, qaaa, qaae])) | ((with_reducible refine qaab rfl (fun h => ?_) (fun h => ?_)) <;> have h' := h <;> (try simp at h') <;> (try subst h')) | ((first | refine qabs (kr2 _ _ (by simp)) ⟨rfl, rfl, rfl, rfl, rfl, trivial⟩ ⟨rfl, rfl, rfl, rfl, rfl, trivial⟩ ?_ | refine qadk (k2 _ (by simp)) ⟨rfl, rfl, rfl, rfl, trivial⟩ ⟨rfl, rfl, rfl, rfl, trivial⟩ ?_ | refine qabb (ko _) ?_); simp -implicitDefEqProofs [icv, l1, q1, q2, qaao, qaan, qaam, qaal, qaag, qaaf, qabe, qac8, g1, g2, *]) | ((rw [hI.out]; exact qacd 3 (.inl rfl) hm rfl rfl rfl rfl rfl)) | fail)
   all_goals trace_state
  ·rw [if_pos (by decide)] at hI he2
   obtain rfl : e2 = 15 := he2
   replace hI := Lib.hid hI
   repeat' (first | (with_reducible first | refine zA ?_ | refine qaad ?_) | ((with_reducible refine qaac ?_); (try rw [hP]); simp -implicitDefEqProofs [icv, l1, q1, q2, qaao, qaan, qaam, qaal, qaag, qaaf, qabe, qac8, *]) | ((with_reducible refine qaah ?_); (try simp only [qaaj, qaaa, qaae])) | ((with_reducible refine qaab rfl (fun h => ?_) (fun h => ?_)) <;> have h' := h <;> (try simp at h') <;> (try subst h')) | (refine qabs (kr2 _ _ (by simp)) ⟨rfl, rfl, rfl, rfl, rfl, trivial⟩ ⟨rfl, rfl, rfl, rfl, rfl, trivial⟩ ?_; simp -implicitDefEqProofs [icv, l1, q1, q2, qaao, qaan, qaam, qaal, qaag, qaaf, qabe, qac8, *]) | ((rw [hI.out]; exact qacd 3 (.inl rfl) hm rfl rfl rfl rfl rfl)) | fail)
   all_goals trace_state
 rw [if_neg o5] at hI he2
 rw [← he2] at hone
 generalize (oneM b ⟨op, r, s, k0, tt, n⟩ M).1 = M3 at hone hI
 clear he2 hload kr kr2 kp ka ko cr cr2 hn7
 replace hI := Lib.hid hI
 have b1 : (op == 1) = false := by simpa using o1
 have b18 : (op == 18) = false := by simpa using o18
 have b7 : (op == 7) = false := by simpa using o7
 have b13 : (op == 13) = false := by simpa using h13
 have b2 : (op == 2) = false := by simpa using o2
 have b6 : (op == 6) = false := by simpa using o6
 have b3 : (op == 3) = false := by simpa using o3
 have b5 : (op == 5) = false := by simpa using o5
 clear o1 o18 o7 h13 o2 o6 o3 o5 hx14
 unfold icv vobj qaet vcl vtl at hone
 repeat' (first | (with_reducible first | refine zA ?_ | refine qaad ?_) | ((with_reducible refine qaac ?_); (try rw [hP]); simp -implicitDefEqProofs [icv, l1, q1, q2, qaao, qaan, qaam, qaal, qaag, qaaf, qabe, qac8, b1, b18, b7, b13, b2, b6, b3, b5, *]) | ((with_reducible refine qaai ?_); (try simp -implicitDefEqProofs [icv, l1, q1, q2, qaao, qaan, qaam, qaal, qaag, qaaf, qabe, qac8, b1, b18, b7, b13, b2, b6, b3, b5, *])) | ((with_reducible refine qaah ?_); (try simp only [qaaj, qaaa, qaae])) | ((with_reducible refine qaab rfl (fun h => ?_) (fun h => ?_)) <;> have h' := h <;> (try simp at h') <;> (try subst h')) | (refine qadk (hone _ (by simp)) ⟨rfl, rfl, rfl, rfl, trivial⟩ ⟨rfl, rfl, rfl, rfl, trivial⟩ ?_; simp -implicitDefEqProofs [icv, l1, q1, q2, qaao, qaan, qaam, qaal, qaag, qaaf, qabe, qac8, b1, b18, b7, b13, b2, b6, b3, b5, *]) | ((rw [hI.out]; exact qacd 26 (.inr (by decide)) hm rfl rfl rfl rfl rfl)) | fail)
end Go.Proofs.Ytefkifebgeagiaa
namespace Go.Proofs.Ytefkifebgeagiaa
set_option linter.all false
open Go.RowKit
attribute [local simp] qab2 qab1 qaa2 qabg qaa3 qabf qabz qab0 qaav qacs SOp.run SX.ev putd puts argS upds SOp.touch SSt.keep SSt.skip gets geth puth delh idOf SV.cells? setL qaf7 qaf8 sbin eq0 eq1 eqL qafp qaef qaeg qaaj qab3 qaaa qab4 qact qaae qaas FrzOk qabj qaa5 qabh qabi qaax qaa4 qab5 qaa6 qaaz qabk qaay frzS frzH frz frz1 frz0 SlotsM ObjsM ObjM rn ren ren1 ren0 qacw qadi qaep qacv qab6 qadj qaeo CoL qabm qabl dels adds idsH qabc
def qacn (b : List Int) (port : Int) (x : Ins) (M : VmM) : VmM × Bool × Int :=
 if x.op = 12 then (M, true, 0)
 else if x.op = 9 then (M, !qabq b (el M.regs x.r.toNat) x.n, regC M [x.r])
 else if x.op = 10 then (M, decide (el M.regs x.r.toNat < el M.regs x.s.toNat), regC M [x.r, x.s])
 else if x.op = 11 then (M, el M.regs x.r.toNat == el M.regs x.s.toNat, regC M [x.r, x.s])
 else ((qad6 b port x M).1, false, (qad6 b port x M).2)
theorem qakq {X : Cx} {rs : List ResultVar} {m : Nat} {r : SV} {h2 : Hp} {s s1 : SSt} (hw : Wk X s s1) (h : QFun X rs m r h2 .ret s1) : QFun X rs m r h2 .ret s := by
 obtain ⟨s', h1, h2, h3, h4⟩ := h
 exact ⟨s', hw.trans h1, h2, h3, h4⟩
set_option maxRecDepth 4000 in
theorem qapo (p : Prog) (b : List Int) (port : Int) (M : VmM) (h : VOk M) (hpos : VPos M) (hsl : VSl p M) (hb : b.length ≤ 1000000) (ho : M.out.length ≤ 100000000) (x : Ins) (hx : InsP p.slots p.tabs x) (hx14 : x.op = 14 → 1 ≤ x.k ∧ x.k ≤ 8) (h13 : x.op ≠ 13) : SCalls Try.prog 49 [.ptr 0 0, .agg (icv x)] (vobj p b port M) 4 (.tup [.bool (qacn b port x M).2.1, .int .i64 (qacn b port x M).2.2]) (qaet 4 p b port (qacn b port x M).1) := by
 have hr := hx.r
 have hs := hx.s h13
 have hn0 := hx.n0
 have hpl := fun q hq => v_upk (qapn p b port M h hpos hsl hb ho x hx hx14 h13) q hq rfl rfl rfl
 obtain ⟨op, r0, s0, k0, tt, n0⟩ := x
 simp only at hr hs hn0 h13
 obtain ⟨r, rfl⟩ : ∃ r : Nat, r0 = r := ⟨r0.toNat, by omega⟩
 obtain ⟨s, rfl⟩ : ∃ r : Nat, s0 = r := ⟨s0.toNat, by omega⟩
 obtain ⟨n, rfl⟩ : ∃ r : Nat, n0 = r := ⟨n0.toNat, by omega⟩
 have hrr : r < M.regs.length := by rw [h.r]; omega
 have hsr : s < M.regs.length := by rw [h.r]; omega
 have kr := fun id q hid => qaj3 p b port M h [(r : Int)] (by intro y hy; simp at hy; omega) (by simp) id q hid
 have kr2 := fun id q hid => qaj3 p b port M h [(r : Int), (s : Int)] (by intro y hy; simp at hy; omega) (by simp) id q hid
 have kw := fun q => qae5 p b port M hb (el M.regs r) n (qaqv hpos.r r) q
 have g1 := qaev (p := p) (b := b) (port := port) (H := M.have_) (tl := vtl M) hrr
 have g2 := qaev (p := p) (b := b) (port := port) (H := M.have_) (tl := vtl M) hsr
 rw [← qaf9 M.regs r hrr] at g1
 rw [← qaf9 M.regs s hsr] at g2
 have l1 := fun (R : List Int) (H : List Bool) (u x y z : SV) (hR : R.length = 10) (hH : H.length = 10) => qaec (p := p) (b := b) (port := port) (tl := [u, x, y, z]) hR hH rfl
 have q1 := h.r
 have q2 := h.h
 have hL : qacn b port ⟨op, r, s, k0, tt, n⟩ M = if op = 12 then (M, true, 0) else if op = 9 then (M, !qabq b (el M.regs r) n, regC M [(r : Int)])
   else if op = 10 then (M, decide (el M.regs r < el M.regs s), regC M [(r : Int), (s : Int)]) else if op = 11 then (M, el M.regs r == el M.regs s, regC M [(r : Int), (s : Int)])
   else ((qad6 b port ⟨op, r, s, k0, tt, n⟩ M).1, false, (qad6 b port ⟨op, r, s, k0, tt, n⟩ M).2) := rfl
 rw [hL]
 clear hL
 generalize qad6 b port ⟨op, r, s, k0, tt, n⟩ M = PL at hpl
 generalize hvo : vobj p b port M = VO at kr kr2 kw
 unfold vobj vcl vtl at hvo
 unfold vtl at g1 g2
 subst hvo
 simp only [List.cons_append, List.nil_append] at kr kr2
 generalize regC M [(r : Int)] = C1 at kr
 generalize regC M [(r : Int), (s : Int)] = C2 at kr2
 generalize qabq b (el M.regs r) n = W at kw
 refine qaar (N := 80) Try.func49 rfl rfl (by kernel_rfl) qafx (by simp) (by repeat' (first | exact trivial | refine And.intro ?_ ?_ | rfl | decide | exact PureR.ren _)) (qaes p b port M) ?_
 rintro X hP hN hm
 unfold c_vleads
 try unfold vobj vcl vtl
 by_cases o12 : op = 12
 ·rw [if_pos o12]
  subst o12
  clear hpl kr kr2 kw
  repeat' (first | (with_reducible first | refine zA ?_ | refine qaad ?_) | ((with_reducible refine qaac ?_); (try rw [hP]); simp -implicitDefEqProofs [icv, l1, q1, q2, *]) | ((with_reducible refine qaah ?_); (try simp only [qaaj, qaaa, qaae])) | ((with_reducible refine qaab rfl (fun h => ?_) (fun h => ?_)) <;> have h' := h <;> (try simp at h') <;> (try subst h')) | (exact qafs 3 (.inl rfl) hm (by decide) rfl rfl rfl rfl rfl rfl) | fail)
  all_goals trace_state
 rw [if_neg o12]
 by_cases o9 : op = 9
 ·rw [if_pos o9]
  subst o9
  clear hpl kr2
  repeat' (first | (with_reducible first | refine zA ?_ | refine qaad ?_ | refine zK ?_) | ((with_reducible first | refine qaac ?_ | refine qaap (by rw [hP]; exact qad7) ?_); (try rw [hP]); simp -implicitDefEqProofs [icv, l1, q1, q2, g1, *]) | ((with_reducible refine qaah ?_); (try simp only [qaaj, qaaa, qaae])) | ((with_reducible refine qaab rfl (fun h => ?_) (fun h => ?_)) <;> have h' := h <;> (try simp at h') <;> (try subst h')) | ((first | refine qabs (kr _ _ (by simp)) ⟨rfl, rfl, rfl, rfl, rfl, trivial⟩ ⟨rfl, rfl, rfl, rfl, rfl, trivial⟩ ?_ | refine qabs (kw _) ⟨rfl, rfl, rfl, rfl, trivial⟩ ⟨rfl, rfl, rfl, rfl, trivial⟩ ?_); simp -implicitDefEqProofs [icv, l1, q1, q2, g1, *]) | (exact qafs 3 (.inl rfl) hm (by decide) rfl rfl rfl rfl rfl rfl) | fail)
  all_goals trace_state
 rw [if_neg o9]
 by_cases o10 : op = 10
 ·rw [if_pos o10]
  subst o10
  clear hpl kr kw
  repeat' (first | (with_reducible first | refine zA ?_ | refine qaad ?_ | refine zK ?_) | ((with_reducible first | refine qaac ?_ | refine qaap (by rw [hP]; exact qad7) ?_); (try rw [hP]); simp -implicitDefEqProofs [icv, l1, q1, q2, g1, g2, *]) | ((with_reducible refine qaah ?_); (try simp only [qaaj, qaaa, qaae])) | ((with_reducible refine qaab rfl (fun h => ?_) (fun h => ?_)) <;> have h' := h <;> (try simp at h') <;> (try subst h')) | (refine qabs (kr2 _ _ (by simp)) ⟨rfl, rfl, rfl, rfl, rfl, trivial⟩ ⟨rfl, rfl, rfl, rfl, rfl, trivial⟩ ?_; simp -implicitDefEqProofs [icv, l1, q1, q2, g1, g2, *]) | (exact qafs 3 (.inl rfl) hm (by decide) rfl rfl rfl rfl rfl rfl) | fail)
  all_goals trace_state
 rw [if_neg o10]
 by_cases o11 : op = 11
 ·rw [if_pos o11]
  subst o11
  clear hpl kr kw
  repeat' (first | (with_reducible first | refine zA ?_ | refine qaad ?_ | refine zK ?_) | ((with_reducible first | refine qaac ?_ | refine qaap (by rw [hP]; exact qad7) ?_); (try rw [hP]); simp -implicitDefEqProofs [icv, l1, q1, q2, g1, g2, *]) | ((with_reducible refine qaah ?_); (try simp only [qaaj, qaaa, qaae])) | ((with_reducible refine qaab rfl (fun h => ?_) (fun h => ?_)) <;> have h' := h <;> (try simp at h') <;> (try subst h')) | (refine qabs (kr2 _ _ (by simp)) ⟨rfl, rfl, rfl, rfl, rfl, trivial⟩ ⟨rfl, rfl, rfl, rfl, rfl, trivial⟩ ?_; simp -implicitDefEqProofs [icv, l1, q1, q2, g1, g2, *]) | (exact qafs 3 (.inl rfl) hm (by decide) rfl rfl rfl rfl rfl rfl) | fail)
  all_goals trace_state
 rw [if_neg o11]
 have b12 : (op == 12) = false := by simpa using o12
 have b9 : (op == 9) = false := by simpa using o9
 have b10 : (op == 10) = false := by simpa using o10
 have b11 : (op == 11) = false := by simpa using o11
 clear o12 o9 o10 o11 hx14 h13 kr kr2 kw
 unfold icv vobj qaet vcl vtl at hpl
 repeat' (first | (with_reducible first | refine zA ?_ | refine qaad ?_) | ((with_reducible refine qaac ?_); (try rw [hP]); simp -implicitDefEqProofs [icv, l1, q1, q2, b12, b9, b10, b11, *]) | ((with_reducible refine qaai ?_); (try simp -implicitDefEqProofs [icv, l1, q1, q2, b12, b9, b10, b11, *])) | ((with_reducible refine qaah ?_); (try simp only [qaaj, qaaa, qaae])) | ((with_reducible refine qaab rfl (fun h => ?_) (fun h => ?_)) <;> have h' := h <;> (try simp at h') <;> (try subst h')) | (refine qadk (hpl _ (by simp)) ⟨rfl, rfl, rfl, rfl, trivial⟩ ⟨rfl, rfl, rfl, rfl, trivial⟩ ?_; simp -implicitDefEqProofs [icv, l1, q1, q2, b12, b9, b10, b11, *]) | (exact qafs 19 (.inr (by decide)) hm (by decide) rfl rfl rfl rfl rfl rfl) | fail)
end Go.Proofs.Ytefkifebgeagiaa
namespace Go.Proofs.Ytefkifebgeagiaa
set_option linter.all false
open Go.RowKit
theorem qana (x : Int) : 0 ≤ IntKind.u64.wrap x := by
 simp [IntKind.wrap, IntKind.bits, IntKind.signed]; omega
theorem qam3 (op : BinOp) (x y : Int) : 0 ≤ bits op .u64 x y := qana _
theorem qap3 {M : VmM} (h : VPos M) (r : Nat) {v : Int} (hv : 0 ≤ v) : VPos (putM M r v) := ⟨fun u hu => by
 rcases List.mem_or_eq_of_mem_set hu with h1 | rfl
 ·exact h.r u h1
 ·exact hv, h.s⟩
theorem qaow (b : List Int) (at_ : Nat) : ∀ k, 0 ≤ qaf3 b at_ k
 | 0 => Int.le_refl _
 | k + 1 => qam3 _ _ _
theorem qanb (c : Bool) : 0 ≤ qanc c := by cases c <;> decide
theorem qaoy (op a c : Int) (ha : 0 ≤ a) : 0 ≤ qajy op a c := by
 unfold qajy
 repeat' split
 all_goals first | exact qana _ | exact qam3 _ _ _ | exact qanb _ | exact Int.le_refl _ | exact Int.ediv_nonneg ha (Int.le_of_lt (Int.pow_pos (by decide)))
structure VStep (p : Prog) (M M' : VmM) : Prop where
 ok : VOk M'
 pos : VPos M'
 sl : VSl p M'
 out : M'.out.length ≤ M.out.length + 1000
variable {p : Prog} {b : List Int} {port : Int} {M : VmM}
theorem qacx (h : VOk M) (hp : VPos M) (hs : VSl p M) : VStep p M M := ⟨h, hp, hs, by omega⟩
theorem qacq (h : VOk M) (hp : VPos M) (hs : VSl p M) (r : Nat) {v : Int} (hv : 0 ≤ v) : VStep p M (putM M r v) := ⟨putM_ok h r v, qap3 hp r hv, ⟨hs.s, hs.f⟩, by show M.out.length ≤ _; omega⟩
theorem qakr (v : Int) : ∀ k, (putB v k).length = k
 | 0 => rfl
 | k + 1 => by simp [putB, qakr v k]
theorem qapu (h : VOk M) (hp : VPos M) (hs : VSl p M) (hb : b.length ≤ 600) (x : Ins) (hk : x.op = 14 → x.k ≤ 8) : VStep p M (oneM b x M).1 := by
 unfold oneM
 split
 ·exact qacx h hp hs
 ·split
  ·exact qacq h hp hs _ (qam3 _ _ _)
  ·split
   ·refine ⟨⟨h.r, h.h⟩, ⟨hp.r, fun u hu => ?_⟩, ⟨by simpa using hs.s, by simpa using hs.f⟩, by show M.out.length ≤ _; omega⟩
    rcases List.mem_or_eq_of_mem_set hu with h1 | rfl
    ·exact hp.s u h1
    ·exact qaqv hp.r _
   ·split
    ·rename_i h14
     refine ⟨⟨h.r, h.h⟩, ⟨hp.r, hp.s⟩, ⟨hs.s, hs.f⟩, ?_⟩
     have := hk h14
     simp only [List.length_append, qakr]; omega
    ·split
     ·split
      ·refine ⟨⟨h.r, h.h⟩, ⟨hp.r, hp.s⟩, ⟨hs.s, hs.f⟩, ?_⟩
       simp only [List.length_append, List.length_drop]; omega
      ·exact qacx h hp hs
     ·split
      ·exact ⟨⟨h.r, h.h⟩, ⟨hp.r, hp.s⟩, ⟨hs.s, hs.f⟩, by show M.out.length ≤ _; omega⟩
      ·exact qacx h hp hs
theorem qaka (h : VOk M) (hp : VPos M) (hs : VSl p M) (hb : b.length ≤ 600) (x : Ins) (hn : 0 ≤ x.n) (hk : x.op = 14 → x.k ≤ 8) : VStep p M (qad6 b port x M).1 := by
 unfold qad6
 repeat' split
 all_goals first | exact qacx h hp hs | exact qapu h hp hs hb x hk | skip
 ·exact qacq h hp hs _ hn
 ·exact qacq h hp hs _ (qana _)
 ·exact qacq h hp hs _ (qaqv hp.s _)
 ·exact qacq h hp hs _ (qaqv hp.r _)
 ·unfold qanr
  split
  ·exact qacq h hp hs _ (qaow _ _ _)
  ·exact qacx h hp hs
 ·exact qacq h hp hs _ (qaoy _ _ _ (qaqv hp.r _))
 ·exact qacq h hp hs _ (qana _)
theorem qakb (h : VOk M) (hp : VPos M) (hs : VSl p M) (hb : b.length ≤ 600) (x : Ins) (hn : 0 ≤ x.n) (hk : x.op = 14 → x.k ≤ 8) : VStep p M (qacn b port x M).1 := by
 unfold qacn
 repeat' split
 all_goals first | exact qacx h hp hs | exact qaka h hp hs hb x hn hk
def runG (p : Prog) (b : List Int) (port : Int) : Nat → Nat → Nat → VmM → (Int × List Int) × Int × Int × Int
 | 0, _, _, _ => ((0, []), 0, 0, 0)
 | f + 1, at_, n, M =>
  if (nth p.code at_).op = 17 then ((-1, []), n, 0, 0)
  else if (qacn b port (nth p.code at_) M).2.2 ≠ 0 then ((0, []), 0, (qacn b port (nth p.code at_) M).2.2, at_)
  else if (nth p.code at_).op = 16 then (((qacn b port (nth p.code at_) M).1.op, (qacn b port (nth p.code at_) M).1.out), n, 0, 0)
  else if (qacn b port (nth p.code at_) M).2.1 = true then runG p b port f (at_ + (nth p.code at_).to.toNat + 1) (n + 1) (qacn b port (nth p.code at_) M).1
  else runG p b port f (at_ + 1) (n + 1) (qacn b port (nth p.code at_) M).1
def qacr (p : Prog) : VmM := ⟨List.replicate 10 0, List.replicate 10 false, List.replicate p.slots.toNat 0, List.replicate p.slots.toNat false, 0, []⟩
def runV (p : Prog) (b : List Int) (port : Int) : (Int × List Int) × Int × Int × Int :=
 if (qacu p).1 ≠ 0 then ((0, []), 0, qacu p)
 else if p.tabs.length ≠ 0 then ((0, []), 0, 2, -1)
 else if 600 < b.length then ((0, []), 0, 14, -1)
 else if port < 0 ∨ 65535 < port then ((0, []), 0, 1, -1)
 else runG p b port p.code.length 0 1 (qacr p)
theorem qae7 (hl : ∀ i, i < p.code.length → 0 ≤ (nth p.code i).to ∧ (hasT (nth p.code i).op = true → (nth p.code i).to < (p.code.length : Int) - i - 1)) (he : qak2 (nth p.code (p.code.length - 1)).op = true) : ∀ (f at_ n : Nat) (M : VmM), at_ < p.code.length → p.code.length - at_ ≤ f → 1 ≤ n → n ≤ at_ + 1 →
  0 ≤ (runG p b port f at_ n M).2.1 ∧ (runG p b port f at_ n M).2.1 ≤ p.code.length ∧ ((runG p b port f at_ n M).2.2.1 = 0 → (runG p b port f at_ n M).2.1 ≠ 0) ∧ (runG p b port f at_ n M).2.2.2 < p.code.length
 | 0, at_, n, M, h1, h2, _, _ => by omega
 | f + 1, at_, n, M, h1, h2, h3, h4 => by
  rw [runG]
  by_cases c1 : (nth p.code at_).op = 17
  ·rw [if_pos c1]; simp only; omega
  rw [if_neg c1]
  by_cases c2 : (qacn b port (nth p.code at_) M).2.2 ≠ 0
  ·rw [if_pos c2]; simp only; refine ⟨by omega, by omega, fun h => absurd h c2, by omega⟩
  rw [if_neg c2]
  by_cases c3 : (nth p.code at_).op = 16
  ·rw [if_pos c3]; simp only; omega
  rw [if_neg c3]
  have hne : at_ ≠ p.code.length - 1 := fun e => by
   rw [← e] at he
   unfold qak2 at he
   simp only [decide_eq_true_eq] at he
   omega
  obtain ⟨l1, l2⟩ := hl at_ h1
  by_cases c4 : (qacn b port (nth p.code at_) M).2.1 = true
  ·rw [if_pos c4]
   have ht : hasT (nth p.code at_).op = true := by
    unfold hasT
    unfold qacn at c4
    rw [decide_eq_true_eq]
    split at c4
    ·omega
    ·split at c4
     ·omega
     ·split at c4
      ·omega
      ·split at c4
       ·omega
       ·cases c4
   have := l2 ht
   exact qae7 hl he f _ _ _ (by omega) (by omega) (by omega) (by omega)
  ·rw [if_neg c4]
   exact qae7 hl he f _ _ _ (by omega) (by omega) (by omega) (by omega)
end Go.Proofs.Ytefkifebgeagiaa
namespace Go.Proofs.Ytefkifebgeagiaa
set_option linter.all false
open Go.RowKit
attribute [local simp] qab2 qab1 qaa2 qabg qaa3 qabf qabz qab0 qaav qacs SOp.run SX.ev putd puts argS upds SOp.touch SSt.keep SSt.skip gets geth puth delh idOf SV.cells? setL qaf7 qaf8 sbin eq0 eq1 eqL qafp qaef qaeg qaaj qab3 qaaa qab4 qact qaae qaas FrzOk qabj qaa5 qabh qabi qaax qaa4 qab5 qaa6 qaaz qabk qaay frzS frzH frz frz1 frz0 SlotsM ObjsM ObjM rn ren ren1 ren0 qacw qadi qaep qacv qab6 qadj qaeo CoL qabm qabl dels adds idsH qabc
theorem qam9 (p : Prog) (q : Nat) : SCalls Try.prog 48 [.agg (pcv p), .nilsl] [] q (.bool (p.tabs.length == 0)) [] := by
 refine qabu ?_ (fun _ => rfl) (fun _ => rfl) rfl q
 refine qaar (N := 37) Try.func48 rfl rfl (by kernel_rfl) qaen (by simp) (by repeat' (first | exact trivial | refine And.intro ?_ ?_ | rfl | decide | exact PureR.ren _)) (by repeat' (first | exact trivial | refine And.intro ?_ ?_ | rfl | decide | exact PureR.ren _)) ?_
 rintro X hP hN hm
 unfold c_vfits pcv
 by_cases h0 : p.tabs.length = 0
 ·have e1 : (p.tabs.length == 0) = true := by simpa using h0
  have e2 : ((p.tabs.length : Int) != 0) = false := by rw [h0]; rfl
  rw [e1]
  replace h0 := Lib.hid h0
  repeat' (first | (with_reducible refine zA ?_) | ((with_reducible refine qaac ?_); (try rw [hP]); simp -implicitDefEqProofs [e2, *]) | ((with_reducible refine qaai ?_); (try simp -implicitDefEqProofs [e2, *])) | ((with_reducible refine qaab rfl (fun h => ?_) (fun h => ?_)) <;> have h' := h <;> (try simp at h') <;> (try subst h')) | fail)
  refine qab8 (qaew (fun s (i : Nat) => s.turn [(16, .int .i64 i)] []) (fun i => i = 0) (fun i => 1 - i) 0 ?_ rfl ?_)
  ·repeat' (first | ((with_reducible refine qabw [] hm ?_ ?_ ?_ ?_) <;> (try simp only [zT, puth, Nat.reduceEqDiff, reduceIte, Nat.reduceAdd])) | (with_reducible first | refine za ?_ ?_ | refine zb ?_ ?_ ?_ ?_) | (with_reducible first | exact qach | exact qac0) | ((with_reducible first | refine zga ?_ | refine zgb ?_); rfl) | ((with_reducible refine zgd ?_); (first | omega | (simp; done))) | (exact Co.refl _) | (exact CoL.refl _) | fail)
  rintro J hJ i rfl
  unfold qaer
  simp only [zT, puth, Nat.reduceEqDiff, reduceIte, Nat.reduceAdd]
  have e3 : ((p.tabs.length : Int)) = 0 := by have := h0.out; omega
  repeat' (first | (with_reducible refine zA ?_) | ((with_reducible refine qaac ?_); (try rw [hP]); simp -implicitDefEqProofs [e3, *]) | ((with_reducible refine qae6 ?_); (try simp -implicitDefEqProofs [e3, *])) | ((with_reducible refine qaah ?_); (try simp only [qaaj, qaaa, qaae])) | ((with_reducible refine qaab rfl (fun h => ?_) (fun h => ?_)) <;> have h' := h <;> (try simp at h') <;> (try subst h')) | (with_reducible refine zN hm ?_) | fail)
  all_goals rfl
 ·have e1 : (p.tabs.length == 0) = false := by simpa using h0
  have e2 : ((p.tabs.length : Int) != 0) = true := by simpa using h0
  rw [e1]
  replace h0 := Lib.hid h0
  repeat' (first | (with_reducible refine zA ?_) | ((with_reducible refine qaac ?_); (try rw [hP]); simp -implicitDefEqProofs [e2, *]) | ((with_reducible refine qaah ?_); (try simp only [qaaj, qaaa, qaae])) | ((with_reducible refine qaab rfl (fun h => ?_) (fun h => ?_)) <;> have h' := h <;> (try simp at h') <;> (try subst h')) | (with_reducible refine zN hm ?_) | fail)
  all_goals rfl
theorem qam8 (p : Prog) (q : Nat) : SCalls Try.prog 48 [.agg (pcv p), .view 1 [[.nil]]] [] q (.bool false) [] := by
 refine qabu ?_ (fun _ => rfl) (fun _ => rfl) rfl q
 refine qaar (N := 37) Try.func48 rfl rfl (by kernel_rfl) qaen (by simp) (by repeat' (first | exact trivial | refine And.intro ?_ ?_ | rfl | decide | exact PureR.ren _)) (by repeat' (first | exact trivial | refine And.intro ?_ ?_ | rfl | decide | exact PureR.ren _)) ?_
 rintro X hP hN hm
 unfold c_vfits pcv
 by_cases h0 : p.tabs.length = 1
 ·have e2 : ((p.tabs.length : Int) != 1) = false := by rw [h0]; rfl
  have hi : 0 < p.tabs.length := by omega
  replace h0 := Lib.hid h0
  repeat' (first | (with_reducible refine zA ?_) | ((with_reducible refine qaac ?_); (try rw [hP]); simp -implicitDefEqProofs [e2, *]) | ((with_reducible refine qaai ?_); (try simp -implicitDefEqProofs [e2, *])) | ((with_reducible refine qaab rfl (fun h => ?_) (fun h => ?_)) <;> have h' := h <;> (try simp at h') <;> (try subst h')) | fail)
  refine qab8 (qaew (fun s (i : Nat) => s.turn [(16, .int .i64 i)] []) (fun i => i = 0) (fun i => 1 - i) 0 ?_ rfl ?_)
  ·repeat' (first | ((with_reducible refine qabw [] hm ?_ ?_ ?_ ?_) <;> (try simp only [zT, puth, Nat.reduceEqDiff, reduceIte, Nat.reduceAdd])) | (with_reducible first | refine za ?_ ?_ | refine zb ?_ ?_ ?_ ?_) | (with_reducible first | exact qach | exact qac0) | ((with_reducible first | refine zga ?_ | refine zgb ?_); rfl) | ((with_reducible refine zgd ?_); (first | omega | (simp; done))) | (exact Co.refl _) | (exact CoL.refl _) | fail)
  rintro J hJ i rfl
  unfold qaer
  simp only [zT, puth, Nat.reduceEqDiff, reduceIte, Nat.reduceAdd]
  have e3 : ((p.tabs.length : Int)) = 1 := by have := h0.out; omega
  repeat' (first | (with_reducible first | refine zA ?_ | refine qaad ?_ | refine zK ?_) | ((with_reducible first | refine qaac ?_ | refine qaap (by rw [hP]; exact qad7) ?_); (try rw [hP]); simp -implicitDefEqProofs [e3, List.getElem?_eq_getElem hi, scv, *]) | ((with_reducible refine qaai ?_); (try simp -implicitDefEqProofs [e3, List.getElem?_eq_getElem hi, scv, *])) | ((with_reducible refine qaah ?_); (try simp only [qaaj, qaaa, qaae])) | ((with_reducible refine qaab rfl (fun h => ?_) (fun h => ?_)) <;> have h' := h <;> (try simp at h') <;> (try subst h')) | (with_reducible refine zN hm ?_) | fail)
  all_goals first | rfl | trace_state
 ·have e2 : ((p.tabs.length : Int) != 1) = true := by simp; omega
  replace h0 := Lib.hid h0
  repeat' (first | (with_reducible refine zA ?_) | ((with_reducible refine qaac ?_); (try rw [hP]); simp -implicitDefEqProofs [e2, *]) | ((with_reducible refine qaah ?_); (try simp only [qaaj, qaaa, qaae])) | ((with_reducible refine qaab rfl (fun h => ?_) (fun h => ?_)) <;> have h' := h <;> (try simp at h') <;> (try subst h')) | (with_reducible refine zN hm ?_) | fail)
  all_goals rfl
end Go.Proofs.Ytefkifebgeagiaa
namespace Go.Proofs.Ytefkifebgeagiaa
set_option linter.all false
open Go.RowKit
attribute [local simp] qab2 qab1 qaa2 qabg qaa3 qabf qabz qab0 qaav qacs SOp.run SX.ev putd puts argS upds SOp.touch SSt.keep SSt.skip gets geth puth delh idOf SV.cells? setL qaf7 qaf8 sbin eq0 eq1 eqL qafp qaef qaeg qaaj qab3 qaaa qab4 qact qaae qaas FrzOk qabj qaa5 qabh qabi qaax qaa4 qab5 qaa6 qaaz qabk qaay frzS frzH frz frz1 frz0 SlotsM ObjsM ObjM rn ren ren1 ren0 qacw qadi qaep qacv qab6 qadj qaeo CoL qabm qabl dels adds idsH qabc
theorem qadd : qafl Try.prog 62 = some true := by kernel_rfl
theorem qacb : qaat Try.prog 62 = some 2 := by kernel_rfl
theorem qadc : qafl Try.prog 60 = some true := by kernel_rfl
theorem qaca : qaat Try.prog 60 = some 2 := by kernel_rfl
theorem qadb {X : Cx} {sl : Sl} {hp : Hp} {t u y nx id id2 n n2 : Nat} {ty ty2 : TypeId} {cs ds es fs : List SV} {v r : SV} (hm : X.m = 0) (h1 : t ≠ u) (h2 : t ≠ y) (h3 : u ≠ y) (hid : id ≠ id2) (hv : gets sl t = v) (hN : NoN v) (hu : gets sl u = .ptr id 0) (hy : gets sl y = .ptr id2 0) (h : geth hp id = some (.cells ty cs)) (g : geth hp id2 = some (.cells ty2 es)) (ha : qafl X.P ty = some true) (hn : qaat X.P ty = some n) (ha2 : qafl X.P ty2 = some true) (hn2 : qaat X.P ty2 = some n2) (hl : ds.length = n) (hl2 : fs.length = n2) (e : CoL cs ds) (e2 : CoL es fs) (hr : r = .tup [.agg ds, v, .agg fs]) (hd : ∀ σ, ds.map (Go.Proofs.Ytefkifebgeagiaa.ren σ) = ds) (hd2 : ∀ σ, fs.map (Go.Proofs.Ytefkifebgeagiaa.ren σ) = fs) : QFun X [.cell u ty, .tmp t, .cell y ty2] 0 r [] .ret ⟨sl, hp, nx⟩ := by
 subst hr hl hl2
 have hw : Wk X ⟨sl, hp, nx⟩ ⟨[(t, v), (u, .ptr 0 0), (y, .ptr 1 0)], [(0, .cells ty ds), (1, .cells ty2 fs)], 2⟩ := by
  refine qabw [(0, id), (1, id2)] hm ⟨?_, ?_, ?_, trivial⟩ ⟨⟨_, h, rfl, by rw [hd]; exact e⟩, ⟨_, g, rfl, by rw [hd2]; exact e2⟩, trivial⟩ ?_ (by simp)
  ·rw [hv, hN]; exact Co.refl _
  ·rw [hu]; exact Co.refl _
  ·rw [hy]; exact Co.refl _
  ·simp [qabc, diag, idsH, hid, Ne.symm hid]
 refine ⟨_, hw, ?_, trivial, by simp⟩
 simp [qanj, resL, resV, one_, gets, ha, hn, ha2, hn2, SOp.run, SX.ev, geth, h1, h2, h3, h1.symm, h2.symm, h3.symm]
def runR (r : (Int × List Int) × Int × Int × Int) : SV := .tup [.agg [.int .i64 r.1.1, nums .u8 r.1.2], .int .i64 r.2.1, .agg [.int .i64 r.2.2.1, .int .i64 r.2.2.2]]
def badV (p : Prog) : Int × Int := if (qacu p).1 ≠ 0 then qacu p else (2, -1)
set_option maxRecDepth 4000 in
theorem qapl (p : Prog) (hp : PWf p) (b : List Int) (port : Int) (q : Nat) : SCalls Try.prog 27 [.agg (pcv p), .view 1 [[.nil]], nums .u8 b, .int .i64 port] [] q (.tup [.agg [.int .i64 0, .nilsl], .int .i64 0, .agg [.int .i64 (badV p).1, .int .i64 (badV p).2]]) [] := by
 refine qabu ?_ (fun _ => rfl) (fun _ => rfl) rfl q
 have kc := fun q => qaj1 p hp q
 have kf := fun q => qam8 p q
 unfold qanx at kc
 have hB : badV p = if (qacu p).1 ≠ 0 then qacu p else (2, -1) := rfl
 generalize badV p = B at hB
 generalize qacu p = F at kc hB
 refine qaar (N := 100) Try.func27 rfl rfl (by kernel_rfl) qae4 (by simp) (by repeat' (first | exact trivial | refine And.intro ?_ ?_ | rfl | decide | exact PureR.ren _)) (by repeat' (first | exact trivial | refine And.intro ?_ ?_ | rfl | decide | exact PureR.ren _)) ?_
 rintro X hP hN hm
 unfold c_vrun
 unfold pcv at kc kf ⊢
 by_cases h0 : F.1 = 0
 ·have e1 : (F.1 != 0) = false := by simpa using h0
  rw [if_neg (by simpa using h0)] at hB
  subst hB
  repeat' (first | (with_reducible refine zA ?_) | ((with_reducible refine qaac ?_); (try rw [hP]); simp -implicitDefEqProofs [e1, *]) | ((with_reducible refine qaai ?_); (try simp -implicitDefEqProofs [e1, *])) | ((with_reducible refine qaah ?_); (try simp only [qaaj, qaaa, qaae])) | ((with_reducible refine qaab rfl (fun h => ?_) (fun h => ?_)) <;> have h' := h <;> (try simp at h') <;> (try subst h')) | ((first | refine qabb (kc _) ?_ | refine qabb (kf _) ?_); simp -implicitDefEqProofs [e1, *]) | (exact qadb (id := 1) (id2 := 3) (ds := [.int .i64 0, .nilsl]) (fs := [.int .i64 2, .int .i64 (-1)]) hm (by decide) (by decide) (by decide) (by decide) rfl (qab9 _ _) rfl rfl rfl rfl (by rw [hP]; exact qadc) (by rw [hP]; exact qaca) (by rw [hP]; exact qadd) (by rw [hP]; exact qacb) rfl rfl (CoL.refl _) (CoL.refl _) rfl (fun _ => rfl) (fun _ => rfl)) | fail)
  all_goals trace_state
 ·have e1 : (F.1 != 0) = true := by simpa using h0
  rw [if_pos (by simpa using h0)] at hB
  subst hB
  replace h0 := Lib.hid h0
  repeat' (first | (with_reducible first | refine zA ?_ | refine zK ?_) | ((with_reducible first | refine qaac ?_ | refine qaap (by rw [hP]; exact qad7) ?_); (try rw [hP]); simp -implicitDefEqProofs [e1, *]) | ((with_reducible refine qaah ?_); (try simp only [qaaj, qaaa, qaae])) | ((with_reducible refine qaab rfl (fun h => ?_) (fun h => ?_)) <;> have h' := h <;> (try simp at h') <;> (try subst h')) | (refine qabb (kc _) ?_; simp -implicitDefEqProofs [e1, *]) | (exact qadb (id := 1) (id2 := 3) (ds := [.int .i64 0, .nilsl]) (fs := [.int .i64 B.1, .int .i64 B.2]) hm (by decide) (by decide) (by decide) (by decide) rfl (qab9 _ _) rfl rfl rfl rfl (by rw [hP]; exact qadc) (by rw [hP]; exact qaca) (by rw [hP]; exact qadd) (by rw [hP]; exact qacb) rfl rfl (CoL.refl _) (CoL.refl _) rfl (fun _ => rfl) (fun _ => rfl)) | fail)
  all_goals trace_state
theorem qafq {p : Prog} (h : (qacu p).1 = 0) : qak2 (nth p.code (p.code.length - 1)).op = true ∧ 0 < p.code.length ∧ p.code.length ≤ 60000 ∧ 0 ≤ p.slots ∧ p.slots ≤ 96 := by
 unfold qacu at h
 split at h
 ·cases h
 ·split at h
  ·cases h
  ·split at h
   ·cases h
   ·split at h
    ·simp only at h
     split at h <;> cases h
    ·split at h
     ·rename_i h5
      exact ⟨h5, by omega, by omega, by omega, by omega⟩
     ·cases h
theorem ins14 {p : Prog} (hp : PWf p) (h : (qacu p).1 = 0) {i : Nat} (hi : i < p.code.length) (h14 : (nth p.code i).op = 14) : 1 ≤ (nth p.code i).k ∧ (nth p.code i).k ≤ 8 := by
 have hv := (qaez hp.c h).1
 by_cases h1 : p.slots < 0 ∨ 96 < p.slots
 ·rw [qacz h1] at h; cases h
 by_cases h2 : 5 < p.tabs.length ∨ p.code.length = 0 ∨ 60000 < p.code.length
 ·rw [qado h1 h2] at h; cases h
 by_cases h4 : qabr (qabn p.slots p.tabs p.code) p.code.length < p.code.length
 ·rw [qadp h1 h2 hv.tab (qabd _ _) h4 (qac4 _ _ h4)] at h
  simp only at h
  split at h <;> cases h
 have h4' := qads (qabn p.slots p.tabs p.code) p.code.length (by have := qac3 (qabn p.slots p.tabs p.code) p.code.length; omega)
 have hb := h4' i hi
 unfold qabn qacf at hb
 simp only [Bool.or_eq_false_iff, Bool.not_eq_false', Bool.and_eq_true] at hb
 have := hb.1.2
 unfold qaak at this
 simpa [h14] using this
theorem qapw (p : Prog) : VOk (qacr p) := ⟨by simp [qacr], by simp [qacr]⟩
theorem qand (p : Prog) : VPos (qacr p) := ⟨fun v hv => by rw [(List.mem_replicate.1 hv).2]; exact Int.le_refl _, fun v hv => by rw [(List.mem_replicate.1 hv).2]; exact Int.le_refl _⟩
theorem qapv (p : Prog) (h : 0 ≤ p.slots) : VSl p (qacr p) := ⟨by simp [qacr]; omega, by simp [qacr]; omega⟩
theorem qaik (p : Prog) (b : List Int) (port : Int) : vcl p b port (qacr p) = [.int .i64 p.slots, .view 3 (p.tabs.map scv), .view 6 (p.code.map icv), .nilsl, nums .u8 b, .int .i64 port, .int .u64 0, .int .u64 0, .int .u64 0, .int .u64 0, .int .u64 0, .int .u64 0, .int .u64 0, .int .u64 0, .int .u64 0, .int .u64 0, .bool false, .bool false, .bool false, .bool false, .bool false, .bool false, .bool false, .bool false, .bool false, .bool false, .own 1 p.slots.toNat, .own 2 p.slots.toNat, .int .i64 0, .own 3 0] := by
 simp [vcl, vcg, vtl, qacr, List.replicate]
theorem qakd (p : Prog) : ((qacr p).slot.map fun x => [SV.int .u64 x]) = List.replicate p.slots.toNat [.int .u64 0] := by simp [qacr]
theorem qakc (p : Prog) : ((qacr p).full.map fun x => [SV.bool x]) = List.replicate p.slots.toNat [.bool false] := by simp [qacr]
set_option maxRecDepth 4000 in
theorem vrun_s (p : Prog) (hp : PWf p) (b : List Int) (port : Int) (q : Nat) : SCalls Try.prog 27 [.agg (pcv p), .nilsl, nums .u8 b, .int .i64 port] [] q (runR (runV p b port)) [] := by
 refine qabu ?_ (fun _ => rfl) (fun _ => rfl) rfl q
 have kc := fun q => qaj1 p hp q
 have kf := fun q => qam9 p q
 unfold qanx at kc
 have hB : runV p b port = if (qacu p).1 ≠ 0 then ((0, []), 0, qacu p) else if p.tabs.length ≠ 0 then ((0, []), 0, 2, -1) else if 600 < b.length then ((0, []), 0, 14, -1)
  else if port < 0 ∨ 65535 < port then ((0, []), 0, 1, -1) else runG p b port p.code.length 0 1 (qacr p) := rfl
 have hmore := @qafq p
 have hins := @qaei p hp.c
 have hin4 : (qacu p).1 = 0 → ∀ i, i < p.code.length → (nth p.code i).op = 14 → 1 ≤ (nth p.code i).k ∧ (nth p.code i).k ≤ 8 := fun h i hi h14 => ins14 hp h hi h14
 generalize runV p b port = B at hB
 generalize qacu p = F at kc hB hmore hins hin4
 refine qaar (N := 100) Try.func27 rfl rfl (by kernel_rfl) qae4 (by simp) (by repeat' (first | exact trivial | refine And.intro ?_ ?_ | rfl | decide | exact PureR.ren _)) (by repeat' (first | exact trivial | refine And.intro ?_ ?_ | rfl | decide | exact PureR.ren _)) ?_
 rintro X hP hN hm
 unfold c_vrun
 unfold pcv at kc kf ⊢
 by_cases h0 : F.1 = 0
 case neg =>
  have e1 : (F.1 != 0) = true := by simpa using h0
  rw [if_pos (by simpa using h0)] at hB
  subst hB
  clear hins hmore hin4
  replace h0 := Lib.hid h0
  repeat' (first | (with_reducible first | refine zA ?_ | refine zK ?_) | ((with_reducible first | refine qaac ?_ | refine qaap (by rw [hP]; exact qad7) ?_); (try rw [hP]); simp -implicitDefEqProofs [nums, e1, *]) | ((with_reducible refine qaah ?_); (try simp only [qaaj, qaaa, qaae])) | ((with_reducible refine qaab rfl (fun h => ?_) (fun h => ?_)) <;> have h' := h <;> (try simp at h') <;> (try subst h')) | (refine qabb (kc _) ?_; simp -implicitDefEqProofs [nums, e1, *]) | (exact qadb (id := 1) (id2 := 3) (ds := [.int .i64 0, nums .u8 []]) (fs := [.int .i64 F.1, .int .i64 F.2]) hm (by decide) (by decide) (by decide) (by decide) rfl (qab9 _ _) rfl rfl rfl rfl (by rw [hP]; exact qadc) (by rw [hP]; exact qaca) (by rw [hP]; exact qadd) (by rw [hP]; exact qacb) rfl rfl ⟨Co.refl _, Co.nilsl 1, trivial⟩ (CoL.refl _) rfl (fun _ => rfl) (fun _ => rfl)) | fail)
 case pos =>
  have e1 : (F.1 != 0) = false := by simpa using h0
  rw [if_neg (by simpa using h0)] at hB
  obtain ⟨m1, m2, m3, m4, m5⟩ := hmore h0
  have hi := hins h0
  have hi4 := hin4 h0
  clear hins hmore hin4
  replace hi4 := Lib.hid hi4
  replace h0 := Lib.hid h0
  by_cases ht : p.tabs.length = 0
  case neg =>
   have e2 : (p.tabs.length == 0) = false := by simpa using ht
   rw [if_pos ht] at hB
   subst hB
   rw [e2] at kf
   clear hi m1
   replace ht := Lib.hid ht
   repeat' (first | (with_reducible refine zA ?_) | ((with_reducible refine qaac ?_); (try rw [hP]); simp -implicitDefEqProofs [nums, e1, *]) | ((with_reducible refine qaai ?_); (try simp -implicitDefEqProofs [nums, e1, *])) | ((with_reducible refine qaah ?_); (try simp only [qaaj, qaaa, qaae])) | ((with_reducible refine qaab rfl (fun h => ?_) (fun h => ?_)) <;> have h' := h <;> (try simp at h') <;> (try subst h')) | ((first | refine qabb (kc _) ?_ | refine qabb (kf _) ?_); simp -implicitDefEqProofs [nums, e1, *]) | (exact qadb (id := 1) (id2 := 3) (ds := [.int .i64 0, nums .u8 []]) (fs := [.int .i64 2, .int .i64 (-1)]) hm (by decide) (by decide) (by decide) (by decide) rfl (qab9 _ _) rfl rfl rfl rfl (by rw [hP]; exact qadc) (by rw [hP]; exact qaca) (by rw [hP]; exact qadd) (by rw [hP]; exact qacb) rfl rfl ⟨Co.refl _, Co.nilsl 1, trivial⟩ (CoL.refl _) rfl (fun _ => rfl) (fun _ => rfl)) | fail)
   all_goals trace_state
  case pos =>
   have e2 : (p.tabs.length == 0) = true := by simpa using ht
   rw [if_neg (by simpa using ht)] at hB
   rw [e2] at kf
   replace ht := Lib.hid ht
   by_cases hb : 600 < b.length
   ·rw [if_pos hb] at hB
    subst hB
    have e3 : ((b.length : Int) > 600) := by omega
    clear hi m1
    repeat' (first | (with_reducible refine zA ?_) | ((with_reducible refine qaac ?_); (try rw [hP]); simp -implicitDefEqProofs [nums, e1, *]) | ((with_reducible refine qaai ?_); (try simp -implicitDefEqProofs [nums, e1, *])) | ((with_reducible refine qaah ?_); (try simp only [qaaj, qaaa, qaae])) | ((with_reducible refine qaab rfl (fun h => ?_) (fun h => ?_)) <;> have h' := h <;> (try simp at h') <;> (try subst h')) | ((first | refine qabb (kc _) ?_ | refine qabb (kf _) ?_); simp -implicitDefEqProofs [nums, e1, *]) | (exact qadb (id := 1) (id2 := 3) (ds := [.int .i64 0, nums .u8 []]) (fs := [.int .i64 14, .int .i64 (-1)]) hm (by decide) (by decide) (by decide) (by decide) rfl (qab9 _ _) rfl rfl rfl rfl (by rw [hP]; exact qadc) (by rw [hP]; exact qaca) (by rw [hP]; exact qadd) (by rw [hP]; exact qacb) rfl rfl ⟨Co.refl _, Co.nilsl 1, trivial⟩ (CoL.refl _) rfl (fun _ => rfl) (fun _ => rfl)) | fail)
    all_goals trace_state
   rw [if_neg hb] at hB
   have e3 : ¬ ((b.length : Int) > 600) := by omega
   by_cases hpo : port < 0 ∨ 65535 < port
   ·rw [if_pos hpo] at hB
    subst hB
    clear hi m1
    by_cases hp0 : port < 0
    ·clear hpo
     repeat' (first | (with_reducible refine zA ?_) | ((with_reducible refine qaac ?_); (try rw [hP]); simp -implicitDefEqProofs [nums, e1, *]) | ((with_reducible refine qaai ?_); (try simp -implicitDefEqProofs [nums, e1, *])) | ((with_reducible refine qaah ?_); (try simp only [qaaj, qaaa, qaae])) | ((with_reducible refine qaab rfl (fun h => ?_) (fun h => ?_)) <;> have h' := h <;> (try simp at h') <;> (try subst h')) | ((first | refine qabb (kc _) ?_ | refine qabb (kf _) ?_); simp -implicitDefEqProofs [nums, e1, *]) | (exact qadb (id := 1) (id2 := 3) (ds := [.int .i64 0, nums .u8 []]) (fs := [.int .i64 1, .int .i64 (-1)]) hm (by decide) (by decide) (by decide) (by decide) rfl (qab9 _ _) rfl rfl rfl rfl (by rw [hP]; exact qadc) (by rw [hP]; exact qaca) (by rw [hP]; exact qadd) (by rw [hP]; exact qacb) rfl rfl ⟨Co.refl _, Co.nilsl 1, trivial⟩ (CoL.refl _) rfl (fun _ => rfl) (fun _ => rfl)) | fail)
     all_goals trace_state
    ·have hp1 : port > 65535 := by omega
     clear hpo
     repeat' (first | (with_reducible refine zA ?_) | ((with_reducible refine qaac ?_); (try rw [hP]); simp -implicitDefEqProofs [nums, e1, *]) | ((with_reducible refine qaai ?_); (try simp -implicitDefEqProofs [nums, e1, *])) | ((with_reducible refine qaah ?_); (try simp only [qaaj, qaaa, qaae])) | ((with_reducible refine qaab rfl (fun h => ?_) (fun h => ?_)) <;> have h' := h <;> (try simp at h') <;> (try subst h')) | ((first | refine qabb (kc _) ?_ | refine qabb (kf _) ?_); simp -implicitDefEqProofs [nums, e1, *]) | (exact qadb (id := 1) (id2 := 3) (ds := [.int .i64 0, nums .u8 []]) (fs := [.int .i64 1, .int .i64 (-1)]) hm (by decide) (by decide) (by decide) (by decide) rfl (qab9 _ _) rfl rfl rfl rfl (by rw [hP]; exact qadc) (by rw [hP]; exact qaca) (by rw [hP]; exact qadd) (by rw [hP]; exact qacb) rfl rfl ⟨Co.refl _, Co.nilsl 1, trivial⟩ (CoL.refl _) rfl (fun _ => rfl) (fun _ => rfl)) | fail)
     all_goals trace_state
   ·rw [if_neg hpo] at hB
    have hp0 : ¬ port < 0 := by omega
    have hp1 : ¬ port > 65535 := by omega
    clear hpo
    replace hi := Lib.hid hi
    replace hB := Lib.hid hB
    replace m1 := Lib.hid m1
    repeat' (first | (with_reducible first | refine zA ?_ | refine zK ?_) | ((with_reducible first | refine qaac ?_ | refine qaap (by rw [hP]; exact qad7) ?_); (try rw [hP]); simp -implicitDefEqProofs [nums, e1, m4, *]) | ((with_reducible refine qaai ?_); (try simp -implicitDefEqProofs [nums, e1, m4, *])) | ((with_reducible refine qaab rfl (fun h => ?_) (fun h => ?_)) <;> have h' := h <;> (try simp at h') <;> (try subst h')) | ((with_reducible refine qagc ?_ ?_); (first | omega | (unfold maxLen; omega)); simp -implicitDefEqProofs [nums, e1, m4, *]) | ((first | refine qabb (kc _) ?_ | refine qabb (kf _) ?_); simp -implicitDefEqProofs [nums, e1, m4, *]) | fail)
    refine swp_wk (qam6 49 29 5 1 rfl rfl) ?_
    refine qab8 (qaew (fun s (z : Nat × Nat × VmM) => ⟨[(4, .ptr 4 0), (8, .ptr 5 0), (10, .ptr 6 0), (12, .ptr 0 0), (13, .int .i64 z.1), (14, .int .i64 z.2.1)], [(0, .cells 91 (vcl p b port z.2.2)), (1, .row 39 1 (z.2.2.slot.map fun x => [SV.int .u64 x])), (2, .row 4 1 (z.2.2.full.map fun x => [SV.bool x])), (3, .row 5 1 (z.2.2.out.map fun x => [SV.int .u8 x])), (4, .cells 56 (pcv p)), (5, .cells 60 [.int .i64 0, .nilsl]), (6, .cells 62 [.int .i64 0, .int .i64 0])], 7⟩)
     (fun z => z.1 < p.code.length ∧ 1 ≤ z.2.1 ∧ z.2.1 ≤ z.1 + 1 ∧ VOk z.2.2 ∧ VPos z.2.2 ∧ VSl p z.2.2 ∧ z.2.2.out.length ≤ z.2.1 * 1000 ∧ ∃ f, p.code.length - z.1 ≤ f ∧ B = runG p b port f z.1 z.2.1 z.2.2) (fun z => p.code.length - z.1) (0, 1, qacr p) ?_ ⟨m2, by simp, by simp, qapw p, qand p, qapv p m4, by simp [qacr], p.code.length, by simp, hB.out⟩ ?_)
    ·refine qabw [(0, 49), (1, 44), (2, 47), (3, 53), (4, 0), (5, 1), (6, 3)] hm ⟨Co.refl _, Co.refl _, Co.refl _, Co.refl _, Co.refl _, Co.refl _, trivial⟩ ⟨⟨_, rfl, rfl, ?_⟩, ⟨_, rfl, rfl, rfl, ?_⟩, ⟨_, rfl, rfl, rfl, ?_⟩, ⟨_, rfl, rfl, rfl, CoLL.refl _⟩, ⟨_, rfl, rfl, CoL.refl _⟩, ⟨_, rfl, rfl, CoL.refl _⟩, ⟨_, rfl, rfl, CoL.refl _⟩, trivial⟩ rfl (by simp)
     ·rw [qaik]; exact CoL.refl _
     ·rw [PureR.ren, qakd]; exact CoLL.refl _
     ·rw [PureR.ren, qakc]; exact CoLL.refl _
    rintro J hJ ⟨at_, n, M⟩ ⟨c1, c2, c3, c4, c5, c6, c7, f, c8, c9⟩
    unfold qaif
    simp only at c1 c2 c3 c4 c5 c6 c7 c8 c9 ⊢
    obtain ⟨g, rfl⟩ : ∃ g, f = g + 1 := ⟨f - 1, by omega⟩
    rw [runG] at c9
    obtain ⟨x1, x2, x3⟩ := hi.out at_ c1
    have hbl : b.length ≤ 600 := by omega
    have h13 : (nth p.code at_).op ≠ 13 := fun h => by have := x1.tn h; have := x1.n0; have := ht.out; omega
    have h14 : (nth p.code at_).op = 14 → 1 ≤ (nth p.code at_).k ∧ (nth p.code at_).k ≤ 8 := fun h => hi4.out at_ c1 h
    have kl := fun q hq => v_upk (qapo p b port M c4 c5 c6 (by omega) (by omega) (nth p.code at_) x1 h14 h13) q hq rfl rfl rfl
    have st := qakb (p := p) (port := port) c4 c5 c6 hbl (nth p.code at_) x1.n0 fun h => (h14 h).2
    have hend : (nth p.code at_).op ≠ 17 → (nth p.code at_).op ≠ 16 → at_ + 1 < p.code.length := fun h17 h16 => by
     rcases Nat.lt_or_ge (at_ + 1) p.code.length with h | h
     ·exact h
     ·exfalso
      have := m1.out
      rw [show p.code.length - 1 = at_ by omega] at this
      unfold qak2 at this
      simp only [decide_eq_true_eq] at this
      omega
    have hT : (qacn b port (nth p.code at_) M).2.1 = true → hasT (nth p.code at_).op = true := fun h => by
     unfold hasT
     unfold qacn at h
     rw [decide_eq_true_eq]
     split at h
     ·omega
     ·split at h
      ·omega
      ·split at h
       ·omega
       ·split at h
        ·omega
        ·cases h
    generalize qacn b port (nth p.code at_) M = L at c9 kl st hT
    have hn := qaiq p.code at_ c1
    generalize hxx : p.code[at_] = x at hn
    rw [hn] at c9 kl hend hT x2 x3
    clear hn h14 x1 h13 hi m1 c4 c5 c6
    obtain ⟨op, r0, s0, k0, tt, n0⟩ := x
    simp only at c9 hend hT x2 x3
    by_cases o17 : op = 17
    ·rw [if_pos o17] at c9
     subst o17 c9
     clear kl hend hT hB
     repeat' (first | (with_reducible first | refine zA ?_ | refine qaad ?_) | ((with_reducible refine qaac ?_); (try rw [hP]); simp -implicitDefEqProofs [icv, pcv, hxx, List.getElem?_eq_getElem c1, *]) | ((with_reducible refine qaah ?_); (try simp only [qaaj, qaaa, qaae])) | ((with_reducible refine qaab rfl (fun h => ?_) (fun h => ?_)) <;> have h' := h <;> (try simp at h') <;> (try subst h')) | (exact qadb (id := 5) (id2 := 6) (ds := [.int .i64 (-1), nums .u8 []]) (fs := [.int .i64 0, .int .i64 0]) hm (by decide) (by decide) (by decide) (by decide) rfl (qab9 _ _) rfl rfl rfl rfl (by rw [hP]; exact qadc) (by rw [hP]; exact qaca) (by rw [hP]; exact qadd) (by rw [hP]; exact qacb) rfl rfl ⟨Co.refl _, Co.nilsl 1, trivial⟩ (CoL.refl _) rfl (fun _ => rfl) (fun _ => rfl)) | fail)
     all_goals trace_state
    rw [if_neg o17] at c9
    have b17 : (op == 17) = false := by simpa using o17
    replace hend := hend o17
    obtain ⟨M3, ov, e⟩ := L
    simp only at c9 kl st hT
    unfold icv vobj qaet at kl
    by_cases he : e = 0
    case neg =>
     rw [if_pos he] at c9
     subst c9
     have e5 : (e != 0) = true := by simpa using he
     clear hend hT hB he st
     repeat' (first | (with_reducible first | refine zA ?_ | refine qaad ?_) | ((with_reducible refine qaac ?_); (try rw [hP]); simp -implicitDefEqProofs [icv, pcv, hxx, List.getElem?_eq_getElem c1, b17, e5, *]) | ((with_reducible refine qaai ?_); (try simp -implicitDefEqProofs [icv, pcv, hxx, List.getElem?_eq_getElem c1, b17, e5, *])) | ((with_reducible refine qaah ?_); (try simp only [qaaj, qaaa, qaae])) | ((with_reducible refine qaab rfl (fun h => ?_) (fun h => ?_)) <;> have h' := h <;> (try simp at h') <;> (try subst h')) | (refine qadk (kl _ (by simp)) ⟨rfl, rfl, rfl, rfl, trivial⟩ ⟨rfl, rfl, rfl, rfl, trivial⟩ ?_; simp -implicitDefEqProofs [icv, pcv, hxx, List.getElem?_eq_getElem c1, b17, e5, *]) | (exact qadb (id := 5) (id2 := 6) (ds := [.int .i64 0, nums .u8 []]) (fs := [.int .i64 e, .int .i64 at_]) hm (by decide) (by decide) (by decide) (by decide) rfl (qab9 _ _) rfl rfl rfl rfl (by rw [hP]; exact qadc) (by rw [hP]; exact qaca) (by rw [hP]; exact qadd) (by rw [hP]; exact qacb) rfl rfl ⟨Co.refl _, Co.nilsl 1, trivial⟩ (CoL.refl _) rfl (fun _ => rfl) (fun _ => rfl)) | fail)
     all_goals trace_state
    case pos =>
     rw [if_neg (by simpa using he)] at c9
     subst he
     by_cases o16 : op = 16
     ·rw [if_pos o16] at c9
      subst o16 c9
      have l30 := fun (u x y z : SV) => qaec (p := p) (b := b) (port := port) (tl := [u, x, y, z]) st.ok.r st.ok.h rfl
      have d28 := fun (u x y z : SV) => vcg_d28 (p := p) (b := b) (port := port) (x := u) (y := x) (z := y) (u := z) st.ok.r st.ok.h
      clear hend hT hB st
      repeat' (first | (with_reducible first | refine zA ?_ | refine qaad ?_) | ((with_reducible refine qaac ?_); (try rw [hP]); simp -implicitDefEqProofs [icv, pcv, hxx, List.getElem?_eq_getElem c1, b17, l30, d28, *]) | ((with_reducible refine qaai ?_); (try simp -implicitDefEqProofs [icv, pcv, hxx, List.getElem?_eq_getElem c1, b17, l30, d28, *])) | ((with_reducible refine qaah ?_); (try simp only [qaaj, qaaa, qaae])) | ((with_reducible refine qaab rfl (fun h => ?_) (fun h => ?_)) <;> have h' := h <;> (try simp at h') <;> (try subst h')) | (refine qadk (kl _ (by simp)) ⟨rfl, rfl, rfl, rfl, trivial⟩ ⟨rfl, rfl, rfl, rfl, trivial⟩ ?_; simp -implicitDefEqProofs [icv, pcv, hxx, List.getElem?_eq_getElem c1, b17, l30, d28, *]) | fail)
      refine qakq (s1 := ⟨[(8, .ptr 0 0), (9, .int .i64 n), (10, .ptr 1 0)], [(0, .cells 60 [.int .i64 M3.op, .own 2 M3.out.length]), (1, .cells 62 [.int .i64 0, .int .i64 0]), (2, .row 5 1 (M3.out.map fun x => [SV.int .u8 x]))], 3⟩) (qabw [(0, 5), (1, 6), (2, 19)] hm ⟨Co.refl _, Co.refl _, Co.refl _, trivial⟩ ⟨⟨_, rfl, rfl, CoL.refl _⟩, ⟨_, rfl, rfl, CoL.refl _⟩, ⟨_, rfl, rfl, rfl, by rw [PureR.ren]; exact CoLL.refl _⟩, trivial⟩ rfl (by simp)) ?_
      refine qakq (wk_frz [2] fun i o hi ho => ?_) ?_
      ·have : i = 2 := by simpa using hi
       subst this
       cases ho
       exact (pureR_O _ _ _).2 trivial
      simp -implicitDefEqProofs [SSt.frz, frzS, frzH, frz, frz1, frz0, gets, geth]
      exact qadb (id := 0) (id2 := 1) (ds := [.int .i64 M3.op, nums .u8 M3.out]) (fs := [.int .i64 0, .int .i64 0]) hm (by decide) (by decide) (by decide) (by decide) rfl (qab9 _ _) rfl rfl rfl rfl (by rw [hP]; exact qadc) (by rw [hP]; exact qaca) (by rw [hP]; exact qadd) (by rw [hP]; exact qacb) rfl rfl (CoL.refl _) (CoL.refl _) rfl (fun _ => rfl) (fun _ => rfl)
     ·rw [if_neg o16] at c9
      have b16 : (op == 16) = false := by simpa using o16
      have wn : IntKind.i64.wrap ((n : Int) + 1) = (n : Int) + 1 := qady (by omega) (by omega)
      have hlt := hend o16
      cases ov
      ·rw [if_neg (by decide)] at c9
       have wa : IntKind.i64.wrap ((at_ : Int) + 1) = (at_ : Int) + 1 := qady (by omega) (by omega)
       replace c9 := Lib.hid c9
       replace st := Lib.hid st
       clear hend hT hB
       repeat' (first | (with_reducible first | refine zA ?_ | refine qaad ?_) | ((with_reducible refine qaac ?_); (try rw [hP]); simp -implicitDefEqProofs [icv, pcv, hxx, List.getElem?_eq_getElem c1, b17, b16, wn, wa, *]) | ((with_reducible refine qaai ?_); (try simp -implicitDefEqProofs [icv, pcv, hxx, List.getElem?_eq_getElem c1, b17, b16, wn, wa, *])) | ((with_reducible refine qaab rfl (fun h => ?_) (fun h => ?_)) <;> have h' := h <;> (try simp at h') <;> (try subst h')) | (refine qadk (kl _ (by simp)) ⟨rfl, rfl, rfl, rfl, trivial⟩ ⟨rfl, rfl, rfl, rfl, trivial⟩ ?_; simp -implicitDefEqProofs [icv, pcv, hxx, List.getElem?_eq_getElem c1, b17, b16, wn, wa, *]) | fail)
       refine qadm hJ (at_ + 1, n + 1, M3) (qabw [(3, 19)] hm ⟨Co.refl _, Co.refl _, Co.refl _, Co.refl _, qadi (by simp only; omega), qadi (by simp only; omega), trivial⟩ ⟨⟨_, rfl, rfl, ?_⟩, ⟨_, rfl, rfl, rfl, ?_⟩, ⟨_, rfl, rfl, rfl, ?_⟩, ⟨_, rfl, rfl, rfl, ?_⟩, ⟨_, rfl, rfl, CoL.refl _⟩, ⟨_, rfl, rfl, CoL.refl _⟩, ⟨_, rfl, rfl, CoL.refl _⟩, trivial⟩ rfl (by simp)) ⟨by simp only; omega, by simp only; omega, by simp only; omega, st.out.ok, st.out.pos, st.out.sl, by have := st.out.out; simp only; omega, g, by simp only; omega, c9.out⟩ (by simp only; omega)
       ·unfold vcl vtl
        rw [qaeu _ _ _ _ _ _ _ _ _ _ rfl rfl]; exact CoL.refl _
       ·rw [PureR.ren]; exact CoLL.refl _
       ·rw [PureR.ren]; exact CoLL.refl _
       ·rw [PureR.ren]; exact CoLL.refl _
      ·rw [if_pos rfl] at c9
       have h6 := x3 (hT rfl)
       obtain ⟨T, rfl⟩ : ∃ T : Nat, tt = T := ⟨tt.toNat, by omega⟩
       rw [Int.toNat_natCast] at c9
       have wt : IntKind.i64.wrap ((at_ : Int) + T) = (at_ : Int) + T := qady (by omega) (by omega)
       have wa : IntKind.i64.wrap ((at_ : Int) + T + 1) = (at_ : Int) + T + 1 := qady (by omega) (by omega)
       replace c9 := Lib.hid c9
       replace st := Lib.hid st
       clear hend hT hB
       repeat' (first | (with_reducible first | refine zA ?_ | refine qaad ?_) | ((with_reducible refine qaac ?_); (try rw [hP]); simp -implicitDefEqProofs [icv, pcv, hxx, List.getElem?_eq_getElem c1, b17, b16, wn, wt, wa, *]) | ((with_reducible refine qaai ?_); (try simp -implicitDefEqProofs [icv, pcv, hxx, List.getElem?_eq_getElem c1, b17, b16, wn, wt, wa, *])) | ((with_reducible refine qaab rfl (fun h => ?_) (fun h => ?_)) <;> have h' := h <;> (try simp at h') <;> (try subst h')) | (refine qadk (kl _ (by simp)) ⟨rfl, rfl, rfl, rfl, trivial⟩ ⟨rfl, rfl, rfl, rfl, trivial⟩ ?_; simp -implicitDefEqProofs [icv, pcv, hxx, List.getElem?_eq_getElem c1, b17, b16, wn, wt, wa, *]) | fail)
       refine qadm hJ (at_ + T + 1, n + 1, M3) (qabw [(3, 19)] hm ⟨Co.refl _, Co.refl _, Co.refl _, Co.refl _, qadi (by simp only; omega), qadi (by simp only; omega), trivial⟩ ⟨⟨_, rfl, rfl, ?_⟩, ⟨_, rfl, rfl, rfl, ?_⟩, ⟨_, rfl, rfl, rfl, ?_⟩, ⟨_, rfl, rfl, rfl, ?_⟩, ⟨_, rfl, rfl, CoL.refl _⟩, ⟨_, rfl, rfl, CoL.refl _⟩, ⟨_, rfl, rfl, CoL.refl _⟩, trivial⟩ rfl (by simp)) ⟨by simp only; omega, by simp only; omega, by simp only; omega, st.out.ok, st.out.pos, st.out.sl, by have := st.out.out; simp only; omega, g, by simp only; omega, c9.out⟩ (by simp only; omega)
       ·unfold vcl vtl
        rw [qaeu _ _ _ _ _ _ _ _ _ _ rfl rfl]; exact CoL.refl _
       ·rw [PureR.ren]; exact CoLL.refl _
       ·rw [PureR.ren]; exact CoLL.refl _
       ·rw [PureR.ren]; exact CoLL.refl _
end Go.Proofs.Ytefkifebgeagiaa
