/-
  Texts joined: XStoE XPfxN XDoesA XDoesB XDoesC XStoG XDoesD XDoesE XStoK XStoO XStoH XStoI XStoP XStoL XStoQ XStoU XStoR XLongD XStoJ XStoS. No condition.
-/
import Derived.WalkSpells
import Derived.RegionTactic
import Derived.BigRegion
import Derived.Deep.RegionLaw
import Derived.Test.YtalejfkholifpaaGreatProg
import Derived.KernelRfl
import Derived.Test.YtalejfkholifpaaGreatStoreDoesK8
set_option linter.all false
namespace Go.Proofs.YtalejfkholifpaaGreat
open Go.RowKit
section
attribute [local simp] qaa6 qaa5 qaak qaas qaal qaar qaa3 qaa4 qaae qabh SOp.run SX.ev putd puts argS upds SOp.touch SSt.keep SSt.skip gets geth puth delh idOf SV.cells? setL qac5 qac6 sbin eq0 eq1 eqL qac2 qaby qab0 qaa2 qaa1 qaac qaa7 qabi qaaj qaad FrzOk qaav qaan qaat qaau qaaf qaam qaa8 qaao qaah qaaw qaag frzS frzH frz frz1 frz0 SlotsM ObjsM ObjM rn ren ren1 ren0 qabk qabw qabz qabj qaa9 qabx qab1 CoL qaax qabr dels adds idsH qabc
section
def actn (a : ActD) : List SV := [nums .i64 a.w, .nilsl]
instance : PureF actn := ⟨fun _ _ => rfl, fun _ => rfl, fun _ => qab4 _ rfl⟩
attribute [local simp] qaaa nums actc actn
def bare (a : ActD) : ActD := ⟨a.w, []⟩
def qae7 (t : TabD) (ws : List Int) : Fin_ := if t.kind = 1 then .ex ws.length t.cap (List.replicate (newN t.cap) none) else if t.kind = 2 then .px (el ws 0) t.cap 0 noE else .te ws.length t.cap []
def qajv (t : TabD) (ws : List Int) (acts : List ActD) : StoD := ⟨qae7 t ws, t, ws, acts.map bare, t.def_, t.args⟩
theorem tabF0 {t : TabD} {ws : List Int} {acts : List ActD} (h : qadf t ws acts = 0) : (t.kind = 1 ∨ t.kind = 2 ∨ t.kind = 3) ∧ 1 ≤ ws.length ∧ ws.length ≤ 3 ∧ (t.kind = 2 → ws.length = 1) ∧ 0 ≤ t.cap ∧ t.cap ≤ 16 ∧ (∀ k ∈ ws, 1 ≤ k ∧ k ≤ 48) ∧ (∀ a ∈ t.acts, 0 ≤ a ∧ a < acts.length) ∧ qaec t.acts acts t.def_ t.args = 0 ∧ t.acts.length ≤ 4 := by
 unfold qadf at h;by_cases g1 : t.kind < 1 ∨ 3 < t.kind
 ·rw [if_pos g1] at h; exact absurd h (by decide)
 rw [if_neg g1] at h;by_cases g2 : ws.length < 1 ∨ 3 < ws.length ∨ (t.kind = 2 ∧ 1 < ws.length) ∨ t.acts.length < 1 ∨ 4 < t.acts.length
 ·rw [if_pos g2] at h; exact absurd h (by decide)
 rw [if_neg g2] at h;by_cases g3 : t.cap < 0 ∨ 16 < t.cap
 ·rw [if_pos g3] at h; exact absurd h (by decide)
 rw [if_neg g3] at h;cases g4 : ws.any wOut
 ·rw [g4, if_neg (by simp)] at h;cases g5 : t.acts.any (aOut acts.length)
  ·rw [g5, if_neg (by simp)] at h;refine ⟨by omega, by omega, by omega, by omega, by omega, by omega, fun k hk => ?_, fun a ha => ?_, h, by omega⟩
   ·have := List.any_eq_false.1 g4 k hk; simp [wOut] at this; omega
   ·have := List.any_eq_false.1 g5 a ha; simp [aOut] at this; omega
  ·rw [g5, if_pos rfl] at h; exact absurd h (by decide)
 ·rw [g4, if_pos rfl] at h; exact absurd h (by decide)
theorem inums (xs : List Int) (h : xs.length ≤ 1000000) (q : Nat) : SCalls Tryz.prog 31 [nums .i64 xs] [] q (nums .i64 xs) [] := by
 unfold nums;exact cl1_s (xs.map fun x => [.int .i64 x]) (by simpa using h) (by intro e he; obtain ⟨x, -, rfl⟩ := List.mem_map.1 he; rfl) q
theorem snew_no (t : TabD) (ws : List Int) (acts : List ActD) (ha : AW acts) (h1 : t.acts.length ≤ 1000000) (h2 : t.args.length ≤ 1000000) (h3 : ws.length ≤ 1000000) (h4 : acts.length ≤ 1000000) (he : qadf t ws acts ≠ 0) (q : Nat) : SCalls Tryz.prog 9 [.agg (tabc t), nums .i64 ws, .view 2 (acts.map actc)] [] q (.tup [.nil, .agg [.int .i64 (qadf t ws acts), .int .i64 (-1)]]) [] := by
 refine qabt ?_ (fun _ => rfl) (fun _ => rfl) rfl q;have kc := fun q => qaqf t ws acts ha h1 h2 h3 h4 q
 generalize qadf t ws acts = K at kc he;have b1 : (K != 0) = true := by simp [he]
 replace he := Lib.hid he;unfold tabc nums at kc;refine yF (N := 100) Tryz.func9 qbdz ?_;rintro X hP hN hm;unfold qbdz tabc;repeat' (first | (with_reducible refine zA ?_) | ((with_reducible refine qaab ?_); (try rw [hP]); simp -implicitDefEqProofs [*]) | ((with_reducible refine qaba ?_); (try simp only [qaa2, qaac, qaaj])) | ((with_reducible refine qaap rfl (fun h => ?_) (fun h => ?_)) <;> have h' := h <;> (try simp at h') <;> (try subst h')) | (refine qabe (kc _) ?_; simp -implicitDefEqProofs [*]) | ((refine fin_tc hm (by decide) rfl rfl (fun _ => rfl) rfl rfl (by rw [hP]; exact qaue) (by rw [hP]; exact qam8) rfl (CoL.refl _) rfl (fun _ => rfl))) | fail)
theorem qbjx : ∀ l : List ActD, CoLL (l.map actn) ((l.map bare).map actc)
 | [] => trivial
 | a :: l => ⟨⟨Co.refl _, Co.nilsl 5, trivial⟩, qbjx l⟩
theorem qaeq (s : StoD) {σ : Nat → Nat} {j : Nat} (h : σ 1 = j) : (scs s 1).map (Go.Proofs.YtalejfkholifpaaGreat.ren σ) = scs s j := by simp [scs, tabc, Go.Proofs.YtalejfkholifpaaGreat.ren, ren1, ren0, renA, renB, h]
theorem qa1c {X : Cx} {sl : Sl} {hp : Hp} {nx i j k : Nat} {cs : List SV} {s : StoD} (hP : X.P = Tryz.prog) (hm : X.m = 0) (h6 : gets sl 6 = .ptr i 0) (h7 : gets sl 7 = .ptr k 0) (hi : geth hp i = some (.cells 76 cs)) (hcs : CoL cs (scs s j)) (hj : geth hp j = some (.abs s.F.I)) (hk : geth hp k = some (.cells 34 [.int .i64 0, .int .i64 0]))
  (hok : qabc 0 3 ([(0, i), (1, j), (2, k)] ++ diag 0 [(0, i), (1, j), (2, k)] [(0, .cells 0 []), (1, .cells 0 []), (2, .cells 0 [])]) [(0, .cells 0 []), (1, .cells 0 []), (2, .cells 0 [])] = true) : QFun X [.tmp 6, .cell 7 34] 0 (.tup [.ptr 0 0, .agg [.int .i64 0, .int .i64 0]]) (qacm s 0 1) .ret ⟨sl, hp, nx⟩ := by
 have hw : Wk X ⟨sl, hp, nx⟩ ⟨[(6, .ptr 0 0), (7, .ptr 2 0)], qacm s 0 1 ++ [(2, .cells 34 [.int .i64 0, .int .i64 0])], 3⟩ := by
  refine qabd [(0, i), (1, j), (2, k)] hm ⟨?_, ?_, trivial⟩ ⟨⟨_, hi, rfl, ?_⟩, ⟨_, hj, rfl⟩, ⟨_, hk, rfl, CoL.refl _⟩, trivial⟩ hok (by simp)
  ·rw [h6]; exact Co.refl _
  ·rw [h7]; exact Co.refl _
  ·rw [qaeq s (j := j) rfl]; exact hcs
 refine ⟨_, hw, ?_, ⟨rfl, rfl, trivial⟩, by simp⟩;have e1 := qaue;have e2 := qam8;rw [← hP] at e1 e2;simp [qafc, resL, resV, one_, gets, e1, e2, SOp.run, SX.ev, geth, qacm]
theorem snew_s (t : TabD) (ws : List Int) (acts : List ActD) (ha : AW acts) (h1 : t.acts.length ≤ 1000000) (h2 : t.args.length ≤ 1000000) (h3 : ws.length ≤ 1000000) (h4 : acts.length ≤ 1000000) (h5 : ∀ a ∈ acts, a.w.length ≤ 1000000) (he : qadf t ws acts = 0) : SCalls Tryz.prog 9 [.agg (tabc t), nums .i64 ws, .view 2 (acts.map actc)] [] 0 (.tup [.ptr 0 0, .agg [.int .i64 0, .int .i64 0]]) (qacm (qajv t ws acts) 0 1) := by
 have kc := fun q => qaqf t ws acts ha h1 h2 h3 h4 q
 rw [he] at kc;have k1 := fun q => inums ws h3 q
 have k2 := fun q => qbiv t.args h2 q
 have k3 := fun q => inums t.acts h1 q
 unfold tabc nums at kc;unfold nums at k1 k2 k3;refine yF (N := 100) Tryz.func9 qbdz ?_;rintro X hP hN hm;unfold qbdz tabc;repeat' (first | (with_reducible first | refine zA ?_ | refine zK ?_) | ((with_reducible first | refine qaab ?_ | refine qaaz (by rw [hP]; exact mixed) ?_); (try rw [hP]); simp -implicitDefEqProofs [*]) | ((with_reducible refine qaai ?_); (try simp -implicitDefEqProofs [*])) | ((with_reducible refine qaap rfl (fun h => ?_) (fun h => ?_)) <;> have h' := h <;> (try simp at h') <;> (try subst h')) | ((first | refine qabe (kc _) ?_ | refine qabe (k1 _) ?_ | refine qabe (k2 _) ?_ | refine qabe (k3 _) ?_); simp -implicitDefEqProofs [*]) | fail)
 refine qad8 (qalx (t := 76) (cs := [.niliface, .int .i64 t.kind, .view 2 (t.keys.map refc), nums .i64 t.acts, .int .i64 t.cap, .int .i64 t.def_, nums .u64 t.args, nums .i64 ws, .nilsl, .int .i64 t.def_, nums .u64 t.args]) 40 8 69 2 rfl rfl) ?_;simp only [zT, puth, Nat.reduceEqDiff, reduceIte, Nat.reduceAdd, List.set];refine qabf (qaco (fun s (i : Nat) => s.turn [(43, .int .i64 i)] [(40, .cells 76 [.niliface, .int .i64 t.kind, .view 2 (t.keys.map refc), nums .i64 t.acts, .int .i64 t.cap, .int .i64 t.def_, nums .u64 t.args, nums .i64 ws, .own 65 i, .int .i64 t.def_, nums .u64 t.args]), (65, .row 69 2 ((acts.take i).map actn))]) (fun i => i ≤ acts.length) (fun i => acts.length - i) 0 ?_ (by simp) ?_)
 ·repeat' (first | ((with_reducible refine qabd [] hm ?_ ?_ ?_ ?_) <;> (try simp only [zT, puth, Nat.reduceEqDiff, reduceIte, Nat.reduceAdd])) | (with_reducible first | refine za ?_ ?_ | refine zb ?_ ?_ ?_ ?_ | refine zc ?_ ?_ ?_ ?_) | (with_reducible first | exact qaep | exact qafr) | ((with_reducible first | refine zga ?_ | refine zgb ?_); rfl) | ((with_reducible refine zgc ?_); (first | (with_reducible rfl) | rfl | (simp; done))) | ((with_reducible refine zgd ?_); (first | omega | (simp; done))) | (exact Co.refl _) | (exact CoL.refl _) | fail)
 rintro J hJ i hi;unfold qatk;simp only [zT, puth, Nat.reduceEqDiff, reduceIte, Nat.reduceAdd];have hlen := qbk5 actn hi;have hb1 : i + 1 ≤ maxLen := by unfold maxLen; omega
 rcases Nat.lt_or_ge i acts.length with h | h
 ·have wi : IntKind.i64.wrap ((i : Int) + 1) = (i : Int) + 1 := qabo (by omega) (by omega);have hrow := qa93 actn h;have hc := fun q => inums acts[i].w (h5 _ (List.getElem_mem h)) q
  generalize hr : acts[i] = r at hrow hc;unfold nums at hc;replace hc := Lib.hid hc;repeat' (first | (with_reducible first | refine zA ?_ | refine qabg ?_ | refine zK ?_) | ((with_reducible first | refine qaab ?_ | refine qaaz (by rw [hP]; exact mixed) ?_); (try rw [hP]); simp -implicitDefEqProofs [*]) | ((with_reducible refine qaai ?_); (try simp -implicitDefEqProofs [*])) | ((with_reducible refine qaap rfl (fun h => ?_) (fun h => ?_)) <;> have h' := h <;> (try simp at h') <;> (try subst h')) | ((with_reducible refine qafm ?_ ?_); (first | omega | (unfold maxLen; omega)); simp -implicitDefEqProofs [*]) | (refine qabe (hc.out _) ?_; simp -implicitDefEqProofs [*]) | (with_reducible first | refine za ?_ ?_ | refine zb ?_ ?_ ?_ ?_ | refine zc ?_ ?_ ?_ ?_) | (with_reducible first | exact qaep | exact qafr) | ((with_reducible first | refine zga ?_ | refine zgb ?_); rfl) | ((with_reducible first | refine zgd ?_ | refine zge ?_); (first | omega | (simp; done))) | (exact Co.refl _) | (exact CoL.refl _) | ((refine qabs hJ (i + 1) ?_ ?_ ?_; (with_reducible refine qabd [(40, ?_), (65, ?_)] hm ?_ ?_ ?_ ?_) <;> (try simp only [zT, puth, Nat.reduceEqDiff, reduceIte, Nat.reduceAdd]))) | fail)
  all_goals (first | exact hrow | (rw [← List.map_take]; exact hrow) | omega | trace_state)
 ·obtain rfl : i = acts.length := by omega
  repeat' (first | ((with_reducible refine qadg (c := (.seq (.seq (.reg false qaox [1, 3, 7, 9, 62]) _) _)) ?_)) | (with_reducible refine zA ?_) | ((with_reducible refine qaab ?_); (try rw [hP]); simp -implicitDefEqProofs [*]) | ((with_reducible refine qabv ?_); (try simp -implicitDefEqProofs [*])) | ((with_reducible refine qaap rfl (fun h => ?_) (fun h => ?_)) <;> have h' := h <;> (try simp at h') <;> (try subst h')) | fail)
  constructor;clear hJ hi h;refine qakm [65] ?_ ?_
  ·simp only [FrzOk, geth, Nat.reduceEqDiff, reduceIte, qasr, and_true]
  have htk : ((acts.take acts.length).map actn).take acts.length = acts.map actn := by rw [List.take_length]; exact List.take_of_length_le (by simp)
  simp -implicitDefEqProofs [htk, hlen, Nat.le_refl];clear hlen htk hb1;obtain ⟨hkd, hw1, hw3, hw2, -⟩ := tabF0 he;have nil_co : ∀ j, CoL [.ifc (qae7 t ws).ty (.agg [.ptr j 0]), .int .i64 t.kind, .view 2 (t.keys.map refc), nums .i64 t.acts, .int .i64 t.cap, .int .i64 t.def_, nums .u64 t.args, nums .i64 ws, .view 2 (acts.map actn), .int .i64 t.def_, nums .u64 t.args] (scs (qajv t ws acts) j) := fun j => by
   refine ⟨Co.refl _, Co.refl _, Co.refl _, Co.refl _, Co.refl _, Co.refl _, Co.refl _, Co.refl _, ?_, Co.refl _, Co.refl _, trivial⟩;exact qarj (qbjx acts)
  have nf : (qajv t ws acts).F = qae7 t ws := rfl;clear kc k1 k2 k3;rcases hkd with hk | hk | hk
  ·have b1 : (t.kind == 1) = true := by simp [hk]
   have hF : qae7 t ws = .ex ws.length t.cap (List.replicate (newN t.cap) none) := by unfold qae7; rw [if_pos hk]
   rw [hF] at nil_co nf;replace nil_co := Lib.hid nil_co;replace hk := Lib.hid hk;repeat' (first | (with_reducible first | refine zA ?_ | refine qabg ?_) | ((with_reducible refine qaab ?_); (try rw [hP]); simp -implicitDefEqProofs [*]) | ((with_reducible refine qaba ?_); (try simp only [qaa2, qaac, qaaj])) | ((with_reducible refine qaap rfl (fun h => ?_) (fun h => ?_)) <;> have h' := h <;> (try simp at h') <;> (try subst h')) | (refine yH (xnew_a ws.length t.cap _) ?_; simp -implicitDefEqProofs [*]) | ((refine qa1c hP hm rfl rfl rfl (nil_co.out _) (by rw [nf]; rfl) rfl rfl)) | fail)
  ·have b1 : (t.kind == 1) = false := by simp [hk]
   have b2 : (t.kind == 2) = true := by simp [hk]
   have hF : qae7 t ws = .px (el ws 0) t.cap 0 noE := by unfold qae7; rw [if_neg (by omega), if_pos hk]
   rw [hF] at nil_co nf;have hx0 : ws[0]? = some (el ws 0) := by cases ws with | nil => simp at hw1 | cons x l => rfl
   obtain ⟨hx2, hx1⟩ := List.getElem?_eq_some_iff.1 hx0;clear hx0;replace nil_co := Lib.hid nil_co;replace hk := Lib.hid hk;repeat' (first | (with_reducible first | refine zA ?_ | refine qabg ?_ | refine zK ?_) | ((with_reducible first | refine qaab ?_ | refine qaaz (by rw [hP]; exact mixed) ?_); (try rw [hP]); simp -implicitDefEqProofs [*]) | ((with_reducible refine qaba ?_); (try simp only [qaa2, qaac, qaaj])) | ((with_reducible refine qaap rfl (fun h => ?_) (fun h => ?_)) <;> have h' := h <;> (try simp at h') <;> (try subst h')) | (refine yH (newT_s (el ws 0) t.cap _) ?_; simp -implicitDefEqProofs [*]) | ((refine qa1c hP hm rfl rfl rfl (nil_co.out _) (by rw [nf]; rfl) rfl rfl)) | fail)
  ·have b1 : (t.kind == 1) = false := by simp [hk]
   have b2 : (t.kind == 2) = false := by simp [hk]
   have hF : qae7 t ws = .te ws.length t.cap [] := by unfold qae7; rw [if_neg (by omega), if_neg (by omega)]
   rw [hF] at nil_co nf;replace nil_co := Lib.hid nil_co;replace hk := Lib.hid hk;repeat' (first | (with_reducible first | refine zA ?_ | refine qabg ?_) | ((with_reducible refine qaab ?_); (try rw [hP]); simp -implicitDefEqProofs [*]) | ((with_reducible refine qaba ?_); (try simp only [qaa2, qaac, qaaj])) | ((with_reducible refine qaap rfl (fun h => ?_) (fun h => ?_)) <;> have h' := h <;> (try simp at h') <;> (try subst h')) | (refine yH (tnew_a ws.length t.cap _) ?_; simp -implicitDefEqProofs [*]) | ((refine qa1c hP hm rfl rfl rfl (nil_co.out _) (by rw [nf]; rfl) rfl rfl)) | fail)
end
end
theorem and_low {v : Int} (h0 : 0 ≤ v) (h1 : v ≤ 18446744073709551615) {m : Nat} (hm : m ≤ 64) : bits .and .u64 v (2 ^ m - 1) = v % 2 ^ m := by
 rcases Nat.eq_zero_or_pos m with rfl | hp
 ·obtain ⟨a, rfl⟩ := Int.eq_ofNat_of_zero_le h0;have := u64_and_nat a 0 (by omega) (by omega);simp at this ⊢; exact this
 ·have := qa9h v m h0 h1 (by omega) (by omega);rw [show ones m = 2 ^ m - 1 by unfold ones qa9u; rw [if_pos (by omega)]; simp] at this;simpa using this
def qait (W : Nat) (key : Int) (e : Entry) : Prop := el e.keys 0 = pre W key e.len.toNat * 2 ^ (W - e.len.toNat)
theorem qaiz {W j : Nat} {key u : Int} {x : Int × List Int} : qait W key (ce W j u x) ↔ u = pre W key j := by
 have e1 : el (ce W j u x).keys 0 = u * 2 ^ (W - j) := by simp [ce, el]
 have e2 : (ce W j u x).len.toNat = j := by simp [ce]
 unfold qait;rw [e1, e2];exact ⟨fun h => Int.eq_of_mul_eq_mul_right (Int.ne_of_gt (qae6 _)) h, fun h => by rw [h]⟩
theorem qa0k {W : Nat} {E : PE} {n : Int} (h : PInv W n E) {e : Entry} : e ∈ allF E W W 0 0 ↔ ∃ (j : Nat) (u : Int) (x : Int × List Int), j ≤ W ∧ E j u = some x ∧ e = ce W j u x := by
 rw [qah5];constructor
 ·rintro ⟨j, u, x, h1, h2, h3, h4, h5⟩;exact ⟨j, u, x, by omega, h4, h5⟩
 ·rintro ⟨j, u, x, h1, h2, h3⟩;obtain ⟨k1, k2, k3, _⟩ := h.ok j u x h2;exact ⟨j, u, x, by omega, by omega, Int.ediv_eq_zero_of_lt k2 (by simpa using k3), h2, h3⟩
theorem qbpy {x W m : Nat} (hx : x < 2 ^ W) (hm : m ≤ W) : x &&& (2 ^ W - 2 ^ m) = x / 2 ^ m * 2 ^ m := by
 have e : 2 ^ W - 2 ^ m = 2 ^ m * (2 ^ (W - m) - 1) := by
  rw [Nat.mul_sub_one, ← Nat.pow_add, show m + (W - m) = W by omega]
 apply Nat.eq_of_testBit_eq;intro j;rw [Nat.testBit_and, e, Nat.mul_comm (x / 2 ^ m), Nat.testBit_two_pow_mul, Nat.testBit_two_pow_mul, Nat.testBit_two_pow_sub_one, Nat.testBit_div_two_pow];by_cases h1 : j ≥ m
 ·rw [show j - m + m = j by omega, decide_eq_true h1];by_cases h2 : j - m < W - m
  ·rw [decide_eq_true h2]; simp
  ·have h3 : x.testBit j = false := Nat.testBit_lt_two_pow (Nat.lt_of_lt_of_le hx (Nat.pow_le_pow_right (by omega) (by omega)));rw [h3]; simp
 ·rw [decide_eq_false h1]; simp
theorem qbio {W i : Nat} {key : Int} (h0 : 0 ≤ key) (h1 : key < 2 ^ W) (hW : W ≤ 64) (hi : i ≤ W) : bits .and .u64 key (IntKind.u64.wrap (qau2 (W : Int) - qau2 (IntKind.i64.wrap ((W : Int) - (i : Int))))) = pre W key i * 2 ^ (W - i) := by
 have e1 : IntKind.i64.wrap ((W : Int) - (i : Int)) = ((W - i : Nat) : Int) := by rw [IntWalk.i64_in _ ⟨by omega, by omega⟩]; omega
 have e2 : qau2 (W : Int) = ((2 ^ W - 1 : Nat) : Int) := by
  unfold qau2; rw [if_pos (by omega), Int.toNat_natCast]
  have : 0 < 2 ^ W := Nat.two_pow_pos _;have e : ((2 : Int) ^ W) = ((2 ^ W : Nat) : Int) := by simp
  omega
 have e3 : qau2 ((W - i : Nat) : Int) = ((2 ^ (W - i) - 1 : Nat) : Int) := by
  unfold qau2; rw [if_pos (by omega), Int.toNat_natCast]
  have : 0 < 2 ^ (W - i) := Nat.two_pow_pos _;have e : ((2 : Int) ^ (W - i)) = ((2 ^ (W - i) : Nat) : Int) := by simp
  omega
 obtain ⟨a, rfl⟩ := Int.eq_ofNat_of_zero_le h0;have ha : a < 2 ^ W := by
  have e : ((2 : Int) ^ W) = ((2 ^ W : Nat) : Int) := by simp
  omega
 have p1 : 0 < 2 ^ (W - i) := Nat.two_pow_pos _;have p2 : 2 ^ (W - i) ≤ 2 ^ W := Nat.pow_le_pow_right (by omega) (by omega);have p3 : 2 ^ W ≤ 2 ^ 64 := Nat.pow_le_pow_right (by omega) hW;have p4 : (2 ^ 64 : Nat) = 18446744073709551616 := by decide
 rw [e1, e2, e3, show ((2 ^ W - 1 : Nat) : Int) - ((2 ^ (W - i) - 1 : Nat) : Int) = ((2 ^ W - 2 ^ (W - i) : Nat) : Int) by omega, qasd (by omega) (by omega), u64_and_nat a _ (by omega) (by omega), qbpy ha (by omega)];unfold pre;simp
theorem qayr {W : Nat} {key : Int} (hW : W ≤ 64) : qaja key (W : Int) = !decide (key < 2 ^ W) := by
 unfold qaja;rw [if_pos (by omega), Int.toNat_natCast];by_cases h : key < 2 ^ W
 ·rw [decide_eq_true h, decide_eq_false (by omega)]; rfl
 ·rw [decide_eq_false h, decide_eq_true (by omega)]; rfl
theorem qamf {width key : Int} {e : Entry} (hk : e.keys = [key]) (h0 : 0 ≤ key) (h1 : key ≤ 18446744073709551615) : mayC 2 1 width e = if qafj width key e.len = true then 0 else 6 := by
 have hel : el e.keys 0 = key := by rw [hk]; rfl
 unfold mayC;rw [if_neg (by decide), if_pos rfl, hel];by_cases hw : okWd width
 ·obtain ⟨W, rfl⟩ : ∃ W : Nat, width = W := ⟨width.toNat, by have := hw.1; omega⟩
  obtain ⟨w1, w2⟩ := hw;rw [qayr (by omega)];unfold qafj;by_cases hl : 0 ≤ e.len ∧ e.len ≤ W ∧ key < 2 ^ W
  ·obtain ⟨l1, l2, l3⟩ := hl;obtain ⟨i, hi⟩ : ∃ i : Nat, e.len = i := ⟨e.len.toNat, by omega⟩
   rw [hi] at l1 l2 ⊢;have e1 : (W : Int) - (i : Int) = ((W - i : Nat) : Int) := by omega
   have e2 : qau2 ((W : Int) - (i : Int)) = 2 ^ (W - i) - 1 := by unfold qau2; rw [e1, if_pos (by omega), Int.toNat_natCast]
   rw [if_pos ⟨by rw [hk]; rfl, w1, w2, by omega, by omega, by simp [l3]⟩, e2, and_low h0 h1 (by omega), e1];simp only [Int.toNat_natCast];by_cases hz : key % 2 ^ (W - i) = 0
   ·rw [if_pos hz, if_pos (decide_eq_true ⟨w1, w2, by omega, by omega, l3, hz⟩)]
   ·rw [if_neg hz, if_neg (by simp; intros; exact hz)]
  ·have : ¬ (1 ≤ (W : Int) ∧ (W : Int) ≤ 64 ∧ 0 ≤ e.len ∧ e.len ≤ (W : Int) ∧ key < 2 ^ (W : Int).toNat ∧ key % 2 ^ ((W : Int) - e.len).toNat = 0) := by
    rintro ⟨_, _, q1, q2, q3, _⟩;exact hl ⟨q1, q2, by simpa using q3⟩
   rw [decide_eq_false this, if_neg (by rintro ⟨_, _, _, q1, q2, q3⟩; exact hl ⟨q1, q2, by simpa using q3⟩), if_neg (by decide)]
 ·rw [qa92 hw, if_neg (by rintro ⟨_, q1, q2, _⟩; exact hw ⟨q1, q2⟩), if_neg (by decide)]
theorem qbjo {W K : Nat} {key : Int} {e : Entry} (hk : e.keys = [key]) (hl : e.len = K) (hz : key % 2 ^ (W - K) = 0) : qais 2 e = ce W K (pre W key K) (e.act, e.args) := by
 unfold qais ce;rw [if_neg (by decide), if_pos rfl, if_neg (by decide), hk, hl];congr 1
 rw [← qany hz]
theorem qbbu {W i j : Nat} {v u : Int} {x y : Int × List Int} (h : ce W i v x = ce W j u y) : i = j ∧ v = u ∧ x = y := by
 unfold ce at h;injection h with h1 h2 h3 h4 h5 h6
 obtain rfl : i = j := by omega
 injection h1 with h1
 have := Int.eq_of_mul_eq_mul_right (Int.ne_of_gt (qae6 (W - i))) h1;exact ⟨rfl, this, Prod.ext h5 h6⟩
structure RelM (W : Nat) (E : PE) (L : List Entry) : Prop where
 mem : ∀ e, e ∈ L ↔ ∃ (i : Nat) (v : Int) (x : Int × List Int), E i v = some x ∧ e = ce W i v x
 nd : L.Nodup
theorem qbl1 (W : Nat) : RelM W noE [] := ⟨fun e => by simp [noE], List.nodup_nil⟩
theorem RelM.at_ {W K : Nat} {E : PE} {L : List Entry} (h : RelM W E L) {key : Int} {e : Entry} (hk : e.keys = [key]) (hl : e.len = K) (hz : key % 2 ^ (W - K) = 0) :
  (E K (pre W key K) = none ∧ atI 2 L e = -1) ∨ ∃ x, E K (pre W key K) = some x ∧ atI 2 L e = atN 2 L e ∧ ∃ hi : atN 2 L e < L.length, L[atN 2 L e] = ce W K (pre W key K) x := by
 have hkey := qany hz;have hone : ∀ i v x, oneB 2 (ce W i v x) e = true ↔ i = K ∧ v = pre W key K := by
  intro i v x;unfold oneB ce;rw [hk, hl];simp;constructor
  ·rintro ⟨h1, h2⟩;obtain rfl : i = K := by omega
   refine ⟨rfl, ?_⟩;rw [hkey] at h2;exact Int.eq_of_mul_eq_mul_right (Int.ne_of_gt (qae6 (W - i))) h2
  ·rintro ⟨rfl, rfl⟩;exact ⟨rfl, hkey.symm⟩
 rcases qah0 2 L e with ⟨h1, h2⟩ | h1
 ·right
  have hb := qafs (fun i => match L[i]? with | some a => oneB 2 a e | none => false) L.length h2;change (match L[atN 2 L e]? with | some a => oneB 2 a e | none => false) = true at hb
  rw [List.getElem?_eq_getElem h2] at hb;obtain ⟨i, v, x, hE, hce⟩ := (h.mem _).1 (List.getElem_mem h2);simp only [hce] at hb;obtain ⟨rfl, rfl⟩ := (hone i v x).1 hb;exact ⟨x, hE, h1, h2, hce⟩
 ·left
  refine ⟨?_, h1⟩;cases hE : E K (pre W key K) with
  | none => rfl
  | some x =>
   obtain ⟨j, hj⟩ := List.getElem?_of_mem ((h.mem (ce W K (pre W key K) x)).2 ⟨K, _, x, hE, rfl⟩);obtain ⟨hjL, hje⟩ := List.getElem?_eq_some_iff.1 hj;have hlt : atN 2 L e < L.length := by
    refine Nat.lt_of_le_of_ne (qaht _ _) fun heq => ?_
    have := qaf9 (fun i => match L[i]? with | some a => oneB 2 a e | none => false) L.length j (by show j < atN 2 L e; rw [heq]; exact hjL);simp only [hj] at this;rw [(hone _ _ _).2 ⟨rfl, rfl⟩] at this;cases this
   unfold atI at h1;rw [if_pos hlt] at h1;omega
theorem qash {α : Type} {L : List α} {i : Nat} (hi : i < L.length) (a : α) : L = L.take i ++ L[i] :: L.drop (i + 1) ∧ L.set i a = L.take i ++ a :: L.drop (i + 1) := by
 constructor
 ·rw [← List.drop_eq_getElem_cons hi, List.take_append_drop]
 ·rw [List.set_eq_take_append_cons_drop, if_pos hi]
theorem qahv (E : PE) (K : Nat) (P : Int) (y : Option (Int × List Int)) : qaef E K P y K P = y := if_pos ⟨rfl, rfl⟩
theorem qagp (E : PE) {K i : Nat} {P v : Int} (y : Option (Int × List Int)) (h : ¬ (i = K ∧ v = P)) : qaef E K P y i v = E i v := if_neg h
theorem RelM.add {W K : Nat} {E : PE} {L : List Entry} (h : RelM W E L) {P : Int} {x : Int × List Int} (hn : E K P = none) : RelM W (qaef E K P (some x)) (L ++ [ce W K P x]) := by
 constructor
 ·intro e;rw [List.mem_append, h.mem, List.mem_singleton];constructor
  ·rintro (⟨i, v, y, h1, h2⟩ | rfl)
   ·refine ⟨i, v, y, ?_, h2⟩;rw [qagp _ _ fun hh => by rw [hh.1, hh.2, hn] at h1; cases h1]; exact h1
   ·exact ⟨K, P, x, qahv _ _ _ _, rfl⟩
  ·rintro ⟨i, v, y, h1, h2⟩;by_cases hh : i = K ∧ v = P
   ·obtain ⟨rfl, rfl⟩ := hh;rw [qahv] at h1; cases h1
    exact .inr h2
   ·rw [qagp _ _ hh] at h1;exact .inl ⟨i, v, y, h1, h2⟩
 ·rw [List.nodup_append];refine ⟨h.nd, by simp, ?_⟩;intro a ha b hb hab;rw [List.mem_singleton] at hb;subst hb hab;obtain ⟨i, v, y, h1, h2⟩ := (h.mem _).1 ha;obtain ⟨rfl, rfl, rfl⟩ := qbbu h2;rw [hn] at h1; cases h1
theorem RelM.parts {W K : Nat} {E : PE} {A B : List Entry} {P : Int} {x : Int × List Int} (h : RelM W E (A ++ ce W K P x :: B)) : (∀ e, e ∈ A ++ B ↔ ∃ (i : Nat) (v : Int) (y : Int × List Int), E i v = some y ∧ e = ce W i v y ∧ ¬ (i = K ∧ v = P)) ∧ (A ++ B).Nodup ∧ ∀ y, ce W K P y ∉ A ++ B := by
 have hE : E K P = some x := by
  obtain ⟨i, v, y, h1, h2⟩ := (h.mem (ce W K P x)).1 (by simp);obtain ⟨rfl, rfl, rfl⟩ := qbbu h2;exact h1
 have hnd := h.nd;rw [List.nodup_append] at hnd;obtain ⟨n1, n2, n3⟩ := hnd;rw [List.nodup_cons] at n2;have hno : ∀ y, ce W K P y ∉ A ++ B := by
  intro y hy;have : ce W K P y ∈ A ++ ce W K P x :: B := by
   rcases List.mem_append.1 hy with h1 | h1
   ·exact List.mem_append_left _ h1
   ·exact List.mem_append_right _ (List.mem_cons_of_mem _ h1)
  obtain ⟨i, v, z, h1, h2⟩ := (h.mem _).1 this;obtain ⟨rfl, rfl, rfl⟩ := qbbu h2;rw [hE] at h1; cases h1
  rcases List.mem_append.1 hy with h1 | h1
  ·exact n3 _ h1 _ (by simp) rfl
  ·exact n2.1 h1
 refine ⟨fun e => ?_, ?_, hno⟩
 ·constructor
  ·intro he;have : e ∈ A ++ ce W K P x :: B := by
    rcases List.mem_append.1 he with h1 | h1
    ·exact List.mem_append_left _ h1
    ·exact List.mem_append_right _ (List.mem_cons_of_mem _ h1)
   obtain ⟨i, v, z, h1, h2⟩ := (h.mem _).1 this;refine ⟨i, v, z, h1, h2, ?_⟩;rintro ⟨rfl, rfl⟩;exact hno z (h2 ▸ he)
  ·rintro ⟨i, v, y, h1, h2, h3⟩;have := (h.mem e).2 ⟨i, v, y, h1, h2⟩;rcases List.mem_append.1 this with h4 | h4
   ·exact List.mem_append_left _ h4
   ·rcases List.mem_cons.1 h4 with h5 | h5
    ·rw [h5] at h2;obtain ⟨q1, q2, _⟩ := qbbu h2;exact absurd ⟨q1.symm, q2.symm⟩ h3
    ·exact List.mem_append_right _ h5
 ·rw [List.nodup_append];exact ⟨n1, n2.2, fun a ha b hb => n3 a ha b (List.mem_cons_of_mem _ hb)⟩
theorem RelM.set {W K : Nat} {E : PE} {A B : List Entry} {P : Int} {x y : Int × List Int} (h : RelM W E (A ++ ce W K P x :: B)) : RelM W (qaef E K P (some y)) (A ++ ce W K P y :: B) := by
 obtain ⟨h1, h2, h3⟩ := h.parts;have hmem : ∀ e, e ∈ A ++ ce W K P y :: B ↔ e ∈ A ++ B ∨ e = ce W K P y := fun e => by
  simp only [List.mem_append, List.mem_cons];constructor
  ·rintro (h | h | h)
   ·exact .inl (.inl h)
   ·exact .inr h
   ·exact .inl (.inr h)
  ·rintro ((h | h) | h)
   ·exact .inl h
   ·exact .inr (.inr h)
   ·exact .inr (.inl h)
 constructor
 ·intro e;rw [hmem, h1];constructor
  ·rintro (⟨i, v, z, q1, q2, q3⟩ | rfl)
   ·exact ⟨i, v, z, by rw [qagp _ _ q3]; exact q1, q2⟩
   ·exact ⟨K, P, y, qahv _ _ _ _, rfl⟩
  ·rintro ⟨i, v, z, q1, q2⟩;by_cases hh : i = K ∧ v = P
   ·obtain ⟨rfl, rfl⟩ := hh;rw [qahv] at q1; cases q1
    exact .inr q2
   ·rw [qagp _ _ hh] at q1;exact .inl ⟨i, v, z, q1, q2, hh⟩
 ·have h4 := h3 y;rw [List.nodup_append] at h2 ⊢;obtain ⟨n1, n2, n3⟩ := h2;refine ⟨n1, List.nodup_cons.2 ⟨fun hb => h4 (List.mem_append_right _ hb), n2⟩, fun a ha b hb hab => ?_⟩;rcases List.mem_cons.1 hb with hb | hb
  ·subst hab hb; exact h4 (List.mem_append_left _ ha)
  ·exact n3 a ha b hb hab
theorem RelM.drop {W K : Nat} {E : PE} {A B : List Entry} {P : Int} {x : Int × List Int} (h : RelM W E (A ++ ce W K P x :: B)) : RelM W (qaef E K P none) (A ++ B) := by
 obtain ⟨h1, h2, h3⟩ := h.parts;refine ⟨fun e => ?_, h2⟩;rw [h1];constructor
 ·rintro ⟨i, v, z, q1, q2, q3⟩;exact ⟨i, v, z, by rw [qagp _ _ q3]; exact q1, q2⟩
 ·rintro ⟨i, v, z, q1, q2⟩;by_cases hh : i = K ∧ v = P
  ·obtain ⟨rfl, rfl⟩ := hh;rw [qahv] at q1; cases q1
  ·rw [qagp _ _ hh] at q1;exact ⟨i, v, z, q1, q2, hh⟩
section
structure RelT (width n : Int) (E : PE) (L : List Entry) : Prop where
 len : n = L.length
 yes : okWd width → RelM width.toNat E L ∧ PInv width.toNat n E
 no : ¬ okWd width → L = []
theorem qblz (width : Int) : RelT width 0 noE [] := ⟨rfl, fun _ => ⟨qbl1 _, PInv.none _⟩, fun _ => rfl⟩
structure OneE (e : Entry) (key : Int) : Prop where
 keys : e.keys = [key]
 h0 : 0 ≤ key
 h1 : key ≤ 18446744073709551615
 act : Fits .i64 e.act
 args : AllFit .u64 e.args
 few : e.args.length ≤ 1000
variable {width n : Int} {E : PE} {L : List Entry} {e : Entry} {key : Int}
theorem qbp5 (h : RelT width n E L) (he : OneE e key) (most : Int) : addC 2 1 width most L e = qach width most n E key e.len ∧
  RelT width (qafx width most n E key e.len) (qaf6 width most n E key e.len e.act e.args) (if addC 2 1 width most L e = 0 then L ++ [qais 2 e] else L) := by
 have hm := qamf (width := width) he.keys he.h0 he.h1;by_cases hp : qafj width key e.len = true
 ·rw [if_pos hp] at hm;obtain ⟨W, K, rfl, hK, w1, w2, k1, k2, k3⟩ := qadj hp;obtain ⟨hR, hI⟩ := h.yes ⟨by omega, by omega⟩;have e1 : ((W : Int)).toNat = W := Int.toNat_natCast W;rw [e1] at hR hI;have hpa := hI.add (most := most) (key := key) (k := e.len) (act := e.act) (args := e.args) he.h0 he.few he.args he.act;rcases hR.at_ he.keys hK k3 with ⟨a1, a2⟩ | ⟨x, a1, a2, a3, a4⟩
  ·have c1 : addC 2 1 (W : Int) most L e = if most ≤ n then 10 else 0 := by
    unfold addC;rw [if_pos hm, if_neg (by omega), if_neg (by rintro ⟨h, _⟩; omega), h.len]
   have c2 : qach (W : Int) most n E key e.len = if most ≤ n then 10 else 0 := by
    unfold qach;rw [if_neg (by rw [hp]; decide), hK, e1, Int.toNat_natCast, a1, if_neg (by simp)]
   refine ⟨by rw [c1, c2], ?_⟩;by_cases hf : most ≤ n
   ·rw [if_pos hf] at c1 c2;obtain ⟨q1, q2⟩ := qafq (show qach (W : Int) most n E key e.len ≠ 0 by rw [c2]; decide) e.act e.args;rw [if_neg (by rw [c1]; decide), q1, q2];exact h
   ·rw [if_neg hf] at c1 c2;obtain ⟨q1, q2⟩ := qajs c2 e.act e.args;rw [q1, q2] at hpa;rw [if_pos c1, q1, q2, qbjo he.keys hK k3];simp only [hK, e1, Int.toNat_natCast] at hpa ⊢;refine ⟨by rw [h.len]; simp, fun _ => ⟨?_, ?_⟩, fun h => absurd ⟨by omega, by omega⟩ h⟩
    ·rw [e1]; exact hR.add a1
    ·rw [e1]; exact hpa.1
  ·have c1 : addC 2 1 (W : Int) most L e = 7 := by
    unfold addC;rw [if_pos hm, if_pos (by omega)]
   have c2 : qach (W : Int) most n E key e.len = 7 := by
    unfold qach;rw [if_neg (by rw [hp]; decide), hK, e1, Int.toNat_natCast, a1]; rfl
   obtain ⟨q1, q2⟩ := qafq (show qach (W : Int) most n E key e.len ≠ 0 by rw [c2]; decide) e.act e.args;refine ⟨by rw [c1, c2], ?_⟩;rw [if_neg (by rw [c1]; decide), q1, q2];exact h
 ·rw [if_neg hp] at hm;have c1 : addC 2 1 width most L e = 6 := by unfold addC; rw [if_neg (by rw [hm]; decide), hm]
  have c2 : qach width most n E key e.len = 6 := by unfold qach; rw [if_pos (by simpa using hp)]
  obtain ⟨q1, q2⟩ := qafq (show qach width most n E key e.len ≠ 0 by rw [c2]; decide) e.act e.args;refine ⟨by rw [c1, c2], ?_⟩;rw [if_neg (by rw [c1]; decide), q1, q2];exact h
theorem qa0t {W K : Nat} {P : Int} {E : PE} {y : Option (Int × List Int)} (hK : K ≤ W) (p0 : 0 ≤ P) (p1 : P < 2 ^ K) : (allF (qaef E K P y) W W 0 0).length + (E K P).toList.length = (allF E W W 0 0).length + y.toList.length := by
 have := qaq2 E W K P y W 0 0;rwa [if_pos (qagd hK p0 p1), if_pos (qagd hK p0 p1)] at this
theorem PInv.set {W K : Nat} {n : Int} {P : Int} {x y : Int × List Int} (h : PInv W n E) (hE : E K P = some x) (ha : y.2.length ≤ 1000) (hf : AllFit .u64 y.2) (hact : Fits .i64 y.1) : PInv W n (qaef E K P (some y)) := by
 obtain ⟨i1, i2, i3, _⟩ := h.ok K P x hE;refine ⟨?_, fun i v z hz => ?_⟩
 ·have := qa0t (y := some y) (E := E) i1 i2 i3;rw [hE] at this;simp at this;rw [h.cnt]; omega
 ·unfold qaef at hz;split at hz
  ·rename_i e;obtain ⟨rfl, rfl⟩ := e;cases hz
   exact ⟨i1, i2, i3, ha, hf, hact⟩
  ·exact h.ok i v z hz
theorem qbnj (h : RelT width n E L) (he : OneE e key) : chgC 2 1 width L e = qac0 width E key e.len ∧
  RelT width n (qahk width E key e.len e.act e.args) (chgL 2 1 width L e) := by
 have hm := qamf (width := width) he.keys he.h0 he.h1;by_cases hp : qafj width key e.len = true
 ·rw [if_pos hp] at hm;obtain ⟨W, K, rfl, hK, w1, w2, k1, k2, k3⟩ := qadj hp;obtain ⟨hR, hI⟩ := h.yes ⟨by omega, by omega⟩;have e1 : ((W : Int)).toNat = W := Int.toNat_natCast W;rw [e1] at hR hI;rcases hR.at_ he.keys hK k3 with ⟨a1, a2⟩ | ⟨x, a1, a2, a3, a4⟩
  ·have c1 : chgC 2 1 (W : Int) L e = 9 := by
    unfold chgC;rw [if_pos hm, if_neg (by omega)]
   have c2 : qac0 (W : Int) E key e.len = 9 := by
    unfold qac0;rw [if_neg (by rw [hp]; decide), hK, e1, Int.toNat_natCast, a1, if_neg (by simp)]
   refine ⟨by rw [c1, c2], ?_⟩;rw [qahj (by rw [c2]; decide), show chgL 2 1 (W : Int) L e = L from if_neg (by rw [c1]; decide)];exact h
  ·have c1 : chgC 2 1 (W : Int) L e = 0 := by
    unfold chgC;rw [if_pos hm, if_pos (by omega)]
   have c2 : qac0 (W : Int) E key e.len = 0 := by
    unfold qac0;rw [if_neg (by rw [hp]; decide), hK, e1, Int.toNat_natCast, a1]; rfl
   refine ⟨by rw [c1, c2], ?_⟩;have hl : chgL 2 1 (W : Int) L e = L.set (atN 2 L e) (ce W K (pre W key K) (e.act, e.args)) := by
    unfold chgL; rw [if_pos c1, qbjo he.keys hK k3]
   rw [qajr c2, hl];simp only [hK, e1, Int.toNat_natCast];refine ⟨by rw [h.len]; simp, fun _ => ⟨?_, ?_⟩, fun h => absurd ⟨by omega, by omega⟩ h⟩
   ·rw [e1];obtain ⟨s1, s2⟩ := qash a3 (ce W K (pre W key K) (e.act, e.args));rw [a4] at s1;rw [s2];exact RelM.set (s1 ▸ hR)
   ·rw [e1]; exact hI.set a1 he.few he.args he.act
 ·rw [if_neg hp] at hm;have c1 : chgC 2 1 width L e = 6 := by unfold chgC; rw [if_neg (by rw [hm]; decide), hm]
  have c2 : qac0 width E key e.len = 6 := by unfold qac0; rw [if_pos (by simpa using hp)]
  refine ⟨by rw [c1, c2], ?_⟩;rw [qahj (by rw [c2]; decide), show chgL 2 1 width L e = L from if_neg (by rw [c1]; decide)];exact h
theorem qbbn (h : RelT width n E L) (he : OneE e key) : qaha 2 1 width L e = qab5 width E key e.len ∧
  RelT width (qad0 width n E key e.len) (qaer width E key e.len) (qai6 2 1 width L e) := by
 have hm := qamf (width := width) he.keys he.h0 he.h1;by_cases hp : qafj width key e.len = true
 ·rw [if_pos hp] at hm;obtain ⟨W, K, rfl, hK, w1, w2, k1, k2, k3⟩ := qadj hp;obtain ⟨hR, hI⟩ := h.yes ⟨by omega, by omega⟩;have e1 : ((W : Int)).toNat = W := Int.toNat_natCast W;rw [e1] at hR hI;have hpd := hI.drop (key := key) (k := e.len) he.h0;rcases hR.at_ he.keys hK k3 with ⟨a1, a2⟩ | ⟨x, a1, a2, a3, a4⟩
  ·have c1 : qaha 2 1 (W : Int) L e = 9 := by
    unfold qaha;rw [if_pos hm, if_neg (by omega)]
   have c2 : qab5 (W : Int) E key e.len = 9 := by
    unfold qab5;rw [if_neg (by rw [hp]; decide), hK, e1, Int.toNat_natCast, a1, if_neg (by simp)]
   obtain ⟨q1, q2⟩ := qaf4 (n := n) (show qab5 (W : Int) E key e.len ≠ 0 by rw [c2]; decide);refine ⟨by rw [c1, c2], ?_⟩;rw [q1, q2, show qai6 2 1 (W : Int) L e = L from if_neg (by rw [c1]; decide)];exact h
  ·have c1 : qaha 2 1 (W : Int) L e = 0 := by
    unfold qaha;rw [if_pos hm, if_pos (by omega)]
   have c2 : qab5 (W : Int) E key e.len = 0 := by
    unfold qab5;rw [if_neg (by rw [hp]; decide), hK, e1, Int.toNat_natCast, a1]; rfl
   obtain ⟨q1, q2⟩ := qagh (n := n) c2;refine ⟨by rw [c1, c2], ?_⟩;rw [q1, q2] at hpd;rw [q1, q2, show qai6 2 1 (W : Int) L e = L.take (atN 2 L e) ++ L.drop (atN 2 L e + 1) from if_pos c1];simp only [hK, e1, Int.toNat_natCast] at hpd ⊢;refine ⟨by rw [h.len]; simp; omega, fun _ => ⟨?_, ?_⟩, fun h => absurd ⟨by omega, by omega⟩ h⟩
   ·rw [e1];obtain ⟨s1, _⟩ := qash a3 e;rw [a4] at s1;exact RelM.drop (s1 ▸ hR)
   ·rw [e1]; exact hpd.1
 ·rw [if_neg hp] at hm;have c1 : qaha 2 1 width L e = 6 := by unfold qaha; rw [if_neg (by rw [hm]; decide), hm]
  have c2 : qab5 width E key e.len = 6 := by unfold qab5; rw [if_pos (by simpa using hp)]
  obtain ⟨q1, q2⟩ := qaf4 (n := n) (show qab5 width E key e.len ≠ 0 by rw [c2]; decide);refine ⟨by rw [c1, c2], ?_⟩;rw [q1, q2, show qai6 2 1 width L e = L from if_neg (by rw [c1]; decide)];exact h
end
theorem qaum (S : List Entry) : qanc S S = true := by
 unfold qanc;rw [decide_eq_true rfl, Bool.true_and];refine List.all_eq_true.2 fun i hi => ?_
 rw [List.getElem?_eq_getElem (List.mem_range.1 hi)];simp [qand]
theorem qbni {S : XTab} {j : Nat} {s t : XSlot} (hj : S[j]? = some (some t)) : cnt (S.set j (some s)) = cnt S := by
 have hl := qacs hj;have := qahx S j (some s) hl;rw [List.getElem?_eq_getElem hl] at hj;rw [Option.some.inj hj] at this;simpa using this
theorem qa1y {k m : Int} {S : XTab} (h : XInv k m S) {xs : List Int} (hV : qaig k S xs = 0) : ∃ (j : Nat) (t : XSlot), S[j]? = some (some t) ∧ t.keys = xs ∧ qacj S xs = (j, true) := by
 have hp : (qacj S xs).2 = true := by
  unfold qaig at hV;split at hV
  ·cases hV
  ·split at hV
   ·assumption
   ·cases hV
 obtain ⟨t, ht, hk⟩ := (qajq h).1 hp;obtain ⟨j, hj⟩ := qab6.1 ht;exact ⟨j, t, hj, hk, by rw [← hk]; exact qagg h hj⟩
theorem qa1h {F : Fin_} (h : F.Inv) {e : Entry} (he : EOk e) : (F.add e).Inv := by
 cases F with
 | ex k m S =>
  obtain ⟨h1, h2, h3, h4⟩ := h;show XInv k m (addX k m S ⟨e.keys, e.act, e.args⟩) ∧ 0 ≤ m ∧ m ≤ 16 ∧ (cnt (addX k m S ⟨e.keys, e.act, e.args⟩) : Int) ≤ m;unfold addX;by_cases hV : qap5 k m S e.keys = 0
  ·rw [if_pos hV];obtain ⟨p1, p2⟩ := qasa h1 (s := ⟨e.keys, e.act, e.args⟩) ⟨he.small.1, he.small.2.2⟩ hV;refine ⟨p1, h2, h3, ?_⟩;rw [qatb p2];unfold qap5 at hV;split at hV
   ·cases hV
   ·split at hV
    ·cases hV
    ·split at hV
     ·cases hV
     ·omega
  ·rw [if_neg hV]; exact ⟨h1, h2, h3, h4⟩
 | px w m n E =>
  obtain ⟨h1, h2, h3, h4, h5⟩ := h;have h0 : 0 ≤ kof e := (he.fit.kof).u64.1;have hw : ((w.toNat : Nat) : Int) = w := by have := h1.1; omega
  have := h2.add (most := m) (key := kof e) (k := e.len) h0 he.few he.fit.args he.fit.act;rw [hw] at this;exact ⟨h1, this.1, h3, h4, this.2 h5⟩
 | te k m l =>
  obtain ⟨h1, h2, h3, h4⟩ := h;have := qbiq (k := k) (m := m) (l := l) (e := e) (by omega);exact ⟨qa9o h1 he.small, h2, h3, by show ((addR k m l e).length : Int) ≤ m; omega⟩
theorem qa1g {F : Fin_} (h : F.Inv) {e : Entry} (he : EOk e) : (F.chg e).Inv := by
 cases F with
 | ex k m S =>
  obtain ⟨h1, h2, h3, h4⟩ := h;show XInv k m (chgX k S ⟨e.keys, e.act, e.args⟩) ∧ 0 ≤ m ∧ m ≤ 16 ∧ (cnt (chgX k S ⟨e.keys, e.act, e.args⟩) : Int) ≤ m;unfold chgX;by_cases hV : qaig k S e.keys = 0
  ·rw [if_pos hV];obtain ⟨j, t, hj, hk, hp⟩ := qa1y h1 hV;rw [hp];exact ⟨qa1x h1 ⟨he.small.1, he.small.2.2⟩ hj hk.symm, h2, h3, by rw [qbni hj]; exact h4⟩
  ·rw [if_neg hV]; exact ⟨h1, h2, h3, h4⟩
 | px w m n E =>
  obtain ⟨h1, h2, h3, h4, h5⟩ := h;refine ⟨h1, ?_, h3, h4, h5⟩;by_cases hV : qac0 w E (kof e) e.len = 0
  ·rw [qajr hV];unfold qac0 at hV;split at hV
   ·cases hV
   ·split at hV
    ·rename_i hs;obtain ⟨x, hx⟩ := Option.isSome_iff_exists.1 hs;exact h2.set (y := (e.act, e.args)) hx he.few he.fit.args he.fit.act
    ·cases hV
  ·rw [qahj hV]; exact h2
 | te k m l =>
  obtain ⟨h1, h2, h3, h4⟩ := h;exact ⟨qa1z h1 he.small, h2, h3, by show ((chgR k l e).length : Int) ≤ m; rw [qbnk]; exact h4⟩
theorem qavd {F : Fin_} (h : F.Inv) {e : Entry} (he : EOk e) : (F.drop e).Inv := by
 cases F with
 | ex k m S =>
  obtain ⟨h1, h2, h3, h4⟩ := h;show XInv k m (drpX k S e.keys) ∧ 0 ≤ m ∧ m ≤ 16 ∧ (cnt (drpX k S e.keys) : Int) ≤ m;unfold drpX;by_cases hV : qaig k S e.keys = 0
  ·rw [if_pos hV];obtain ⟨j, t, hj, hk, hp⟩ := qa1y h1 hV;rw [hp];obtain ⟨p1, _, p3⟩ := qa1n h1 hj;exact ⟨p1, h2, h3, by show (cnt (qak9 _ _ S j) : Int) ≤ m; omega⟩
  ·rw [if_neg hV]; exact ⟨h1, h2, h3, h4⟩
 | px w m n E =>
  obtain ⟨h1, h2, h3, h4, h5⟩ := h;have h0 : 0 ≤ kof e := (he.fit.kof).u64.1;have hw : ((w.toNat : Nat) : Int) = w := by have := h1.1; omega
  have := h2.drop (key := kof e) (k := e.len) h0;rw [hw] at this;exact ⟨h1, this.1, h3, h4, by show qad0 w n E (kof e) e.len ≤ m; omega⟩
 | te k m l =>
  obtain ⟨h1, h2, h3, h4⟩ := h;have := qbbo (k := k) (l := l) (e := e);exact ⟨qata h1, h2, h3, by show ((qave k l e).length : Int) ≤ m; omega⟩
theorem qa1e {F : Fin_} (h : F.Inv) : F.cnt ≤ F.m ∧ F.m ≤ 16 := by
 cases F with
 | ex k m S => exact ⟨h.2.2.2, h.2.2.1⟩
 | px w m n E => exact ⟨h.2.2.2.2, h.2.2.2.1⟩
 | te k m l => exact ⟨h.2.2.2, h.2.2.1⟩
theorem qbbd {F : Fin_} (h : F.Inv) : ∀ e ∈ F.all, qacd e := by
 intro e he;cases F with
 | ex k m S =>
  obtain ⟨s, hs, rfl⟩ := List.mem_map.1 he;obtain ⟨j, hj⟩ := qab6.1 ((qaeo S).mem_iff.1 hs);have := h.1.small j s hj;exact ⟨this.1, Nat.zero_le _, this.2⟩
 | px w m n E =>
  have he : e ∈ allT w E := he;unfold allT at he;rw [if_pos h.1] at he;obtain ⟨j, u, x, _, hx, rfl⟩ := (qa0k h.2.1).1 he;have := (h.2.1.ok j u x hx).2.2.2.1;exact ⟨by simp [ce], by simp [ce], by simp [ce]; omega⟩
 | te k m l => exact h.1.small e ((qaih h.1).mem_iff.1 he)
theorem km_add (F : Fin_) (e : Entry) : (F.add e).k = F.k ∧ (F.add e).m = F.m ∧ (F.add e).kind = F.kind := by cases F <;> exact ⟨rfl, rfl, rfl⟩
theorem km_chg (F : Fin_) (e : Entry) : (F.chg e).k = F.k ∧ (F.chg e).m = F.m ∧ (F.chg e).kind = F.kind := by cases F <;> exact ⟨rfl, rfl, rfl⟩
theorem km_drop (F : Fin_) (e : Entry) : (F.drop e).k = F.k ∧ (F.drop e).m = F.m ∧ (F.drop e).kind = F.kind := by cases F <;> exact ⟨rfl, rfl, rfl⟩
theorem StOk.turn {s : StoD} (h : StOk s) {F : Fin_} (hF : F.Inv) (hk : F.k = s.F.k ∧ F.m = s.F.m ∧ F.kind = s.F.kind) : StOk { s with F := F } :=
 ⟨hF, by show s.t.kind = F.kind; rw [hk.2.2]; exact h.kind, by show (s.w.length : Int) = F.k; rw [hk.1]; exact h.k, by show s.t.cap = F.m; rw [hk.2.1]; exact h.m, h.wd, h.wl, h.aw, h.ta, h.tl, h.dl⟩
theorem qbi7 {s : StoD} (h : StOk s) {e : Entry} (he : EOk e) : StOk (qanf s e) := by
 unfold qanf; split
 ·exact h
 ·split
  ·exact h
  ·exact h.turn (qa1h h.inv he) (km_add _ _)
theorem schg_ok {s : StoD} (h : StOk s) {e : Entry} (he : EOk e) : StOk (schgS s e) := by
 unfold schgS; split
 ·exact h
 ·split
  ·exact h
  ·exact h.turn (qa1g h.inv he) (km_chg _ _)
theorem qbli {s : StoD} (h : StOk s) {e : Entry} (he : EOk e) : StOk (qay9 s e) := by
 unfold qay9; split
 ·exact h
 ·exact h.turn (qavd h.inv he) (km_drop _ _)
theorem sdef_ok {s : StoD} (h : StOk s) {a : Int} {l : List Int} (hl : l.length ≤ 1000000) : StOk (sdefS s a l) := by
 unfold sdefS; split
 ·exact h
 ·exact ⟨h.inv, h.kind, h.k, h.m, h.wd, h.wl, h.aw, h.ta, h.tl, hl⟩
theorem qa0h {t : TabD} {ws : List Int} {acts : List ActD} (h : qadf t ws acts = 0) : (qae7 t ws).Inv := by
 obtain ⟨hk, h1, h2, h3, h4, h5, h6, h7, h8, h9⟩ := tabF0 h;have hc : cnt (List.replicate (newN t.cap) (none : Option XSlot)) = 0 := by unfold cnt; rw [List.countP_replicate]; simp
 unfold qae7;split
 ·exact ⟨qayo _ _, h4, h5, by rw [hc]; omega⟩
 ·split
  ·rename_i h10;have hl := h3 h10;have hw : okWd (el ws 0) := by
    cases ws with
    | nil => simp at hl
    | cons x l => have := h6 x (by simp); show 1 ≤ x ∧ x ≤ 64; omega
   exact ⟨hw, PInv.none _, h4, h5, h4⟩
  ·exact ⟨qayt _, h4, h5, by simpa using h4⟩
theorem qasu {t : TabD} {ws : List Int} {acts : List ActD} (ha : AW acts) (ht : t.args.length ≤ 1000000) (h : qadf t ws acts = 0) : StOk (qajv t ws acts) := by
 obtain ⟨hk, h1, h2, h3, h4, h5, h6, h7, h8, h9⟩ := tabF0 h;refine ⟨qa0h h, ?_, ?_, ?_, h6, h2, ?_, ?_, by show t.acts.length ≤ 1000000; omega, ht⟩
 ·show t.kind = (qae7 t ws).kind;unfold qae7;rcases hk with h | h | h
  ·rw [if_pos h]; exact h
  ·rw [if_neg (by omega), if_pos h]; exact h
  ·rw [if_neg (by omega), if_neg (by omega)]; exact h
 ·show (ws.length : Int) = (qae7 t ws).k;unfold qae7;rcases hk with h | h | h
  ·rw [if_pos h]; rfl
  ·rw [if_neg (by omega), if_pos h]; show (ws.length : Int) = 1; rw [h3 h]; rfl
  ·rw [if_neg (by omega), if_neg (by omega)]; rfl
 ·show t.cap = (qae7 t ws).m;unfold qae7;split
  ·rfl
  ·split <;> rfl
 ·intro a hm x hx;obtain ⟨b, hb, rfl⟩ := List.mem_map.1 hm;exact ha b hb x hx
 ·intro k hkm;have := h7 k hkm;show 0 ≤ k ∧ k < ((acts.map bare).length : Int);rw [List.length_map]; exact this
section
variable {width n : Int} {E : PE} {L : List Entry} {key : Int}
theorem qbm1 {W j : Nat} {v : Int} {x : Int × List Int} (h0 : 0 ≤ key) (h1 : key < 2 ^ W) (hW : W ≤ 64) (hj : j ≤ W) : qak2 2 (W : Int) (ce W j v x) [key] = true ↔ v = pre W key j := by
 unfold qak2;rw [if_neg (by decide), if_pos rfl];have e1 : el [key] 0 = key := rfl;have e2 : el (ce W j v x).keys 0 = v * 2 ^ (W - j) := by simp [ce, el]
 have e3 : (ce W j v x).len = (j : Int) := rfl;rw [e1, e2, e3, qbio h0 h1 hW hj];simp only [beq_iff_eq];exact ⟨fun h => (Int.eq_of_mul_eq_mul_right (Int.ne_of_gt (qae6 _)) h).symm, fun h => by rw [h]⟩
theorem qbbb (h : RelT width n E L) (h0 : 0 ≤ key) (h1 : key ≤ 18446744073709551615) : qajo (qag9 2 1 width L [key]) = qbm3 (qac9 width E key) := by
 by_cases hf : qafj width key width = true
 case neg =>
  have e1 : qac9 width E key = none := by unfold qac9; rw [if_neg hf]
  have e2 : qaia 2 1 width [key] = false := by
   unfold qaia;have e0 : el [key] 0 = key := rfl;rw [e0];by_cases hw : okWd width
   ·obtain ⟨W, rfl⟩ : ∃ W : Nat, width = W := ⟨width.toNat, by have := hw.1; omega⟩
    obtain ⟨w1, w2⟩ := hw;have : ¬ key < 2 ^ W := fun hk => hf (by unfold qafj; exact decide_eq_true ⟨w1, w2, by omega, by omega, by simpa using hk, by simp⟩)
    rw [qayr (by omega), decide_eq_false this];simp
   ·have : decide (width < 1) = true ∨ decide (64 < width) = true := by
     by_cases h1 : 1 ≤ width
     ·right; exact decide_eq_true (by have : ¬ width ≤ 64 := fun h2 => hw ⟨h1, h2⟩
                                      omega)
     ·left; exact decide_eq_true (by omega)
    rcases this with h | h <;> rw [h] <;> simp
  have e3 : qag9 2 1 width L [key] = none := by unfold qag9 qbjs; rw [e2]; rfl
  rw [e1, e3]; rfl
 obtain ⟨W, K, rfl, hK, w1, w2, k1, k2, k3⟩ := qadj hf;obtain rfl : K = W := by omega
 obtain ⟨hR, hI⟩ := h.yes ⟨by omega, by omega⟩;have e1 : ((K : Int)).toNat = K := Int.toNat_natCast K;rw [e1] at hR hI;have hok : qaia 2 1 (K : Int) [key] = true := by
  unfold qaia;have e0 : el [key] 0 = key := rfl;rw [e0, qayr (by omega), decide_eq_true k2, decide_eq_false (show ¬ (K : Int) < 1 by omega), decide_eq_false (show ¬ (64 : Int) < K by omega)];rfl
 have hbest : ∀ i, i ≤ L.length → (qail 2 K L [key] i = -1 ∧ ∀ j e, j < i → L[j]? = some e → ¬ qait K key e) ∨ ∃ (k : Nat) (e : Entry), qail 2 K L [key] i = k ∧ k < i ∧ L[k]? = some e ∧ qait K key e ∧ ∀ j e', j < i → L[j]? = some e' → qait K key e' → e'.len ≤ e.len := by
  intro i;induction i with
  | zero => exact fun _ => .inl ⟨rfl, by intro j e hj; omega⟩
  | succ i ih =>
   intro hi;have hiL : i < L.length := by omega
   obtain ⟨j, v, x, hE, hce⟩ := (hR.mem _).1 (List.getElem_mem hiL);obtain ⟨jW, _⟩ := hI.ok j v x hE;have hfit : qak2 2 (K : Int) L[i] [key] = true ↔ qait K key L[i] := by rw [hce, qbm1 h0 k2 w2 jW, qaiz]
   have hpr : ∀ a ∈ L, a.prio = 0 := fun a ha => by obtain ⟨_, _, _, _, rfl⟩ := (hR.mem a).1 ha; rfl
   have hst : qail 2 K L [key] (i + 1) = qbi2 2 K L [key] i (qail 2 K L [key] i) := rfl;rw [hst, qajh hiL];have hLi : L[i]? = some L[i] := List.getElem?_eq_getElem hiL;have ih := ih (by omega);generalize qail 2 (K : Int) L [key] i = b at *;by_cases hx : qait K key L[i]
   ·rw [hfit.2 hx, Bool.true_and];rcases ih with ⟨rfl, q⟩ | ⟨k, e, rfl, q1, q2, q3, q4⟩
    ·rw [if_pos (show qafh L[i] L (-1) = true from rfl)];refine .inr ⟨i, L[i], rfl, by omega, hLi, hx, ?_⟩;exact qaeg (P := fun a => qait K key a → a.len ≤ L[i].len) hiL (fun j a hj ha hb => absurd hb (q j a hj ha)) fun _ => Int.le_refl _
    ·obtain ⟨hkL, rfl⟩ := List.getElem?_eq_some_iff.1 q2;have hb : qafh L[i] L (k : Int) = decide (L[i].len > L[k].len) := by
      unfold qafh;rw [decide_eq_false (show ¬ (k : Int) < 0 by omega), Int.toNat_natCast, q2];simp only [Bool.false_or];rw [hpr _ (List.getElem_mem hiL), hpr _ (List.getElem_mem hkL)];simp
     rw [hb];by_cases hl : L[i].len > L[k].len
     ·rw [if_pos (decide_eq_true hl)];refine .inr ⟨i, L[i], rfl, by omega, hLi, hx, ?_⟩;exact qaeg (P := fun a => qait K key a → a.len ≤ L[i].len) hiL (fun j a hj ha hb => by have := q4 j a hj ha hb; omega) fun _ => Int.le_refl _
     ·rw [decide_eq_false hl, if_neg (by decide)];refine .inr ⟨k, L[k], rfl, by omega, q2, q3, ?_⟩;exact qaeg (P := fun a => qait K key a → a.len ≤ L[k].len) hiL q4 fun _ => by omega
   ·have hff : qak2 2 (K : Int) L[i] [key] = false := by
     cases h : qak2 2 (K : Int) L[i] [key] with
     | false => rfl
     | true => exact absurd (hfit.1 h) hx
    rw [hff, Bool.false_and, if_neg (by decide)];rcases ih with ⟨rfl, q⟩ | ⟨k, e, rfl, q1, q2, q3, q4⟩
    ·exact .inl ⟨rfl, qaeg (P := fun a => ¬ qait K key a) hiL q hx⟩
    ·exact .inr ⟨k, e, rfl, by omega, q2, q3, qaeg (P := fun a => qait K key a → a.len ≤ e.len) hiL q4 fun hb => absurd hb hx⟩
 have hI2 : qbjs 2 1 (K : Int) L [key] = qail 2 K L [key] L.length := if_pos hok
 have hF : qac9 (K : Int) E key = match qaiy (hasE E K key) (K + 1) with
  | none => none
  | some i => (E i (pre K key i)).map fun x => (i, x.1, x.2) := by
  unfold qac9; rw [if_pos hf]; rfl
 have mem : ∀ j, j < K + 1 → hasE E K key j = true → ∃ x, E j (pre K key j) = some x ∧ ∃ i : Nat, i < L.length ∧ L[i]? = some (ce K j (pre K key j) x) := by
  intro j hj he;obtain ⟨x, hx⟩ := Option.isSome_iff_exists.1 (show (E j (pre K key j)).isSome = true from he);obtain ⟨i, hi⟩ := List.getElem?_of_mem ((hR.mem (ce K j (pre K key j) x)).2 ⟨j, _, x, hx, rfl⟩);exact ⟨x, hx, i, (List.getElem?_eq_some_iff.1 hi).1, hi⟩
 rcases hbest L.length (Nat.le_refl _) with ⟨hb, q⟩ | ⟨k, e, hb, q1, q2, q3, q4⟩
 ·have e3 : qag9 2 1 (K : Int) L [key] = none := by unfold qag9; rw [hI2, hb]; rfl
  have e4 : qaiy (hasE E K key) (K + 1) = none := by
   cases hl : qaiy (hasE E K key) (K + 1) with
   | none => rfl
   | some i =>
    obtain ⟨l1, l2, _⟩ := qaj2 hl;obtain ⟨x, _, j, hj, hj2⟩ := mem i l1 l2;exact absurd (qaiz.2 rfl) (q j _ hj hj2)
  rw [e3, hF, e4]; rfl
 ·have e3 : qag9 2 1 (K : Int) L [key] = some e := by unfold qag9; rw [hI2, hb, if_pos (by omega), Int.toNat_natCast]; exact q2
  obtain ⟨j, u, x, hE, rfl⟩ := (hR.mem e).1 (List.mem_of_getElem? q2);obtain ⟨jW, _⟩ := hI.ok j u x hE;obtain rfl := qaiz.1 q3;have hh : hasE E K key j = true := by unfold hasE; rw [hE]; rfl
  have e4 : qaiy (hasE E K key) (K + 1) = some j := by
   cases hl : qaiy (hasE E K key) (K + 1) with
   | none => have := qa01 hl j (by omega); rw [hh] at this; cases this
   | some i =>
    obtain ⟨l1, l2, l3⟩ := qaj2 hl;congr 1
    rcases Nat.lt_trichotomy i j with h2 | h2 | h2
    ·have := l3 j h2 (by omega); rw [hh] at this; cases this
    ·exact h2
    ·obtain ⟨y, _, m, hm2, hm3⟩ := mem i l1 l2;have := q4 m _ hm2 hm3 (qaiz.2 rfl);simp [ce] at this; omega
  rw [e3, hF, e4];simp only [hE];rfl
end
section
theorem qar9 {W i j : Nat} {v u : Int} {x y : Int × List Int} (h : v * 2 ^ (W - i) < u * 2 ^ (W - j) ∨ (v * 2 ^ (W - i) = u * 2 ^ (W - j) ∧ i < j)) : qacl (ce W i v x) (ce W j u y) = true := by
 have e : qaip [v * 2 ^ (W - i)] [u * 2 ^ (W - j)] = if v * 2 ^ (W - i) < u * 2 ^ (W - j) then -1 else if v * 2 ^ (W - i) > u * 2 ^ (W - j) then 1 else 0 := rfl
 show (if (0 : Int) = 0 then (if qaip [v * 2 ^ (W - i)] [u * 2 ^ (W - j)] = 0 then (if (i : Int) = (j : Int) then decide (qaip [] [] < 0) else decide ((i : Int) < (j : Int))) else decide (qaip [v * 2 ^ (W - i)] [u * 2 ^ (W - j)] < 0)) else decide ((0 : Int) < 0)) = true;rw [if_pos rfl];rcases h with h | ⟨h, hij⟩
 ·rw [if_pos h] at e;rw [if_neg (by rw [e]; decide), e]; rfl
 ·rw [if_neg (by omega), if_neg (by omega)] at e;rw [if_pos e, if_neg (by omega)];exact decide_eq_true (by omega)
theorem qami {W i j : Nat} {u v : Int} (hij : i ≤ j) (hj : j ≤ W) (h : u / 2 ^ (j - i) = v) : v * 2 ^ (W - i) ≤ u * 2 ^ (W - j) ∧ u * 2 ^ (W - j) < (v + 1) * 2 ^ (W - i) := by
 have e : (2 : Int) ^ (W - i) = 2 ^ (j - i) * 2 ^ (W - j) := by rw [← Int.pow_add, show j - i + (W - j) = W - i by omega]
 have p1 := qae6 (j - i);have p2 := qae6 (W - j);subst h;rw [e, ← Int.mul_assoc, ← Int.mul_assoc];exact ⟨Int.mul_le_mul_of_nonneg_right (Int.ediv_mul_le u (Int.ne_of_gt p1)) (Int.le_of_lt p2), Int.mul_lt_mul_of_pos_right (Int.lt_ediv_add_one_mul_self u p1) p2⟩
theorem qalt {E : PE} {W : Nat} : ∀ (d i : Nat) (v : Int), i + d = W → (allF E W d i v).Pairwise fun a b => qacl a b = true := by
 intro d;induction d with
 | zero =>
  intro i v h;rw [show allF E W 0 i v = entL E W i v from rfl];unfold entL;cases E i v <;> simp
 | succ d ih =>
  intro i v h;rw [show allF E W (d + 1) i v = entL E W i v ++ (allF E W d (i + 1) (2 * v) ++ allF E W d (i + 1) (2 * v + 1)) from rfl, List.pairwise_append, List.pairwise_append];have e : (2 : Int) ^ (W - i) = 2 * 2 ^ (W - (i + 1)) := by rw [show W - i = W - (i + 1) + 1 by omega, Int.pow_succ, Int.mul_comm]
  have p := qae6 (W - (i + 1));refine ⟨?_, ⟨ih _ _ (by omega), ih _ _ (by omega), ?_⟩, ?_⟩
  ·unfold entL;cases E i v <;> simp
  ·intro a ha b hb;obtain ⟨j, u, x, h1, h2, h3, _, rfl⟩ := (qah5 d (i + 1) _ a).1 ha;obtain ⟨k, t, y, g1, g2, g3, _, rfl⟩ := (qah5 d (i + 1) _ b).1 hb;have r1 := (qami (W := W) h1 (by omega) h3).2;have r2 := (qami (W := W) g1 (by omega) g3).1;exact qar9 (.inl (Int.lt_of_lt_of_le r1 r2))
  ·intro a ha b hb;obtain ⟨x, h1, rfl⟩ := qaqz.1 ha;rw [List.mem_append] at hb;have hb2 : ∃ (k : Nat) (t : Int) (y : Int × List Int) (c : Int), (c = 2 * v ∨ c = 2 * v + 1) ∧ i + 1 ≤ k ∧ k ≤ i + 1 + d ∧ t / 2 ^ (k - (i + 1)) = c ∧ b = ce W k t y := by
    rcases hb with hb | hb
    ·obtain ⟨k, t, y, g1, g2, g3, _, rfl⟩ := (qah5 d (i + 1) _ b).1 hb;exact ⟨k, t, y, _, .inl rfl, g1, g2, g3, rfl⟩
    ·obtain ⟨k, t, y, g1, g2, g3, _, rfl⟩ := (qah5 d (i + 1) _ b).1 hb;exact ⟨k, t, y, _, .inr rfl, g1, g2, g3, rfl⟩
   obtain ⟨k, t, y, c, hc, g1, g2, g3, rfl⟩ := hb2;have r2 := (qami (W := W) g1 (by omega) g3).1;have hv : v * 2 ^ (W - i) ≤ t * 2 ^ (W - k) := by
    refine Int.le_trans ?_ r2;rw [e, ← Int.mul_assoc];exact Int.mul_le_mul_of_nonneg_right (by omega) (Int.le_of_lt p)
   rcases Int.lt_or_eq_of_le hv with h5 | h5
   ·exact qar9 (.inl h5)
   ·exact qar9 (.inr ⟨h5, by omega⟩)
theorem qa9i (a : Entry) : qacl a a = false := by unfold qacl; rw [if_pos rfl, if_pos (qaes _), if_pos rfl, qaes]; rfl
theorem qaqh {S : List Entry} (h : S.Pairwise fun a b => qacl a b = true) : S.Nodup :=
 h.imp fun {a b} hab heq => by rw [heq, qa9i] at hab; cases hab
variable {width n : Int} {E : PE} {L : List Entry}
theorem qbp0 (h : RelT width n E L) : (allT width E).Pairwise (fun a b => qacl a b = true) ∧ (allT width E).Perm L := by
 by_cases hw : okWd width
 ·obtain ⟨hR, hI⟩ := h.yes hw;have e : allT width E = allF E width.toNat width.toNat 0 0 := if_pos hw;rw [e];have hs := qalt (E := E) (W := width.toNat) width.toNat 0 0 (by omega);refine ⟨hs, (List.perm_ext_iff_of_nodup (qaqh hs) hR.nd).2 fun a => ?_⟩;rw [qa0k hI, hR.mem];constructor
  ·rintro ⟨j, u, x, h1, h2, h3⟩;exact ⟨j, u, x, h2, h3⟩
  ·rintro ⟨j, u, x, h2, h3⟩;exact ⟨j, u, x, (hI.ok j u x h2).1, h2, h3⟩
 ·have e : allT width E = [] := if_neg hw;rw [e, h.no hw];exact ⟨List.Pairwise.nil, .nil⟩
theorem qani (h : RelT width n E L) : ∀ a ∈ L, qacd a ∧ a.keys.length = 1 ∧ a.args.length ≤ 1000 := by
 intro a ha;by_cases hw : okWd width
 ·obtain ⟨hR, hI⟩ := h.yes hw;obtain ⟨j, u, x, h1, rfl⟩ := (hR.mem a).1 ha;have := (hI.ok j u x h1).2.2.2.1;refine ⟨⟨?_, ?_, ?_⟩, rfl, this⟩
  ·simp [ce]
  ·simp [ce]
  ·show x.2.length ≤ _;omega
 ·rw [h.no hw] at ha; cases ha
end
def Ahead (l : List Entry) : Prop := l.Pairwise fun a b => qacl a b = true
theorem qbbe {F : Fin_} (h : F.Inv) : Ahead F.all := by
 cases F with
 | ex k m S =>
  show ((qal4 S).map entE).Pairwise _;rw [List.pairwise_map];have hd : (qal4 S).Pairwise fun a b => a.keys ≠ b.keys := by
   refine List.pairwise_iff_getElem.2 fun i j hi hj hij e => ?_
   have hn : (qal4 S).Nodup := (qaeo S).nodup_iff.2 (ents_nd h.1);have e2 := qahu h.1 ((qaeo S).mem_iff.1 (List.getElem_mem hi)) ((qaeo S).mem_iff.1 (List.getElem_mem hj)) e;exact absurd ((List.getElem_inj hn).1 e2) (by omega)
  refine List.pairwise_iff_getElem.2 fun i j hi hj hij => ?_
  have a1 := List.pairwise_iff_getElem.1 (qajj S) i j hi hj hij;have a2 := List.pairwise_iff_getElem.1 hd i j hi hj hij;have a3 : ¬ cmpL (qal4 S)[j].keys (qal4 S)[i].keys < 0 := a1;have a4 := qadd (qal4 S)[i].keys (qal4 S)[j].keys;have a5 : cmpL (qal4 S)[i].keys (qal4 S)[j].keys ≠ 0 := fun e => a2 ((qad6 _ _).1 e)
  refine qa9k ((qanw _ _).2 (.inr ⟨rfl, .inl ?_⟩)) (fun e => a2 ((qadq _ _).1 e).2.1) rfl rfl;show cmpL (qal4 S)[i].keys (qal4 S)[j].keys < 0;omega
 | px w m n E =>
  show (allT w E).Pairwise _;unfold allT; rw [if_pos h.1]
  exact qalt _ _ _ (by omega)
 | te k m l => exact qbip h.1
def Fin_.Kept : Fin_ → Entry → Prop
 | .ex _ _ _, e => e.masks = [] ∧ e.len = 0 ∧ e.prio = 0
 | .px _ _ _ _, e => e.masks = [] ∧ e.prio = 0 ∧ e.keys.length = 1
 | .te _ _ _, e => e.len = 0
section
def Fin_.wd : Fin_ → Int
 | .px w _ _ _ => w
 | _ => 0
def Fin_.Rel : Fin_ → List Entry → Prop
 | .ex k m S, L => RelX k m S L
 | .px w _ n E, L => RelT w n E L
 | .te k _ l, L => RelV k l L
theorem qa1k {e : Entry} (he : EOk e) (h : e.keys.length = 1) : OneE e (kof e) := by
 have hk := he.fit.kof;refine ⟨?_, hk.u64.1, hk.u64.2, he.fit.act, he.fit.args, he.few⟩;cases hx : e.keys with
 | nil => rw [hx] at h; cases h
 | cons x l => rw [hx] at h; cases l with
  | nil => unfold kof; rw [hx]; rfl
  | cons y l => simp at h
theorem qaic {e : Entry} (he : EOk e) : qalu e := fun x hx => (he.fit.keys x hx).u64
theorem qaup {k m : Int} {S : XTab} {L : List Entry} (h : RelX k m S L) : ∀ a ∈ L, qacd a := fun a ha => by
 obtain ⟨s, hs, rfl⟩ := (h.mem a).2 ha;obtain ⟨j, hj⟩ := qab6.1 hs;have := h.inv.small j s hj;exact ⟨this.1, by simp [entE], this.2⟩
theorem qbbc {k ks wd : Int} {L : List Entry} {xs : List Int} {e : Entry} (h : qag9 k ks wd L xs = some e) : e ∈ L := by
 unfold qag9 at h;split at h
 ·exact List.mem_of_getElem? h
 ·cases h
variable {F : Fin_} {L : List Entry} {e : Entry}
theorem rel_add (hI : F.Inv) (h : F.Rel L) (he : EOk e) (hk : F.Kept e) : addC F.kind F.k F.wd F.m L e = F.addV e ∧ (F.add e).Rel (if addC F.kind F.k F.wd F.m L e = 0 then L ++ [qais F.kind e] else L) := by
 cases F with
 | ex k m S => exact ⟨qauf (by have := hI.2; omega) h e, qbp4 (by have := hI.2; omega) h e ⟨he.small.1, he.small.2.2⟩⟩
 | px w m n E => exact qbp5 h (qa1k he hk.2.2) m
 | te k m l => exact ⟨qa9n h (qaic he), add_rel h (qaic he) he.small⟩
theorem rel_chg (h : F.Rel L) (he : EOk e) (hk : F.Kept e) : chgC F.kind F.k F.wd L e = F.chgV e ∧ (F.chg e).Rel (chgL F.kind F.k F.wd L e) := by
 cases F with
 | ex k m S => exact ⟨qai7 h e, qbnh h e ⟨he.small.1, he.small.2.2⟩⟩
 | px w m n E => exact qbnj h (qa1k he hk.2.2)
 | te k m l => exact ⟨qai5 h (qaic he), chg_rel h (qaic he) he.small⟩
theorem qblx (h : F.Rel L) (he : EOk e) (hk : F.Kept e) : qaha F.kind F.k F.wd L e = F.dropV e ∧ (F.drop e).Rel (qai6 F.kind F.k F.wd L e) := by
 cases F with
 | ex k m S => exact ⟨qai7 h e, qbbm h e⟩
 | px w m n E => exact qbbn h (qa1k he hk.2.2)
 | te k m l => exact ⟨qai5 h (qaic he), qbna h (qaic he)⟩
theorem qblw (h : F.Rel L) (xs : List Int) (hx : (xs.length : Int) = F.k) (hf : AllFit .u64 xs) : (qag9 F.kind F.k F.wd L xs).map (fun e => (e.act, e.args)) = F.find xs := by
 cases F with
 | ex k m S => show (qag9 1 k 0 L xs).map _ = _; rw [qbba h xs, Option.map_map]; rfl
 | px w m n E =>
  have h1 : xs = [el xs 0] := by
   cases xs with
   | nil => cases hx
   | cons x l => cases l with
    | nil => rfl
    | cons y l => simp [Fin_.k] at hx; omega
  have h0 : Fits .u64 (el xs 0) := hf _ (by rw [h1]; simp [el]);have := qbbb h h0.u64.1 h0.u64.2;rw [← h1] at this;show (qag9 2 1 w L xs).map _ = (qac9 w E (el xs 0)).map _;generalize qag9 2 1 w L xs = a at this;generalize qac9 w E (el xs 0) = b at this;cases a with
  | none => cases b with
   | none => rfl
   | some y => simp [qajo, qbm3] at this
  | some x => cases b with
   | none => simp [qajo, qbm3] at this
   | some y =>
    simp only [qajo, qbm3, qacc, nums, fAct, qbbf, SV.tup.injEq, List.cons.injEq, SV.agg.injEq, SV.int.injEq, SV.view.injEq, true_and, and_true] at this;obtain ⟨⟨h1, h2⟩, _⟩ := this;have h3 := (List.map_inj_right (fun a b h => by simpa using h)).1 h2;simp [h1, h3]
 | te k m l => show (qag9 3 k 0 L xs).map _ = _; rw [qbm2 h xs]; rfl
theorem qbaj (hI : F.Inv) (h : F.Rel L) (hk : 0 ≤ F.k ∧ F.k ≤ 1000000) : (∀ a ∈ L, qacd a) ∧ qamz F.kind F.k L ∧ F.cnt = L.length ∧ F.all.Perm L ∧ ∀ xs : List Int, (xs.length : Int) = F.k → ∀ a ∈ L, qap7 F.kind a xs := by
 cases F with
 | ex k m S => exact ⟨qaup h, fun h => absurd h (show ¬ (1 : Int) = 3 by decide), by rw [h.len]; rfl, qbpz h, fun xs hx a ha => ⟨fun h => absurd h (show ¬ (1 : Int) = 2 by decide), fun h => absurd rfl h⟩⟩
 | px w m n E => exact ⟨fun a ha => (qani h a ha).1, fun h => absurd h (show ¬ (2 : Int) = 3 by decide), h.len, (qbp0 h).2, fun xs hx a ha => ⟨fun _ => ⟨by simp only [Fin_.k] at hx; omega, by have := (qani h a ha).2.1; omega⟩, fun _ h => absurd rfl h⟩⟩
 | te k m l =>
  have hs : ∀ a ∈ L, qacd a := fun a ha => h.inv.small a (h.perm.mem_iff.2 ha)
  have hf : ∀ a ∈ L, (a.keys.length : Int) = k ∧ (a.masks.length : Int) = k := fun a ha => qahs (h.inv.fit a (h.perm.mem_iff.2 ha))
  have hl : l.length = L.length := h.perm.length_eq;refine ⟨hs, fun _ => ⟨hk.1, hk.2, hf⟩, by show (l.length : Int) = _; rw [hl], all_rel h, fun xs hx a ha => ⟨fun h => absurd h (show ¬ (3 : Int) = 2 by decide), fun _ _ => ?_⟩⟩;have := hf a ha;simp only [Fin_.k] at hx;omega
end
section
attribute [local simp] qaa6 qaa5 qaak qaas qaal qaar qaa3 qaa4 qaae qabh SOp.run SX.ev putd puts argS upds SOp.touch SSt.keep SSt.skip gets geth puth delh idOf SV.cells? setL qac5 qac6 sbin eq0 eq1 eqL qac2 qaby qab0 qaa2 qaa1 qaac qaa7 qabi qaaj qaad FrzOk qaav qaan qaat qaau qaaf qaam qaa8 qaao qaah qaaw qaag frzS frzH frz frz1 frz0 SlotsM ObjsM ObjM rn ren ren1 ren0 qabk qabw qabz qabj qaa9 qabx qab1 CoL qaax qabr dels adds idsH qabc
section
attribute [local simp] qaaa nums actc
def qayu (t : TabD) (ws : List Int) (acts : List ActD) : Bool := decide (50 < t.acts.length) || (decide (50 < t.args.length) || (decide (50 < ws.length) || (decide (50 < acts.length) || acts.any fun a => decide (50 < a.w.length))))
theorem qbk8 (t : TabD) (ws : List Int) (acts : List ActD) (q : Nat) : SCalls Tryz.prog 7 [.agg (tabc t), nums .i64 ws, .view 2 (acts.map actc)] [] q (.bool (qayu t ws acts)) [] := by
 refine qabt ?_ (fun _ => rfl) (fun _ => rfl) rfl q;refine yF (N := 41) Tryz.func7 qa2w ?_;rintro X hP hN hm;obtain ⟨F, hF⟩ : ∃ F, F = qayu t ws acts := ⟨_, rfl⟩
 rw [← hF];unfold qayu at hF;unfold qa2w tabc;replace hF := Lib.hid hF;repeat' (first | (with_reducible refine zA ?_) | ((with_reducible refine qaab ?_); (try rw [hP]); simp -implicitDefEqProofs [*]) | ((with_reducible refine qaai ?_); (try simp -implicitDefEqProofs [*])) | ((with_reducible refine qaba ?_); (try simp only [qaa2, qaac, qaaj])) | ((with_reducible refine qaap rfl (fun h => ?_) (fun h => ?_)) <;> have h' := h <;> (try simp at h') <;> (try subst h')) | ((with_reducible refine qacn (fun h => ?_) (fun h => ?_)) <;> have h' := h <;> (try simp at h') <;> (try subst h') <;> simp -implicitDefEqProofs [*]) | (with_reducible refine zN hm ?_) | fail)
 ·rw [hF.out, decide_eq_true (show 50 < t.acts.length by omega)]; rfl
 ·rw [hF.out, decide_eq_true (show 50 < t.args.length by omega)]; simp
 ·rw [hF.out, decide_eq_true (show 50 < ws.length by omega)]; simp
 ·rw [hF.out, decide_eq_true (show 50 < acts.length by omega)]; simp
 have hG : F = acts.any fun a => decide (50 < a.w.length) := by
  rw [hF.out, decide_eq_false (show ¬ 50 < t.acts.length by omega), decide_eq_false (show ¬ 50 < t.args.length by omega), decide_eq_false (show ¬ 50 < ws.length by omega), decide_eq_false (show ¬ 50 < acts.length by omega)];rfl
 replace hF := Lib.hid hG;clear hG;refine qabf (qaco (fun s (i : Nat) => s.turn [(7, .int .i64 i)] []) (fun i => i ≤ acts.length ∧ F = (acts.drop i).any fun a => decide (50 < a.w.length)) (fun i => acts.length - i) 0 ?_ ⟨by simp, hF.out⟩ ?_)
 ·repeat' (first | ((with_reducible refine qabd [] hm ?_ ?_ ?_ ?_) <;> (try simp only [zT, puth, Nat.reduceEqDiff, reduceIte, Nat.reduceAdd])) | (with_reducible first | refine za ?_ ?_ | refine zb ?_ ?_ ?_ ?_) | (with_reducible first | exact qaep | exact qafr) | ((with_reducible first | refine zga ?_ | refine zgb ?_); rfl) | ((with_reducible refine zgd ?_); (first | omega | (simp; done))) | (exact Co.refl _) | (exact CoL.refl _) | fail)
 rintro J hJ i ⟨h1, h2⟩;unfold qalc;simp only [zT, puth, Nat.reduceEqDiff, reduceIte, Nat.reduceAdd] at h1 h2 ⊢;rcases Nat.lt_or_ge i acts.length with hi | hi
 ·rw [List.drop_eq_getElem_cons hi, List.any_cons] at h2;have wi : IntKind.i64.wrap ((i : Int) + 1) = (i : Int) + 1 := qabo (by omega) (by omega);generalize hx : acts[i] = x at h2;rw [show decide (50 < x.w.length) = decide ((50 : Int) < (x.w.length : Int)) by congr 1; exact propext (by omega)] at h2;replace h2 := Lib.hid h2;cases hv : decide ((50 : Int) < (x.w.length : Int))
  ·repeat' (first | (with_reducible first | refine zA ?_ | refine qabg ?_) | ((with_reducible refine qaab ?_); (try rw [hP]); simp -implicitDefEqProofs [*]) | ((with_reducible refine qaai ?_); (try simp -implicitDefEqProofs [*])) | ((with_reducible refine qaap rfl (fun h => ?_) (fun h => ?_)) <;> have h' := h <;> (try simp at h') <;> (try subst h')) | (with_reducible first | refine za ?_ ?_ | refine zb ?_ ?_ ?_ ?_) | (with_reducible first | exact qaep | exact qafr) | ((with_reducible first | refine zga ?_ | refine zgb ?_); rfl) | ((with_reducible first | refine zgd ?_ | refine zge ?_); (first | omega | (simp; done))) | (exact Co.refl _) | (exact CoL.refl _) | ((refine qabs hJ (i + 1) ?_ ?_ ?_; (with_reducible refine qabd [] hm ?_ ?_ ?_ ?_) <;> (try simp only [zT, puth, Nat.reduceEqDiff, reduceIte, Nat.reduceAdd]))) | fail)
   refine ⟨by omega, ?_⟩;rw [h2.out, hv, Bool.false_or]
  ·repeat' (first | (with_reducible first | refine zA ?_ | refine qabg ?_) | ((with_reducible refine qaab ?_); (try rw [hP]); simp -implicitDefEqProofs [*]) | ((with_reducible refine qaai ?_); (try simp -implicitDefEqProofs [*])) | ((with_reducible refine qaba ?_); (try simp only [qaa2, qaac, qaaj])) | ((with_reducible refine qaap rfl (fun h => ?_) (fun h => ?_)) <;> have h' := h <;> (try simp at h') <;> (try subst h')) | (with_reducible refine zN hm ?_) | fail)
   rw [h2.out, hv]; rfl
 ·obtain rfl : i = acts.length := by omega
  rw [List.drop_length] at h2;replace h2 := Lib.hid h2;repeat' (first | (with_reducible refine zA ?_) | ((with_reducible refine qaab ?_); (try rw [hP]); simp -implicitDefEqProofs [*]) | ((with_reducible refine qabv ?_); (try simp -implicitDefEqProofs [*])) | ((with_reducible refine qaba ?_); (try simp only [qaa2, qaac, qaaj])) | ((with_reducible refine qaap rfl (fun h => ?_) (fun h => ?_)) <;> have h' := h <;> (try simp at h') <;> (try subst h')) | (with_reducible refine zN hm ?_) | fail)
  rw [h2.out]; rfl
end
section
attribute [local simp] qaaa nums actc hitc qacc qajc
theorem snew_q (t : TabD) (ws : List Int) (acts : List ActD) (ha : AW acts) (h1 : t.acts.length ≤ 1000000) (h2 : t.args.length ≤ 1000000) (h3 : ws.length ≤ 1000000) (h4 : acts.length ≤ 1000000) (h5 : ∀ a ∈ acts, a.w.length ≤ 1000000) (he : qadf t ws acts = 0) (q : Nat) : SCalls Tryz.prog 9 [.agg (tabc t), nums .i64 ws, .view 2 (acts.map actc)] [] q (.tup [.ptr q 0, .agg [.int .i64 0, .int .i64 0]]) (qacm (qajv t ws acts) q (q + 1)) := by
 have e0 : sg [] q 0 = q := rfl;have e1 : sg [] q 1 = q + 1 := rfl;have e : ∀ s : StoD, (scs s 1).map (Go.Proofs.YtalejfkholifpaaGreat.ren (sg [] q)) = scs s (q + 1) := fun s => qaeq s e1
 refine qacp [] (snew_s t ws acts ha h1 h2 h3 h4 h5 he) rfl (by simp) (by simp) rfl trivial (by simp [idsH]) (by simp [Go.Proofs.YtalejfkholifpaaGreat.ren, ren1, ren0, e0]) rfl ?_ (by simp [idsH, qacm]) (by simp [idsH, qacm, e0, e1]);exact ⟨⟨.cells _ (scs (qajv t ws acts) (q + 1)), by rw [e0]; simp [geth, qacm], rfl, rfl, (e _).symm⟩, ⟨.abs (qajv t ws acts).F.I, by rw [e1]; simp [geth, qacm], rfl⟩, trivial⟩
theorem qbij {l : List TStep} (h : bigS l = false) : l.length ≤ 200 ∧ ∀ s ∈ l, s.e.keys.length ≤ 20 ∧ s.e.masks.length ≤ 20 ∧ s.e.args.length ≤ 20 := by
 unfold bigS at h;simp only [Bool.or_eq_false_iff, decide_eq_false_iff_not, List.any_eq_false] at h;refine ⟨by omega, fun s hs => ?_⟩;have := h.2 s hs;unfold bigE at this;simp at this;omega
end
section
attribute [local simp] qabn qaca qacq qab2
structure RelS (s : StoD) (B : RsD) (L : List Entry) : Prop where
 ok : StOk s
 rel : s.F.Rel L
 t : B.t = s.t
 w : B.w = s.w
 da : B.da = s.da
 dl : B.dl = s.dl
 wd : wdT s.t s.w = s.F.wd
 says : ∀ a l, qaec B.t.acts B.acts a l = qagf s a l
 bok : RsOk B
def qa9s (B : RsD) (a b : Nat) (L : List Entry) : Hp := qaay B a b B.t.kind B.w.length (wdT B.t B.w) B.t.cap L
theorem RelS.facts {s : StoD} {B : RsD} {L : List Entry} (h : RelS s B L) : (∀ a ∈ L, qacd a) ∧ qamz s.F.kind s.F.k L ∧ s.F.cnt = L.length ∧ s.F.all.Perm L ∧ ∀ xs : List Int, (xs.length : Int) = s.F.k → ∀ a ∈ L, qap7 s.F.kind a xs :=
 qbaj h.ok.inv h.rel (by have := h.ok.k; have := h.ok.wl; omega)
theorem RelS.len {s : StoD} {B : RsD} {L : List Entry} (h : RelS s B L) : L.length ≤ 16 := by
 have h1 := h.facts.2.2.1;have h2 := qa1e h.ok.inv;omega
theorem RelS.found {s : StoD} {B : RsD} {L : List Entry} (h : RelS s B L) (xs : List Int) (hf : AllFit .u64 xs) : ∃ (a : Int) (l : List Int) (b : Bool), l.length ≤ 1000000 ∧ qal5 s xs = .tup [.agg (qacc a l), .bool b] ∧ qaf3 B (qafw B B.t.kind (wdT B.t B.w) L xs) = .tup [.agg (qacc a l), .bool b] := by
 have h1 : (qafw B B.t.kind (wdT B.t B.w) L xs).map (fun e => (e.act, e.args)) = qaio s xs := by
  unfold qafw qaio;rw [h.t, h.w];split
  ·rename_i hc;have hk : (xs.length : Int) = s.F.k := by rw [← h.ok.k, hc.1]
   have := qblw h.rel xs hk hf;rw [← this, h.ok.kind, h.ok.k, h.wd]
  ·rfl
 have h2 : ∀ e, qafw B B.t.kind (wdT B.t B.w) L xs = some e → qacd e := fun e he => by
  unfold qafw at he;split at he
  ·exact h.facts.1 e (qbbc he)
  ·cases he
 unfold qal5;rw [← h1];cases hR : qafw B B.t.kind (wdT B.t B.w) L xs with
 | none => exact ⟨s.da, s.dl, false, h.ok.dl, rfl, by unfold qaf3; rw [h.da, h.dl]⟩
 | some e => exact ⟨e.act, e.args, true, (h2 e hR).2.2, rfl, rfl⟩
def qamu : SCode := (Sf qade [1, 3, 10, 12, 13, 14, 15, 16, 17, 18] (Sf qalj [1, 3, 10, 12, 13, 14, 15, 16, 17, 18, 19, 20] (.seq (Rt qali [1, 3, 10, 12, 13, 205]) (Cn 205 (Sf qalh [8] .ret) .skip))))
set_option maxRecDepth 4000 in
theorem qaza (X : Cx) (hP : X.P = Tryz.prog) (hm : X.m = 0) {Q : SExit → SSt → Prop} (ws : List Int) (l : List TStep) (s : StoD) (B : RsD) (L : List Entry) (i : Nat) (C d : Int) (e : Entry) (hi : i < l.length) (hs : l[i] = ⟨d, e⟩) (he : EOk e) (h : RelS s B L) (hw : B.w = ws)
  (hQ : ∀ tl hp nx, Q .normal ⟨(1, nums .i64 ws) :: (3, qafi l) :: (10, .ptr 0 0) :: (12, .ptr 2 0) :: (13, .int .i64 i) :: tl, (0, .cells 76 (scs s 1)) :: (1, .abs s.F.I) :: (2, qaaq B B.t.kind B.w.length (wdT B.t B.w) B.t.cap 3 L.length) :: (3, qabq L) :: hp, nx⟩) :
  SWp X qamu Q ⟨[(1, nums .i64 ws), (3, qafi l), (10, .ptr 0 0), (12, .ptr 2 0), (13, .int .i64 i), (14, .ptr 4 0), (15, .int .i64 C), (16, .int .i64 C)], [(0, .cells 76 (scs s 1)), (1, .abs s.F.I), (2, qaaq B B.t.kind B.w.length (wdT B.t B.w) B.t.cap 3 L.length), (3, qabq L), (4, .cells 38 (qaaa e))], 5⟩ := by
 obtain ⟨r1, r2, r3, r4, r5⟩ := h.facts;have hL := h.len;have f1 := fun q (hq : 2 ≤ q) => qagu (qbi5 s h.ok e.keys he.small.1 he.fit.keys) (fun _ => rfl) (fun _ => rfl) rfl 0 1 q (by decide) (by omega) (by omega)
 have f2 := fun q (h1 : 2 < q) (h2 : 3 < q) => rsfindA B h.bok B.t.kind (wdT B.t B.w) B.t.cap L 2 3 q (by decide) h1 h2 e.keys he.small.1 r1 (by omega) (fun hk => by
  rw [h.w];have h3 := h.ok.k;have h4 : s.F.kind = 2 := by rw [← h.ok.kind, ← h.t, hk]
  cases hF : s.F with
  | ex k m S => rw [hF] at h4; cases h4
  | px w m n E => rw [hF] at h3; simp only [Fin_.k] at h3; omega
  | te k m l => rw [hF] at h4; cases h4) (fun hx a ha => by
  rw [h.t, h.ok.kind];exact r5 e.keys (by rw [← h.ok.k, ← h.w, hx]) a ha)
 obtain ⟨a, r, b, hr, e1, e2⟩ := h.found e.keys he.fit.keys;rw [e1] at f1;rw [e2] at f2;have f3 := fun q => yQ (shit_s a a r r hr) q
 rw [show (a == a && decide (r = r)) = true by simp] at f3;have f4 := fun q (hq : 2 ≤ q) => qagu (ssays_o s h.ok) (fun _ => rfl) (fun _ => rfl) rfl 0 1 q (by decide) (by omega) (by omega)
 have f5 := fun q => yQ (shit_s s.da s.da s.dl s.dl h.ok.dl) q
 rw [show (s.da == s.da && decide (s.dl = s.dl)) = true by simp] at f5;have f6 := fun q (hq : 2 ≤ q) => qagu (slen_s s h.ok) (fun _ => rfl) (fun _ => rfl) rfl 0 1 q (by decide) (by omega) (by omega)
 rw [r3] at f6;have f7 := fun q (hq : 2 ≤ q) => qagu (qble s h.ok) (fun _ => rfl) (fun _ => rfl) rfl 0 1 q (by decide) (by omega) (by omega)
 have f8 := fun q => yQ (sent_s e e he.small) q
 rw [show qand e e = true by simp [qand]] at f8;have hdd := h.da;have hdl := h.dl;rw [← h.w, hw] at f7;clear r1 r2 r3 r4 r5 e1 e2 h hL;obtain ⟨Bt, Bw, Ba, Bd, Bl⟩ := B;simp only at hdd hdl hw hQ f2 ⊢;subst hdd hdl hw;generalize wdT Bt Bw = wd at hQ f2 ⊢;replace hQ := Lib.hid hQ;unfold qacc nums at f1 f2 f3 f5;unfold hitc nums at f4;unfold qaaa nums at f8;unfold qacm at f1 f4 f6 f7;unfold qamu;unfold qaay qaaq qabq at f2;unfold qaaq qabq qaaa;repeat' (first | (with_reducible first | refine zA ?_ | refine zK ?_) | ((with_reducible first | refine qaab ?_ | refine qaaz (by rw [hP]; exact mixed) ?_); (try rw [hP]); simp -implicitDefEqProofs [qafi, qajc, qaaa, nums, List.getElem?_eq_getElem hi, hs, *]) | ((with_reducible refine qaai ?_); (try simp -implicitDefEqProofs [qafi, qajc, qaaa, nums, List.getElem?_eq_getElem hi, hs, *])) | ((with_reducible refine qaap rfl (fun h => ?_) (fun h => ?_)) <;> have h' := h <;> (try simp at h') <;> (try subst h')) | ((first | refine yR (f1 _ (by simp)) ?_ | refine yR (f2 _ (by simp) (by simp)) ?_ | refine qabe (f3 _) ?_ | refine yR (f4 _ (by simp)) ?_ | refine qabe (f5 _) ?_ | refine yR (f6 _ (by simp)) ?_ | refine yR (f7 _ (by simp)) ?_ | refine qabe (f8 _) ?_); simp -implicitDefEqProofs [qafi, qajc, qaaa, nums, List.getElem?_eq_getElem hi, hs, *]) | fail)
 exact hQ.out _ _ _
end
end
def stF (s : StoD) (F : Fin_) : StoD := { s with F := F }
theorem qamj {s : StoD} {F : Fin_} (h : StOk (stF s F)) {e : Entry} (hk : qaex s e = 0) : F.Kept e := by
 obtain ⟨h1, h2, h3, h4, _⟩ := qahp hk;have hkd : s.t.kind = F.kind := h.kind;have hkk : (s.w.length : Int) = F.k := h.k;cases F with
 | ex k m S =>
  have : s.t.kind = 1 := hkd;obtain ⟨a, b⟩ := h3 (by omega);exact ⟨List.length_eq_zero_iff.1 a, h4 (by omega), b⟩
 | px w m n E =>
  have : s.t.kind = 2 := hkd;obtain ⟨a, b⟩ := h3 (by omega);have : (s.w.length : Int) = 1 := hkk;exact ⟨List.length_eq_zero_iff.1 a, b, by omega⟩
 | te k m l =>
  have : s.t.kind = 3 := hkd;exact h4 (by omega)
def qamx (f g : FuncId) (xs ys : List SV) (s : StoD) (B : RsD) (L : List Entry) : Prop := ∃ (C : Int) (s' : StoD) (B' : RsD) (L' : List Entry), (∀ q, 2 ≤ q → SCalls Tryz.prog f (.ptr 0 0 :: xs) (qacm s 0 1) q (.int .i64 C) (qacm s' 0 1)) ∧ (∀ q, 2 < q → 3 < q → SCalls Tryz.prog g (.ptr 2 0 :: ys) (qa9s B 2 3 L) q (.int .i64 C) (qa9s B' 2 3 L')) ∧ RelS s' B' L' ∧ B'.w = B.w
def qbkz (f g : FuncId) (xs ys : List SV) (s : StoD) (B : RsD) (L : List Entry) : Prop := ∃ (C : Int) (s' : StoD) (B' : RsD) (L' : List Entry), (∀ q, 2 ≤ q → SCalls Tryz.prog f (.ptr 0 0 :: xs) (qacm s 0 1) q (.int .i64 C) (qacm s' 0 1)) ∧ (∀ q, 2 < q → 3 < q → SCalls Tryz.prog g (.ptr 2 0 :: ys) (qa9s B 2 3 L) q (.int .i64 C) (qa9s B' 2 q L')) ∧ RelS s' B' L' ∧ B'.w = B.w
theorem wd_add (F : Fin_) (e : Entry) : (F.add e).wd = F.wd := by cases F <;> rfl
theorem wd_chg (F : Fin_) (e : Entry) : (F.chg e).wd = F.wd := by cases F <;> rfl
theorem wd_drop (F : Fin_) (e : Entry) : (F.drop e).wd = F.wd := by cases F <;> rfl
theorem qazv {s : StoD} {B : RsD} {L L' : List Entry} {F' : Fin_} (h : RelS s B L) (hok : StOk { s with F := F' }) (hr : F'.Rel L') (hwd : F'.wd = s.F.wd) : RelS { s with F := F' } B L' :=
 ⟨hok, hr, h.t, h.w, h.da, h.dl, h.wd.trans hwd.symm, h.says, h.bok⟩
theorem op_add {s : StoD} {B : RsD} {L : List Entry} {e : Entry} (h : RelS s B L) (he : EOk e) : qamx 10 25 [.agg (qaaa e)] [.int .i64 1, .agg (qaaa e)] s B L ∨ qbkz 10 25 [.agg (qaaa e)] [.int .i64 1, .agg (qaaa e)] s B L := by
 have k1 := fun q (hq : 2 ≤ q) => qagu (sadd_s s h.ok e he) (fun _ => rfl) (fun _ => rfl) rfl 0 1 q (by decide) (by omega) (by omega)
 have hok := qbi7 h.ok he;have hC : saddC s e = if qaex s e ≠ 0 then qaex s e else if qagf s e.act e.args ≠ 0 then qagf s e.act e.args else s.F.addV e := rfl
 have hS : qanf s e = if qaex s e ≠ 0 then s else if qagf s e.act e.args ≠ 0 then s else { s with F := s.F.add e } := rfl
 have hT : qair B.t B.w e = qaex s e := by rw [h.t, h.w]; rfl
 have hY := h.says e.act e.args;obtain ⟨f1, f2, f3, f4, f5⟩ := h.facts;have hL := h.len;by_cases g1 : qaex s e = 0
 ·rw [if_neg (by simp [g1])] at hC hS;by_cases g2 : qagf s e.act e.args = 0
  ·rw [if_neg (by simp [g2])] at hC hS;have hK : s.F.Kept e := qamj (s := s) (F := s.F) h.ok g1;obtain ⟨v1, v2⟩ := rel_add h.ok.inv h.rel he hK;have e1 : B.t.kind = s.F.kind := by rw [h.t, h.ok.kind]
   have e2 : (B.w.length : Int) = s.F.k := by rw [h.w, h.ok.k]
   have e3 : wdT B.t B.w = s.F.wd := by rw [h.t, h.w, h.wd]
   have e4 : B.t.cap = s.F.m := by rw [h.t, h.ok.m]
   rw [← e1, ← e2, ← e3, ← e4] at v1 v2;rw [← e1, ← e2] at f2;rw [hS] at k1 hok;rw [hC] at k1;have hR := qazv h hok v2 (wd_add _ _);by_cases g3 : addC B.t.kind B.w.length (wdT B.t B.w) B.t.cap L e = 0
   ·rw [if_pos g3] at hR;rw [← v1, g3] at k1;exact .inr ⟨0, _, B, _, k1, fun q h1 h2 => qblr B h.bok _ _ _ _ L e f1 he.small (by omega) 2 3 q (by decide) h1 h2 f2 (hT.trans g1) (hY.trans g2) g3, hR, rfl⟩
   ·rw [if_neg g3] at hR;rw [← v1] at k1;exact .inl ⟨_, _, B, _, k1, fun q h1 h2 => qbls B h.bok _ _ _ _ L e f1 he.small (by omega) 2 3 q (by decide) h1 h2 f2 (hT.trans g1) (hY.trans g2) g3, hR, rfl⟩
  ·rw [if_pos g2] at hC hS;rw [hC, hS] at k1;refine .inl ⟨_, s, B, L, k1, fun q h1 h2 => ?_, h, rfl⟩;rw [← hY];exact qang B h.bok _ _ _ _ L e he.small 2 3 q (by decide) h1 h2 1 rfl (hT.trans g1) (by rw [hY]; exact g2)
 ·rw [if_pos g1] at hC hS;rw [hC, hS] at k1;refine .inl ⟨_, s, B, L, k1, fun q h1 h2 => ?_, h, rfl⟩;rw [← hT];exact qaql B h.bok _ _ _ _ L e 2 3 q (by decide) h1 h2 1 (by rw [hT]; exact g1)
theorem op_chg {s : StoD} {B : RsD} {L : List Entry} {e : Entry} (h : RelS s B L) (he : EOk e) : qamx 11 25 [.agg (qaaa e)] [.int .i64 2, .agg (qaaa e)] s B L := by
 have k1 := fun q (hq : 2 ≤ q) => qagu (schg_s s h.ok e he) (fun _ => rfl) (fun _ => rfl) rfl 0 1 q (by decide) (by omega) (by omega)
 have hok := schg_ok h.ok he;have hC : schgC s e = if qaex s e ≠ 0 then qaex s e else if qagf s e.act e.args ≠ 0 then qagf s e.act e.args else s.F.chgV e := rfl
 have hS : schgS s e = if qaex s e ≠ 0 then s else if qagf s e.act e.args ≠ 0 then s else { s with F := s.F.chg e } := rfl
 have hT : qair B.t B.w e = qaex s e := by rw [h.t, h.w]; rfl
 have hY := h.says e.act e.args;have f1 := h.facts.1;have hL := h.len;by_cases g1 : qaex s e = 0
 ·rw [if_neg (by simp [g1])] at hC hS;by_cases g2 : qagf s e.act e.args = 0
  ·rw [if_neg (by simp [g2])] at hC hS;have hK : s.F.Kept e := qamj (s := s) (F := s.F) h.ok g1;obtain ⟨v1, v2⟩ := rel_chg h.rel he hK;have e1 : B.t.kind = s.F.kind := by rw [h.t, h.ok.kind]
   have e2 : (B.w.length : Int) = s.F.k := by rw [h.w, h.ok.k]
   have e3 : wdT B.t B.w = s.F.wd := by rw [h.t, h.w, h.wd]
   rw [← e1, ← e2, ← e3] at v1 v2;rw [hS] at k1 hok;rw [hC, ← v1] at k1;exact ⟨_, _, B, _, k1, fun q h1 h2 => rschgA B h.bok _ _ _ _ L e f1 he.small (by omega) 2 3 q (by decide) h1 h2 (hT.trans g1) (hY.trans g2), qazv h hok v2 (wd_chg _ _), rfl⟩
  ·rw [if_pos g2] at hC hS;rw [hC, hS] at k1;refine ⟨_, s, B, L, k1, fun q h1 h2 => ?_, h, rfl⟩;rw [← hY];exact qang B h.bok _ _ _ _ L e he.small 2 3 q (by decide) h1 h2 2 rfl (hT.trans g1) (by rw [hY]; exact g2)
 ·rw [if_pos g1] at hC hS;rw [hC, hS] at k1;refine ⟨_, s, B, L, k1, fun q h1 h2 => ?_, h, rfl⟩;rw [← hT];exact qaql B h.bok _ _ _ _ L e 2 3 q (by decide) h1 h2 2 (by rw [hT]; exact g1)
theorem op_drop {s : StoD} {B : RsD} {L : List Entry} {e : Entry} (h : RelS s B L) (he : EOk e) : qamx 12 25 [.agg (qaaa e)] [.int .i64 3, .agg (qaaa e)] s B L ∨ qbkz 12 25 [.agg (qaaa e)] [.int .i64 3, .agg (qaaa e)] s B L := by
 have k1 := fun q (hq : 2 ≤ q) => qagu (sdrop_s s h.ok e he) (fun _ => rfl) (fun _ => rfl) rfl 0 1 q (by decide) (by omega) (by omega)
 have hok := qbli h.ok he;have hC : qblj s e = if qaex s e ≠ 0 then qaex s e else s.F.dropV e := rfl
 have hS : qay9 s e = if qaex s e ≠ 0 then s else { s with F := s.F.drop e } := rfl
 have hT : qair B.t B.w e = qaex s e := by rw [h.t, h.w]; rfl
 have f1 := h.facts.1;have hL := h.len;by_cases g1 : qaex s e = 0
 ·rw [if_neg (by simp [g1])] at hC hS;have hK : s.F.Kept e := qamj (s := s) (F := s.F) h.ok g1;obtain ⟨v1, v2⟩ := qblx h.rel he hK;have e1 : B.t.kind = s.F.kind := by rw [h.t, h.ok.kind]
  have e2 : (B.w.length : Int) = s.F.k := by rw [h.w, h.ok.k]
  have e3 : wdT B.t B.w = s.F.wd := by rw [h.t, h.w, h.wd]
  rw [← e1, ← e2, ← e3] at v1 v2;rw [hS] at k1 hok;rw [hC, ← v1] at k1;have hR := qazv h hok v2 (wd_drop _ _);by_cases g3 : qaha B.t.kind B.w.length (wdT B.t B.w) L e = 0
  ·rw [g3] at k1;exact .inr ⟨0, _, B, _, k1, fun q h1 h2 => qbad B h.bok _ _ _ _ L e f1 he.small (by omega) 2 3 q (by decide) h1 h2 (hT.trans g1) g3, hR, rfl⟩
  ·rw [show qai6 B.t.kind B.w.length (wdT B.t B.w) L e = L from if_neg g3] at hR;exact .inl ⟨_, _, B, _, k1, fun q h1 h2 => qbae B h.bok _ _ _ _ L e f1 he.small (by omega) 2 3 q (by decide) h1 h2 (hT.trans g1) g3, hR, rfl⟩
 ·rw [if_pos g1] at hC hS;rw [hC, hS] at k1;refine .inl ⟨_, s, B, L, k1, fun q h1 h2 => ?_, h, rfl⟩;rw [← hT];exact qaql B h.bok _ _ _ _ L e 2 3 q (by decide) h1 h2 3 (by rw [hT]; exact g1)
theorem op_def {s : StoD} {B : RsD} {L : List Entry} (h : RelS s B L) (a : Int) (l : List Int) (hl : l.length ≤ 1000000) : qamx 19 26 [.agg (qacc a l)] [.agg (qacc a l)] s B L := by
 have k1 := fun q (hq : 2 ≤ q) => qagu (sdef_s s h.ok a l hl) (fun _ => rfl) (fun _ => rfl) rfl 0 1 q (by decide) (by omega) (by omega)
 have hok := sdef_ok h.ok (a := a) hl;have hC : sdefC s a l = qagf s a l := rfl;have hS : sdefS s a l = if qagf s a l ≠ 0 then s else { s with da := a, dl := l } := rfl
 have hY := h.says a l;by_cases g2 : qagf s a l = 0
 ·rw [if_neg (by simp [g2])] at hS;rw [hS] at k1 hok;rw [hC, g2] at k1;exact ⟨0, _, { B with da := a, dl := l }, L, k1, fun q h1 h2 => qblp B h.bok _ _ _ _ L 2 3 q (by decide) h1 h2 a l hl (hY.trans g2), ⟨hok, h.rel, h.t, h.w, rfl, rfl, h.wd, h.says, ⟨h.bok.wl, h.bok.ta, h.bok.tl⟩⟩, rfl⟩
 ·rw [if_pos g2] at hS;rw [hC, hS] at k1;refine ⟨_, s, B, L, k1, fun q h1 h2 => ?_, h, rfl⟩;rw [← hY];exact qblq B h.bok _ _ _ _ L 2 3 q (by decide) h1 h2 a l hl (by rw [hY]; exact g2)
theorem qazh (ta : List Int) (acts : List ActD) (a : Int) (l : List Int) : qaec ta (acts.map bare) a l = qaec ta acts a l := by
 unfold qaec actW;rw [List.getElem?_map];cases acts[a.toNat]? <;> rfl
theorem qbl0 {t : TabD} {ws : List Int} {acts : List ActD} (ha : AW acts) (ht : t.args.length ≤ 1000000) (h : qadf t ws acts = 0) : RelS (qajv t ws acts) ⟨t, ws, acts, t.def_, t.args⟩ [] := by
 have hok := qasu ha ht h;obtain ⟨hk, h1, h2, h3, h4, h5, h6, h7, h8, h9⟩ := tabF0 h;have hta := hok.ta;refine ⟨hok, ?_, rfl, rfl, rfl, rfl, ?_, fun a l => (qazh _ _ _ _).symm, ⟨h2, fun k hk => ?_, by have := hok.tl; exact this⟩⟩
 ·show (qae7 t ws).Rel [];unfold qae7;split
  ·refine ⟨qayo _ _, ?_⟩;rw [show qagw (List.replicate (newN t.cap) none) = [] from List.filterMap_eq_nil_iff.2 fun o ho => (List.mem_replicate.1 ho).2];exact .nil
  ·split
   ·exact qblz _
   ·exact qbly _
 ·show wdT t ws = (qae7 t ws).wd;unfold qae7 wdT;rcases hk with g | g | g
  ·rw [if_neg (by omega), if_pos g]; rfl
  ·rw [if_pos g, if_neg (by omega), if_pos g]; rfl
  ·rw [if_neg (by omega), if_neg (by omega), if_neg (by omega)]; rfl
 ·have := hta k hk;simpa [qajv] using this
section
attribute [local simp] qaa6 qaa5 qaak qaas qaal qaar qaa3 qaa4 qaae qabh SOp.run SX.ev putd puts argS upds SOp.touch SSt.keep SSt.skip gets geth puth delh idOf SV.cells? setL qac5 qac6 sbin eq0 eq1 eqL qac2 qaby qab0 qaa2 qaa1 qaac qaa7 qabi qaaj qaad FrzOk qaav qaan qaat qaau qaaf qaam qaa8 qaao qaah qaaw qaag frzS frzH frz frz1 frz0 SlotsM ObjsM ObjM rn ren ren1 ren0 qabk qabw qabz qabj qaa9 qabx qab1 CoL qaax qabr dels adds idsH qabc
section
attribute [local simp] qaaa nums actc hitc qacc
def begT : TabD := ⟨2, [], [0, 1], 2, 0, []⟩
def begA : List ActD := [⟨[], []⟩, ⟨[8], []⟩]
def begE : Entry := ⟨[128], [], 1, 0, 1, [7]⟩
def begS : StoD := qajv begT [8] begA
theorem qbkx : AW begA := fun a ha w hw => by
 simp [begA] at ha;rcases ha with rfl | rfl
 ·cases hw
 ·simp at hw; subst hw; exact Fits.of_i64 (by decide) (by decide)
theorem qbku : qadf begT [8] begA = 0 := by decide
theorem qbkv : StOk begS := qasu qbkx (by decide) qbku
theorem qbkw : EOk begE := ⟨⟨by decide, by decide, by decide⟩, ⟨fun x hx => by simp [begE] at hx; subst hx; exact Fits.of_u64 (by decide) (by decide), fun x hx => by simp [begE] at hx; subst hx; exact Fits.of_u64 (by decide) (by decide), Fits.of_i64 (by decide) (by decide), Fits.of_i64 (by decide) (by decide)⟩, by decide⟩
theorem sbg_c : saddC begS begE = 0 := by decide
theorem sbg_f1 : qaio (qanf begS begE) [255] = some (1, [7]) := by decide
theorem sbg_f2 : qaio (qanf begS begE) [127] = none := by decide
theorem qahm {a e n : Nat} {xs : List SV} {h : Hp} (hg : geth h a = some (.row e 1 (xs.map fun x => [x]))) (hp : qamy xs) (hn : n = xs.length) : Lent h (.own a n) (.view 1 (xs.map fun x => [x])) :=
 qaj0 (e := e) hg (fun x hx => by obtain ⟨y, hy, rfl⟩ := List.mem_map.1 hx; intro z hz; rw [List.mem_singleton.1 hz]; exact hp y hy) (by simp [hn])
theorem sbg_new (a b q : Nat) (hab : a ≠ b) : SCalls Tryz.prog 9 [.agg [.int .i64 2, .nilsl, .own a 2, .int .i64 2, .int .i64 0, .nilsl], .own b 1, .view 2 [[.nilsl, .nilsl], [.view 1 [[.int .i64 8]], .nilsl]]] [(a, .row 3 1 [[.int .i64 0], [.int .i64 1]]), (b, .row 3 1 [[.int .i64 8]])] q (.tup [.ptr q 0, .agg [.int .i64 0, .int .i64 0]]) (qacm begS q (q + 1)) := by
 have hc := qask (snew_q begT [8] begA qbkx (by decide) (by decide) (by decide) (by decide) (by decide) qbku q) (args := [.agg [.int .i64 2, .nilsl, .view 1 [[.int .i64 0], [.int .i64 1]], .int .i64 2, .int .i64 0, .nilsl], .view 1 [[.int .i64 8]], .view 2 [[.nilsl, .nilsl], [.view 1 [[.int .i64 8]], .nilsl]]]) ⟨qabx ⟨Co.refl _, Co.nilsl 2, Co.refl _, Co.refl _, Co.refl _, Co.nilsl 1, trivial⟩, Co.refl _, qarj ⟨⟨Co.nilsl 1, Co.nilsl 5, trivial⟩, ⟨Co.refl _, Co.nilsl 5, trivial⟩, trivial⟩, trivial⟩;refine qah2 (h0 := []) hc ⟨qa0s ⟨qacb _, qacb _, qahm (e := 3) (xs := [.int .i64 0, .int .i64 1]) (by simp [geth]) (qab4 _ rfl) rfl, qacb _, qacb _, qacb _, trivial⟩, qahm (e := 3) (xs := [.int .i64 8]) (by simp [geth, hab]) (qab4 _ rfl) rfl, qacb _, trivial⟩ fun _ _ => rfl
theorem sbg_add (i j a b q : Nat) (hij : i ≠ j) (hi : i < q) (hj : j < q) (hab : a ≠ b) (h1 : a ≠ i ∧ a ≠ j ∧ b ≠ i ∧ b ≠ j) : SCalls Tryz.prog 10 [.ptr i 0, .agg [.own a 1, .nilsl, .int .i64 1, .int .i64 0, .int .i64 1, .own b 1]] [(i, .cells 76 (scs begS j)), (j, .abs begS.F.I), (a, .row 70 1 [[.int .u64 128]]), (b, .row 70 1 [[.int .u64 7]])] q (.int .i64 0) (qacm (qanf begS begE) i j) := by
 have hk := qagu (sadd_s begS qbkv begE qbkw) (fun _ => rfl) (fun _ => rfl) rfl i j q hij hi hj;rw [sbg_c] at hk;have hc := qask hk (args := [.ptr i 0, .agg [.view 1 [[.int .u64 128]], .nilsl, .int .i64 1, .int .i64 0, .int .i64 1, .view 1 [[.int .u64 7]]]]) ⟨Co.refl _, qabx ⟨Co.refl _, Co.nilsl 1, Co.refl _, Co.refl _, Co.refl _, Co.refl _, trivial⟩, trivial⟩;refine qah2 (h0 := qacm begS i j) hc ⟨qacb _, qa0s ⟨qahm (e := 70) (xs := [.int .u64 128]) (by simp [geth]) (qab4 _ rfl) rfl, qacb _, qacb _, qacb _, qacb _, qahm (e := 70) (xs := [.int .u64 7]) (by simp [geth, hab]) (qab4 _ rfl) rfl, trivial⟩, trivial⟩ fun id hid => ?_
 have : a = id ∨ b = id := by
  by_cases e1 : a = id
  ·exact .inl e1
  ·by_cases e2 : b = id
   ·exact .inr e2
   ·simp [geth, e1, e2] at hid
 obtain ⟨x1, x2, x3, x4⟩ := h1;rcases this with rfl | rfl <;> simp [qacm, geth, x1.symm, x2.symm, x3.symm, x4.symm]
theorem qazg (x : Int) (hx : Fits .u64 x) (i j a q : Nat) (hij : i ≠ j) (hi : i < q) (hj : j < q) (h1 : a ≠ i ∧ a ≠ j) : SCalls Tryz.prog 14 [.ptr i 0, .own a 1] [(i, .cells 76 (scs (qanf begS begE) j)), (j, .abs (qanf begS begE).F.I), (a, .row 70 1 [[.int .u64 x]])] q (qal5 (qanf begS begE) [x]) (qacm (qanf begS begE) i j) := by
 have hk := qagu (qbi5 (qanf begS begE) (qbi7 qbkv qbkw) [x] (by simp) (fun y hy => by rw [List.mem_singleton.1 hy]; exact hx)) (fun _ => rfl) (fun _ => rfl) rfl i j q hij hi hj;refine qah2 (h0 := qacm (qanf begS begE) i j) hk ⟨qacb _, qahm (e := 70) (xs := [.int .u64 x]) (by simp [geth]) (qab4 _ rfl) rfl, trivial⟩ fun id hid => ?_
 have : a = id := by
  by_cases e1 : a = id
  ·exact e1
  ·simp [geth, e1] at hid
 subst this;simp [qacm, geth, h1.1.symm, h1.2.symm]
theorem qaub (q : Nat) : SCalls Tryz.prog 6 [] [] q (.bool true) [] := by
 refine qabt ?_ (fun _ => rfl) (fun _ => rfl) rfl q;refine yF (N := 60) Tryz.func6 c_sbeg ?_;rintro X hP hN hm;unfold c_sbeg;have kn := sbg_new;have ka := sbg_add;have k1 := qazg 255 (Fits.of_u64 (by decide) (by decide));have k2 := qazg 127 (Fits.of_u64 (by decide) (by decide));rw [show qal5 (qanf begS begE) [255] = .tup [.agg (hitc 1 [7]), .bool true] by unfold qal5; rw [sbg_f1]; rfl] at k1;rw [show qal5 (qanf begS begE) [127] = .tup [.agg (hitc 0 []), .bool false] by unfold qal5; rw [sbg_f2]; rfl] at k2;unfold hitc nums at k1 k2;generalize qanf begS begE = s1 at ka k1 k2;generalize begS = s0 at kn ka;unfold qacm at kn ka k1 k2;replace kn := Lib.hid kn;replace ka := Lib.hid ka;replace k1 := Lib.hid k1;replace k2 := Lib.hid k2;repeat' (first | ((with_reducible refine qadg (c := .seq (.reg false qatp _) _) ?_)) | (with_reducible refine zA ?_) | ((with_reducible refine qaab ?_); (try rw [hP]); simp -implicitDefEqProofs [*]) | fail)
 constructor;refine qakm [2] ?_ ?_
 ·simp only [FrzOk, geth, Nat.reduceEqDiff, reduceIte, and_true]; exact fun x hx => by simp at hx; subst hx; exact qab4 _ rfl
 simp -implicitDefEqProofs;refine qakm [4] ?_ ?_
 ·simp only [FrzOk, geth, Nat.reduceEqDiff, reduceIte, and_true]; exact fun x hx => by simp at hx; rcases hx with rfl | rfl <;> exact qab4 _ rfl
 simp -implicitDefEqProofs;repeat' (first | (with_reducible first | refine zA ?_ | refine qabg ?_ | refine qam5 ?_ | refine zK ?_) | ((with_reducible first | refine qaab ?_ | refine qaaz (by rw [hP]; exact mixed) ?_); (try rw [hP]); simp -implicitDefEqProofs [*]) | ((with_reducible first | refine qaai ?_ | refine qabv ?_); (try simp -implicitDefEqProofs [*])) | ((with_reducible refine qaba ?_); (try simp only [qaa2, qaac, qaaj])) | ((with_reducible refine qaap rfl (fun h => ?_) (fun h => ?_)) <;> have h' := h <;> (try simp at h') <;> (try subst h')) | ((with_reducible refine qacn (fun h => ?_) (fun h => ?_)) <;> have h' := h <;> (try simp at h') <;> (try subst h') <;> simp -implicitDefEqProofs [*]) | ((with_reducible refine qafm ?_ ?_); (first | omega | (unfold maxLen; omega)); simp -implicitDefEqProofs [*]) | ((first | refine call_h (kn.out _ _ _ (by decide)) ⟨rfl, rfl, trivial⟩ ⟨rfl, rfl, trivial⟩ ?_ | refine call_h (ka.out _ 11 _ _ _ (by decide) (by simp) (by simp) (by decide) (by decide)) ⟨rfl, rfl, rfl, rfl, trivial⟩ ⟨rfl, rfl, trivial⟩ ?_ | refine call_h (k1.out _ 11 _ _ (by decide) (by simp) (by simp) (by decide)) ⟨rfl, rfl, rfl, trivial⟩ ⟨rfl, rfl, trivial⟩ ?_ | refine call_h (k2.out _ 11 _ _ (by decide) (by simp) (by simp) (by decide)) ⟨rfl, rfl, rfl, trivial⟩ ⟨rfl, rfl, trivial⟩ ?_); simp -implicitDefEqProofs [*]) | (with_reducible first | refine zM hm ?_ | refine zN hm ?_ | refine zO hm ?_ | refine zP hm ?_) | fail)
 all_goals first | rfl | trace_state
end
section
attribute [local simp] qaaa nums actc hitc qacc qajc
set_option maxHeartbeats 4000000 in
theorem sdoes_s (t : TabD) (ws : List Int) (acts : List ActD) (l : List TStep) (ha : AW acts) (hfit : ∀ s ∈ l, FitE s.e) : SCalls Tryz.prog 5 [.agg (tabc t), nums .i64 ws, .view 2 (acts.map actc), qafi l] [] 0 (.bool true) [] := by
 refine yF (N := 213) Tryz.func5 qbkf ?_;rintro X hP hN hm;unfold qbkf tabc;have kg := fun q => qbk8 t ws acts q
 have kb := fun q => yQ (great_s l) q
 unfold qafi at kb ⊢;cases g1 : qayu t ws acts <;> rw [g1] at kg
 rotate_left 1
 ·repeat' (first | (with_reducible refine zA ?_) | ((with_reducible refine qaab ?_); (try rw [hP]); simp -implicitDefEqProofs [*]) | ((with_reducible refine qaai ?_); (try simp -implicitDefEqProofs [*])) | ((with_reducible refine qaba ?_); (try simp only [qaa2, qaac, qaaj])) | ((with_reducible refine qaap rfl (fun h => ?_) (fun h => ?_)) <;> have h' := h <;> (try simp at h') <;> (try subst h')) | ((first | refine qabe (qaub _) ?_ | refine qabe (kg _) ?_); simp -implicitDefEqProofs [*]) | (with_reducible refine zN hm ?_) | fail)
  all_goals rfl
 cases g2 : bigS l <;> rw [g2] at kb
 rotate_left 1
 ·repeat' (first | (with_reducible refine zA ?_) | ((with_reducible refine qaab ?_); (try rw [hP]); simp -implicitDefEqProofs [*]) | ((with_reducible refine qaai ?_); (try simp -implicitDefEqProofs [*])) | ((with_reducible refine qaba ?_); (try simp only [qaa2, qaac, qaaj])) | ((with_reducible refine qaap rfl (fun h => ?_) (fun h => ?_)) <;> have h' := h <;> (try simp at h') <;> (try subst h')) | ((first | refine qabe (qaub _) ?_ | refine qabe (kg _) ?_ | refine qabe (kb _) ?_); simp -implicitDefEqProofs [*]) | (with_reducible refine zN hm ?_) | fail)
  all_goals rfl
 obtain ⟨hl, hsm⟩ := qbij g2;unfold qayu at g1;simp only [Bool.or_eq_false_iff, decide_eq_false_iff_not, List.any_eq_false, decide_eq_true_eq] at g1;obtain ⟨t1, t2, t3, t4, t5⟩ := g1;have t6 : ∀ a ∈ acts, a.w.length ≤ 1000000 := fun a ham => by have := t5 a ham; omega
 have kc := fun q => qaqf t ws acts ha (by omega) (by omega) (by omega) (by omega) q
 have kr := fun q => qbll t ws acts (by omega) (by omega) (by omega) (by omega) q
 unfold tabc nums at kc kr;by_cases he : qadf t ws acts = 0
 rotate_left 1
 ·have kn := fun q => snew_no t ws acts ha (by omega) (by omega) (by omega) (by omega) he q
  generalize qadf t ws acts = K at he kn kc kr;have b1 : (K != 0) = true := by simp [he]
  replace he := Lib.hid he;clear t5 t6;unfold tabc nums at kn;repeat' (first | (with_reducible refine zA ?_) | ((with_reducible refine qaab ?_); (try rw [hP]); simp -implicitDefEqProofs [*]) | ((with_reducible refine qaai ?_); (try simp -implicitDefEqProofs [*])) | ((with_reducible refine qaba ?_); (try simp only [qaa2, qaac, qaaj])) | ((with_reducible refine qaap rfl (fun h => ?_) (fun h => ?_)) <;> have h' := h <;> (try simp at h') <;> (try subst h')) | ((first | refine qabe (qaub _) ?_ | refine qabe (kg _) ?_ | refine qabe (kb _) ?_ | refine qabe (kn _) ?_ | refine qabe (kr _) ?_ | refine qabe (kc _) ?_); simp -implicitDefEqProofs [*]) | (with_reducible refine zN hm ?_) | fail)
  all_goals first | rfl | (exfalso; omega) | trace_state
 have kn := fun q => snew_q t ws acts ha (by omega) (by omega) (by omega) (by omega) t6 he q
 have km := fun q => rsnew_a t ws acts (fun hk => by have := (tabF0 he).2.1; intro h0; rw [h0] at this; simp at this) q
 have hrel := qbl0 ha (by omega) he;rw [he] at kc kr;unfold tabc nums qacm at kn;unfold tabc nums at km;generalize qajv t ws acts = s0 at kn hrel;clear t5 t6;replace he := Lib.hid he;repeat' (first | (with_reducible refine zA ?_) | ((with_reducible refine qaab ?_); (try rw [hP]); simp -implicitDefEqProofs [*]) | ((with_reducible refine qaai ?_); (try simp -implicitDefEqProofs [*])) | ((with_reducible refine qaap rfl (fun h => ?_) (fun h => ?_)) <;> have h' := h <;> (try simp at h') <;> (try subst h')) | ((first | refine qabe (qaub _) ?_ | refine qabe (kg _) ?_ | refine qabe (kb _) ?_ | refine qabe (kr _) ?_ | refine qabe (kc _) ?_ | refine yH (kn _) ?_ | refine yH (km _) ?_); simp -implicitDefEqProofs [*]) | fail)
 all_goals (try (with_reducible rfl))
 refine qad8 (qalx (t := 65) (cs := qakh t ws acts) 92 12 38 6 rfl rfl) ?_;refine qabf (qaco (fun s (z : Nat × StoD × RsD × List Entry) => ⟨[(1, nums .i64 ws), (3, qafi l), (10, .ptr 0 0), (12, .ptr 2 0), (13, .int .i64 z.1)], [(0, .cells 76 (scs z.2.1 1)), (1, .abs z.2.1.F.I), (2, qaaq z.2.2.1 z.2.2.1.t.kind z.2.2.1.w.length (wdT z.2.2.1.t z.2.2.1.w) z.2.2.1.t.cap 3 z.2.2.2.length), (3, qabq z.2.2.2)], 4⟩) (fun z => z.1 ≤ l.length ∧ RelS z.2.1 z.2.2.1 z.2.2.2 ∧ z.2.2.1.w = ws) (fun z => l.length - z.1) (0, s0, ⟨t, ws, acts, t.def_, t.args⟩, []) (qabd [(0, 48), (1, 49), (2, 92), (3, 102)] hm ⟨Co.refl _, Co.refl _, Co.refl _, Co.refl _, Co.refl _, trivial⟩ ⟨⟨_, rfl, rfl, by rw [qaeq _ rfl]; exact CoL.refl _⟩, ⟨_, rfl, rfl⟩, ⟨_, rfl, rfl, CoL.refl _⟩, ⟨_, rfl, rfl, rfl, CoLL.refl _⟩, trivial⟩ rfl (Nat.zero_le _)) ⟨by simp, hrel, rfl⟩ ?_);clear hrel kn km kc kr kg kb;rintro J hJ ⟨i, st, B, L⟩ ⟨h1, hst, hw⟩;unfold qapa;simp only at h1 hst hw ⊢;rcases Nat.lt_or_ge i l.length with hi | hi
 rotate_left 1
 ·obtain rfl : i = l.length := by omega
  obtain ⟨r1, r2, r3, r4, r5⟩ := hst.facts;have hL := hst.len;have ka := fun q (hq : 2 ≤ q) => qagu (sall_s st hst.ok) (fun _ => rfl) (fun _ => rfl) rfl 0 1 q (by decide) (by omega) (by omega)
  have kl := fun q (h1 : 2 < q) (h2 : 3 < q) => rallAZ B B.t.kind B.w.length (wdT B.t B.w) B.t.cap L st.F.all r1 (by omega) (qbbe hst.ok.inv) r4 2 3 q (by decide) h1 h2
  have ks := fun q => yQ (sents_s st.F.all st.F.all (by have := r4.length_eq; omega) (qbbd hst.ok.inv)) q
  rw [qaum] at ks;unfold ents at ka kl ks;unfold qacm at ka;unfold qaay qaaq qabq at kl;clear r1 r2 r3 r4 r5 hst hL hw;unfold qaaq qabq;repeat' (first | (with_reducible first | refine zA ?_ | refine zK ?_) | ((with_reducible first | refine qaab ?_ | refine qaaz (by rw [hP]; exact mixed) ?_); (try rw [hP]); simp -implicitDefEqProofs [qafi, *]) | ((with_reducible refine qabv ?_); (try simp -implicitDefEqProofs [qafi, *])) | ((with_reducible refine qaba ?_); (try simp only [qaa2, qaac, qaaj])) | ((with_reducible refine qaap rfl (fun h => ?_) (fun h => ?_)) <;> have h' := h <;> (try simp at h') <;> (try subst h')) | ((first | refine yR (ka _ (by simp)) ?_ | refine yR (kl _ (by simp) (by simp)) ?_ | refine qabe (ks _) ?_); simp -implicitDefEqProofs [qafi, *]) | (with_reducible refine zN hm ?_) | fail)
  all_goals rfl
 have wi : IntKind.i64.wrap ((i : Int) + 1) = (i : Int) + 1 := qabo (by omega) (by omega);have hx1 := hsm l[i] (List.getElem_mem hi);have hx2 := hfit l[i] (List.getElem_mem hi);obtain ⟨d, e, hle⟩ : ∃ d e, l[i] = ⟨d, e⟩ := ⟨_, _, rfl⟩
 rw [hle] at hx1 hx2;have he2 : EOk e := ⟨⟨by simp only at hx1; omega, by simp only at hx1; omega, by simp only at hx1; omega⟩, hx2, by simp only at hx1; omega⟩
 clear hx1 hx2;have k0 := fun q => yQ (ownE_s e he2.small) q
 have rest : ∀ (st' : StoD) (B' : RsD) (L' : List Entry) (C : Int), RelS st' B' L' → B'.w = ws → SWp X qamu (qakd 1 (QSeq X (SCode.reg false qalg [1, 3, 10, 12, 13]) (qbk0 X J (l.length - i) (qakd 0 (QSeq X ((SCode.reg true qalf [8]).seq SCode.ret) (QFun X [ResultVar.tmp 8] 0 (SV.bool true) []))))))
   ⟨[(1, nums .i64 ws), (3, qafi l), (10, .ptr 0 0), (12, .ptr 2 0), (13, .int .i64 i), (14, .ptr 4 0), (15, .int .i64 C), (16, .int .i64 C)], [(0, .cells 76 (scs st' 1)), (1, .abs st'.F.I), (2, qaaq B' B'.t.kind B'.w.length (wdT B'.t B'.w) B'.t.cap 3 L'.length), (3, qabq L'), (4, .cells 38 (qaaa e))], 5⟩ := by
  intro st' B' L' C hr hw';refine qaza X hP hm ws l st' B' L' i C d e hi hle he2 hr hw' ?_;intro tl hp nx;simp only [qaa1, qaby];replace hr := Lib.hid hr;replace hw' := Lib.hid hw';repeat' (first | ((with_reducible refine qaab ?_); (try rw [hP]); simp -implicitDefEqProofs [wi, *]) | fail)
  refine qabs hJ (i + 1, st', B', L') (qabd [] hm ⟨Co.refl _, Co.refl _, Co.refl _, Co.refl _, Co.refl _, trivial⟩ ⟨⟨_, rfl, rfl, by rw [qaeq _ rfl]; exact CoL.refl _⟩, ⟨_, rfl, rfl⟩, ⟨_, rfl, rfl, CoL.refl _⟩, ⟨_, rfl, rfl, rfl, ?_⟩, trivial⟩ rfl (Nat.zero_le _)) ⟨by simp only; omega, hr.out, hw'.out⟩ (by simp only; omega);rw [qabn]; exact CoLL.refl _
 replace rest := Lib.hid rest;unfold qaaa nums at k0;by_cases hd0 : d = 0
 ·subst hd0;rcases op_add hst he2 with ⟨C, st', B', L', k1, k2, hr, hw'⟩ | ⟨C, st', B', L', k1, k2, hr, hw'⟩
  ·rw [hw] at hw';unfold qacm qaaa nums at k1;unfold qa9s qaay qaaa nums at k2;replace hr := Lib.hid hr;replace hw' := Lib.hid hw';clear hst hw;repeat' (first | ((with_reducible refine qadg (c := .seq (.reg false qade _) _) ?_)) | (with_reducible first | refine zA ?_ | refine qabg ?_ | refine zK ?_) | ((with_reducible first | refine qaab ?_ | refine qaaz (by rw [hP]; exact mixed) ?_); (try rw [hP]); simp -implicitDefEqProofs [qafi, List.getElem?_eq_getElem hi, hle, *]) | ((with_reducible refine qaai ?_); (try simp -implicitDefEqProofs [qafi, List.getElem?_eq_getElem hi, hle, *])) | ((with_reducible refine qaap rfl (fun h => ?_) (fun h => ?_)) <;> have h' := h <;> (try simp at h') <;> (try subst h')) | ((first | refine qabe (k0 _) ?_ | refine yH (k1 _ (by simp)) ?_ | refine yH (k2 _ (by simp) (by simp)) ?_); simp -implicitDefEqProofs [qafi, List.getElem?_eq_getElem hi, hle, *]) | fail)
   constructor;refine qad8 ?_ (rest.out st' B' L' C hr.out hw'.out);exact qabd [(4, 21)] hm ⟨Co.refl _, Co.refl _, Co.refl _, Co.refl _, Co.refl _, Co.refl _, Co.refl _, Co.refl _, trivial⟩ ⟨⟨_, rfl, rfl, by rw [qaeq _ rfl]; exact CoL.refl _⟩, ⟨_, rfl, rfl⟩, ⟨_, rfl, rfl, CoL.refl _⟩, ⟨_, rfl, rfl, rfl, by rw [qabn]; exact CoLL.refl _⟩, ⟨_, rfl, rfl, CoL.refl _⟩, trivial⟩ rfl (by simp)
  ·rw [hw] at hw';unfold qacm qaaa nums at k1;unfold qa9s qaay qaaa nums at k2;replace hr := Lib.hid hr;replace hw' := Lib.hid hw';clear hst hw;repeat' (first | ((with_reducible refine qadg (c := .seq (.reg false qade _) _) ?_)) | (with_reducible first | refine zA ?_ | refine qabg ?_ | refine zK ?_) | ((with_reducible first | refine qaab ?_ | refine qaaz (by rw [hP]; exact mixed) ?_); (try rw [hP]); simp -implicitDefEqProofs [qafi, List.getElem?_eq_getElem hi, hle, *]) | ((with_reducible refine qaai ?_); (try simp -implicitDefEqProofs [qafi, List.getElem?_eq_getElem hi, hle, *])) | ((with_reducible refine qaap rfl (fun h => ?_) (fun h => ?_)) <;> have h' := h <;> (try simp at h') <;> (try subst h')) | ((first | refine qabe (k0 _) ?_ | refine yH (k1 _ (by simp)) ?_ | refine yH (k2 _ (by simp) (by simp)) ?_); simp -implicitDefEqProofs [qafi, List.getElem?_eq_getElem hi, hle, *]) | fail)
   constructor;refine qad8 ?_ (rest.out st' B' L' C hr.out hw'.out);exact qabd [(3, 48), (4, 21)] hm ⟨Co.refl _, Co.refl _, Co.refl _, Co.refl _, Co.refl _, Co.refl _, Co.refl _, Co.refl _, trivial⟩ ⟨⟨_, rfl, rfl, by rw [qaeq _ rfl]; exact CoL.refl _⟩, ⟨_, rfl, rfl⟩, ⟨_, rfl, rfl, CoL.refl _⟩, ⟨_, rfl, rfl, rfl, by rw [qabn]; exact CoLL.refl _⟩, ⟨_, rfl, rfl, CoL.refl _⟩, trivial⟩ rfl (by simp)
 by_cases hd1 : d = 1
 ·subst hd1;obtain ⟨C, st', B', L', k1, k2, hr, hw'⟩ := op_chg hst he2;rw [hw] at hw';unfold qacm qaaa nums at k1;unfold qa9s qaay qaaa nums at k2;replace hr := Lib.hid hr;replace hw' := Lib.hid hw';clear hst hw;repeat' (first | ((with_reducible refine qadg (c := .seq (.reg false qade _) _) ?_)) | (with_reducible first | refine zA ?_ | refine qabg ?_ | refine zK ?_) | ((with_reducible first | refine qaab ?_ | refine qaaz (by rw [hP]; exact mixed) ?_); (try rw [hP]); simp -implicitDefEqProofs [qafi, List.getElem?_eq_getElem hi, hle, *]) | ((with_reducible refine qaai ?_); (try simp -implicitDefEqProofs [qafi, List.getElem?_eq_getElem hi, hle, *])) | ((with_reducible refine qaap rfl (fun h => ?_) (fun h => ?_)) <;> have h' := h <;> (try simp at h') <;> (try subst h')) | ((first | refine qabe (k0 _) ?_ | refine yH (k1 _ (by simp)) ?_ | refine yH (k2 _ (by simp) (by simp)) ?_); simp -implicitDefEqProofs [qafi, List.getElem?_eq_getElem hi, hle, *]) | fail)
  constructor;refine qad8 ?_ (rest.out st' B' L' C hr.out hw'.out);exact qabd [(4, 21)] hm ⟨Co.refl _, Co.refl _, Co.refl _, Co.refl _, Co.refl _, Co.refl _, Co.refl _, Co.refl _, trivial⟩ ⟨⟨_, rfl, rfl, by rw [qaeq _ rfl]; exact CoL.refl _⟩, ⟨_, rfl, rfl⟩, ⟨_, rfl, rfl, CoL.refl _⟩, ⟨_, rfl, rfl, rfl, by rw [qabn]; exact CoLL.refl _⟩, ⟨_, rfl, rfl, CoL.refl _⟩, trivial⟩ rfl (by simp)
 by_cases hd2 : d = 2
 ·subst hd2;rcases op_drop hst he2 with ⟨C, st', B', L', k1, k2, hr, hw'⟩ | ⟨C, st', B', L', k1, k2, hr, hw'⟩
  ·rw [hw] at hw';unfold qacm qaaa nums at k1;unfold qa9s qaay qaaa nums at k2;replace hr := Lib.hid hr;replace hw' := Lib.hid hw';clear hst hw;repeat' (first | ((with_reducible refine qadg (c := .seq (.reg false qade _) _) ?_)) | (with_reducible first | refine zA ?_ | refine qabg ?_ | refine zK ?_) | ((with_reducible first | refine qaab ?_ | refine qaaz (by rw [hP]; exact mixed) ?_); (try rw [hP]); simp -implicitDefEqProofs [qafi, List.getElem?_eq_getElem hi, hle, *]) | ((with_reducible refine qaai ?_); (try simp -implicitDefEqProofs [qafi, List.getElem?_eq_getElem hi, hle, *])) | ((with_reducible refine qaap rfl (fun h => ?_) (fun h => ?_)) <;> have h' := h <;> (try simp at h') <;> (try subst h')) | ((first | refine qabe (k0 _) ?_ | refine yH (k1 _ (by simp)) ?_ | refine yH (k2 _ (by simp) (by simp)) ?_); simp -implicitDefEqProofs [qafi, List.getElem?_eq_getElem hi, hle, *]) | fail)
   constructor;refine qad8 ?_ (rest.out st' B' L' C hr.out hw'.out);exact qabd [(4, 21)] hm ⟨Co.refl _, Co.refl _, Co.refl _, Co.refl _, Co.refl _, Co.refl _, Co.refl _, Co.refl _, trivial⟩ ⟨⟨_, rfl, rfl, by rw [qaeq _ rfl]; exact CoL.refl _⟩, ⟨_, rfl, rfl⟩, ⟨_, rfl, rfl, CoL.refl _⟩, ⟨_, rfl, rfl, rfl, by rw [qabn]; exact CoLL.refl _⟩, ⟨_, rfl, rfl, CoL.refl _⟩, trivial⟩ rfl (by simp)
  ·rw [hw] at hw';unfold qacm qaaa nums at k1;unfold qa9s qaay qaaa nums at k2;replace hr := Lib.hid hr;replace hw' := Lib.hid hw';clear hst hw;repeat' (first | ((with_reducible refine qadg (c := .seq (.reg false qade _) _) ?_)) | (with_reducible first | refine zA ?_ | refine qabg ?_ | refine zK ?_) | ((with_reducible first | refine qaab ?_ | refine qaaz (by rw [hP]; exact mixed) ?_); (try rw [hP]); simp -implicitDefEqProofs [qafi, List.getElem?_eq_getElem hi, hle, *]) | ((with_reducible refine qaai ?_); (try simp -implicitDefEqProofs [qafi, List.getElem?_eq_getElem hi, hle, *])) | ((with_reducible refine qaap rfl (fun h => ?_) (fun h => ?_)) <;> have h' := h <;> (try simp at h') <;> (try subst h')) | ((first | refine qabe (k0 _) ?_ | refine yH (k1 _ (by simp)) ?_ | refine yH (k2 _ (by simp) (by simp)) ?_); simp -implicitDefEqProofs [qafi, List.getElem?_eq_getElem hi, hle, *]) | fail)
   constructor;refine qad8 ?_ (rest.out st' B' L' C hr.out hw'.out);exact qabd [(3, 52), (4, 21)] hm ⟨Co.refl _, Co.refl _, Co.refl _, Co.refl _, Co.refl _, Co.refl _, Co.refl _, Co.refl _, trivial⟩ ⟨⟨_, rfl, rfl, by rw [qaeq _ rfl]; exact CoL.refl _⟩, ⟨_, rfl, rfl⟩, ⟨_, rfl, rfl, CoL.refl _⟩, ⟨_, rfl, rfl, rfl, by rw [qabn]; exact CoLL.refl _⟩, ⟨_, rfl, rfl, CoL.refl _⟩, trivial⟩ rfl (by simp)
 by_cases hd3 : d = 3
 ·subst hd3;have k5 := fun q => yQ (hitOf_s e) q
  unfold qacc nums qaaa at k5;obtain ⟨C, st', B', L', k1, k2, hr, hw'⟩ := op_def hst e.act e.args he2.small.2.2;rw [hw] at hw';unfold qacm qacc nums at k1;unfold qa9s qaay qacc nums at k2;replace hr := Lib.hid hr;replace hw' := Lib.hid hw';clear hst hw;repeat' (first | ((with_reducible refine qadg (c := .seq (.reg false qade _) _) ?_)) | (with_reducible first | refine zA ?_ | refine qabg ?_ | refine zK ?_) | ((with_reducible first | refine qaab ?_ | refine qaaz (by rw [hP]; exact mixed) ?_); (try rw [hP]); simp -implicitDefEqProofs [qafi, List.getElem?_eq_getElem hi, hle, *]) | ((with_reducible refine qaai ?_); (try simp -implicitDefEqProofs [qafi, List.getElem?_eq_getElem hi, hle, *])) | ((with_reducible refine qaap rfl (fun h => ?_) (fun h => ?_)) <;> have h' := h <;> (try simp at h') <;> (try subst h')) | ((first | refine qabe (k0 _) ?_ | refine yH (k1 _ (by simp)) ?_ | refine yH (k2 _ (by simp) (by simp)) ?_ | refine qabe (k5 _) ?_); simp -implicitDefEqProofs [qafi, List.getElem?_eq_getElem hi, hle, *]) | fail)
  constructor;refine qad8 ?_ (rest.out st' B' L' C hr.out hw'.out);exact qabd [(4, 21)] hm ⟨Co.refl _, Co.refl _, Co.refl _, Co.refl _, Co.refl _, Co.refl _, Co.refl _, Co.refl _, trivial⟩ ⟨⟨_, rfl, rfl, by rw [qaeq _ rfl]; exact CoL.refl _⟩, ⟨_, rfl, rfl⟩, ⟨_, rfl, rfl, CoL.refl _⟩, ⟨_, rfl, rfl, rfl, by rw [qabn]; exact CoLL.refl _⟩, ⟨_, rfl, rfl, CoL.refl _⟩, trivial⟩ rfl (by simp)
 have b0 : (d == 0) = false := by simp [hd0]
 have b1 : (d == 1) = false := by simp [hd1]
 have b2 : (d == 2) = false := by simp [hd2]
 have b3 : (d == 3) = false := by simp [hd3]
 clear hd0 hd1 hd2 hd3;replace hst := Lib.hid hst;replace hw := Lib.hid hw;repeat' (first | ((with_reducible refine qadg (c := .seq (.reg false qade _) _) ?_)) | (with_reducible first | refine zA ?_ | refine qabg ?_) | ((with_reducible refine qaab ?_); (try rw [hP]); simp -implicitDefEqProofs [qafi, List.getElem?_eq_getElem hi, hle, *]) | ((with_reducible refine qaai ?_); (try simp -implicitDefEqProofs [qafi, List.getElem?_eq_getElem hi, hle, *])) | ((with_reducible refine qaap rfl (fun h => ?_) (fun h => ?_)) <;> have h' := h <;> (try simp at h') <;> (try subst h')) | (refine qabe (k0 _) ?_; simp -implicitDefEqProofs [qafi, List.getElem?_eq_getElem hi, hle, *]) | fail)
 constructor;refine qad8 ?_ (rest.out st B L 0 hst.out hw.out);exact qabd [(4, 21)] hm ⟨Co.refl _, Co.refl _, Co.refl _, Co.refl _, Co.refl _, Co.refl _, Co.refl _, Co.refl _, trivial⟩ ⟨⟨_, rfl, rfl, by rw [qaeq _ rfl]; exact CoL.refl _⟩, ⟨_, rfl, rfl⟩, ⟨_, rfl, rfl, CoL.refl _⟩, ⟨_, rfl, rfl, rfl, by rw [qabn]; exact CoLL.refl _⟩, ⟨_, rfl, rfl, CoL.refl _⟩, trivial⟩ rfl (by simp)
end
end
theorem qa0y : LayF entryLay (fun e => (∀ x ∈ e.keys, Fits .u64 x) ∧ (∀ x ∈ e.masks, Fits .u64 x) ∧ Fits .i64 e.len ∧ Fits .i64 e.prio ∧ Fits .i64 e.act ∧ ∀ x ∈ e.args, Fits .u64 x) :=
 qah6 (fun e : Entry => (e.keys, e.masks, e.len, e.prio, e.act, e.args)) (qadb (qafe (qads .u64)) (qadb (qafe (qads .u64)) (qadb (qads .i64) (qadb (qads .i64) (qadb (qads .i64) (qafe (qads .u64)))))))
theorem qa0w : LayF qal0 (fun s => FitE s.e) := fun A w x cs h => by
 have h1 := qah6 (fun s : TStep => (s.d, s.e)) (qadb (qads .i64) qa0y) A w x cs h;exact ⟨h1.2.1, h1.2.2.2.2.2.2, h1.2.2.2.1, h1.2.2.2.2.2.1⟩
theorem qa0v : LayP qal0 qajc := qag6 (fun s : TStep => (s.d, s.e)) (qacr (qacy .i64) qanx)
theorem aw_lay {A : Nat → Prop} {w : World} {ao : Option Addr} {n c : Nat} {acts : List ActD} (h : RdL qa9p A w ao n c acts) : AW acts := fun a ha => (qaq5 qbmt h a ha).1
theorem StoreDoes_law (t : TabD) (cs : Array Value) (wo : Option Addr) (wn wc : Nat) (ws : List Int) (ao : Option Addr) (an ac : Nat) (acts : List ActD) (lo : Option Addr) (ln lc : Nat) (l : List TStep) (w : World) (h : tabLay.rep NoA w t cs.toList) (hw : RdL (Lay.int .i64) NoA w wo wn wc ws) (ha : RdL qa9p NoA w ao an ac acts) (hl : RdL qal0 NoA w lo ln lc l) :
  Calls Tryz.prog 5 #[.agg cs, .slice wo wn wc, .slice ao an ac, .slice lo ln lc] w fun e w' => e = .returned (.bool true) ∧ Below w.heap.size w w' :=
 law_of (vs := [.agg cs, .slice wo wn wc, .slice ao an ac, .slice lo ln lc]) (sdoes_s t ws acts l (aw_lay ha) (qaq5 qa0w hl)) (Reps.cons (rep_lay qbmr h) (Reps.cons (qagl (qacy .i64) hw) (Reps.cons (qagl qbms ha) (Reps.cons (qagl qa0v hl) Reps.nil))))
end Go.Proofs.YtalejfkholifpaaGreat
