/-
  Texts joined: XIntC XShS XShV XShQ XShW XShX XShY XShZ XLowA XCtab XFirst XWordP XTabA XOpen XPlnA XBitsP XBitsW XBitsU XPackP XTabO XTStep XTabD XPlnB XShAb XCpln XPlnC. No condition.
-/
import Derived.IntWalk
import Derived.Lib.Hide
import Derived.Test.YteoijlmgiemffaaGreatProg
import Derived.KernelRfl
import Derived.ProofKit
import Derived.Deep.Slices
import Derived.Handy
import Derived.Test.YteoijlmgiemffaaGreatRows
import Derived.Deep.QuietTactic
import Derived.BigQuiet
import Derived.WalkSmall
import Derived.WalkSpells
import Derived.RegionTactic
import Derived.BigRegion
import Derived.Deep.RegionLaw
import Derived.Test.YteoijlmgiemffaaGreatLowerShapesK2
namespace Go.Proofs.YteoijlmgiemffaaGreat
set_option linter.all false
open Go.RowKit
theorem qa6d {α : Type} : ∀ (h : Hp) (k : Hp → α), fSp h k = k h
 | [], _ => rfl
 | p :: h, k => by
  show fSp h (fun h => k (p :: h)) = k (p :: h)
  rw [qa6d h]
theorem qa6c {α : Type} : ∀ (u : Upd) (h : Hp) (k : Hp → α), fUpd u h k = k (upds h u)
 | [], _, _ => rfl
 | (i, some o) :: u, h, k => by
  show fNat i (fun i => fO o fun o => fSp (puthR h i o) fun h => fUpd u h k) = _
  simp only [qag4, fO_eq, qa6d, qa6c u, qa5h]; rfl
 | (i, none) :: u, h, k => by
  show fSp (delhR h i) (fun h => fUpd u h k) = _
  simp only [qa6d, qa6c u, qa6g]; rfl
theorem qbj1 {α : Type} (cr : List Nat) (s : SSt) (k : SSt → α) : fKeep cr s k = k (s.keep cr) := by
 unfold fKeep
 have : ∀ (cr : List Nat) (k : Sl → α), (List.rec (fun k => k []) (fun t _ ih k => getK s.sl t fun v => ih fun sl => k ((t, v) :: sl)) cr : (Sl → α) → α) k = k (cr.map fun t => (t, gets s.sl t)) := by
  intro cr
  induction cr with
  | nil => intro k; rfl
  | cons t cr ih =>
   intro k
   show getK s.sl t (fun v => (List.rec (fun k => k []) (fun t _ ih k => getK s.sl t fun v => ih fun sl => k ((t, v) :: sl)) cr : (Sl → α) → α) fun sl => k ((t, v) :: sl)) = _
   rw [qbh5, ih]
   rfl
 rw [this]
 rfl
theorem qaf6 (hp : Hp) : ∀ (f : Nat) (l : List Nat) (acc : Hp), SubH hp acc → SubH hp (qbi2 hp f l acc)
 | 0, l, acc, h => h
 | f + 1, [], acc, h => h
 | f + 1, i :: l, acc, h => by
  show SubH hp (Option.rec (Option.rec (qbi2 hp f l acc) (fun o => qbi2 hp f (nmO o ++ l) ((i, o) :: acc)) (qakt hp i)) (fun _ => qbi2 hp f l acc) (qakt acc i))
  cases qakt acc i with
  | some o => exact qaf6 hp f l acc h
  | none =>
   cases ho : qakt hp i with
   | some o => exact qaf6 hp f _ _ ⟨by rw [← qagn]; exact ho, h⟩
   | none => exact qaf6 hp f l acc h
theorem eqI_ok {a b : Int} (h : eqI a b = true) : a = b := by
 cases a <;> cases b <;> simp_all [eqI]
theorem qak0 {f : SV → SV → Bool} (hf : ∀ x y, f x y = true → x = y) : ∀ {l m : List SV}, eqV.eqVs f l m = true → l = m
 | [], [], _ => rfl
 | x :: l, y :: m, h => by
  rw [eqV.eqVs, Bool.and_eq_true] at h
  rw [hf _ _ h.1, qak0 hf h.2]
 | [], _ :: _, h => by simp [eqV.eqVs] at h
 | _ :: _, [], h => by simp [eqV.eqVs] at h
theorem qaj5 {f : SV → SV → Bool} (hf : ∀ x y, f x y = true → x = y) : ∀ {l m : List (List SV)}, eqV.eqVss f l m = true → l = m
 | [], [], _ => rfl
 | x :: l, y :: m, h => by
  rw [eqV.eqVss, Bool.and_eq_true] at h
  rw [qak0 hf h.1, qaj5 hf h.2]
 | [], _ :: _, h => by simp [eqV.eqVss] at h
 | _ :: _, [], h => by simp [eqV.eqVss] at h
theorem qan5 : ∀ (n : Nat) (x y : SV), eqV n x y = true → x = y
 | 0, x, y, h => by simp [eqV] at h
 | n + 1, x, y, h => by
  have ih := qan5 n
  unfold eqV at h
  split at h
  all_goals first | rfl | (cases h; done) | skip
  all_goals try simp only [Bool.and_eq_true, beq_iff_eq, decide_eq_true_eq, Nat.beq_eq] at h
  ·rw [h]
  ·rw [h.1, eqI_ok h.2]
  ·rw [h.1, h.2]
  ·rw [h.1, h.2]
  ·rw [h.1.1.1, h.1.1.2, h.1.2, h.2]
  ·rw [qak0 ih h]
  ·rw [qak0 ih h]
  ·rw [h.1, qaj5 ih h.2]
theorem eqO_ok {x y : SObj} (h : eqO x y = true) : x = y := by
 unfold eqO at h
 split at h
 ·simp only [Bool.and_eq_true, Nat.beq_eq] at h
  rw [h.1, qak0 (qan5 9) h.2]
 ·simp only [Bool.and_eq_true, Nat.beq_eq] at h
  rw [h.1.1, h.1.2, qaj5 (qan5 9) h.2]
 ·cases h
theorem qa44 {h1 h2 : Hp} : ∀ (l : Hp) (id : Nat), id ∈ qbla h2 h1 l → geth h2 id = geth h1 id
 | [], id, h => by cases h
 | p :: l, id, h => by
  have ih := qa44 (h1 := h1) (h2 := h2) l id
  have h0 : id ∈ (Option.rec (qbla h2 h1 l) (fun o => Option.rec (qbla h2 h1 l) (fun o' => Bool.rec (qbla h2 h1 l) (p.1 :: qbla h2 h1 l) (eqO o o')) (qakt h2 p.1)) (qakt h1 p.1) : List Nat) := h
  cases h3 : qakt h1 p.1 with
  | none => rw [h3] at h0; exact ih h0
  | some o =>
   rw [h3] at h0
   cases h4 : qakt h2 p.1 with
   | none => rw [h4] at h0; exact ih h0
   | some o' =>
    rw [h4] at h0
    cases h5 : eqO o o' with
    | false => simp only [h5] at h0; exact ih h0
    | true =>
     simp only [h5] at h0
     rcases List.mem_cons.1 h0 with rfl | h0
     ·rw [← qagn, ← qagn, h3, h4, eqO_ok h5]
     ·exact ih h0
theorem same_ok {h1 h2 : Hp} : ∀ id ∈ same h2 h1, geth h2 id = geth h1 id := fun id h => qa44 h1 id h
theorem qa5q {β : Type} {bef : β → Nat} {cl : β → β → Bool} {b : β} : ∀ (l : List β) (n k : Nat), qbhx bef cl b l n k = true → ∀ (i : Nat) a, i < n → l[i]? = some a → cl a b = true → (bef b).testBit (k + i) = true
 | [], n, k, _, i, a, _, ha, _ => by simp at ha
 | x :: l, 0, k, _, i, a, hi, _, _ => by omega
 | x :: l, n + 1, k, h, i, a, hi, ha, hc => by
  have h2 : (Bool.rec (Bool.rec (qbhx bef cl b l n (k + 1)) false (cl x b)) (qbhx bef cl b l n (k + 1)) (Nat.testBit (bef b) k) : Bool) = true := h
  have hrest : qbhx bef cl b l n (k + 1) = true := by
   cases ht : Nat.testBit (bef b) k with
   | true => rw [ht] at h2; exact h2
   | false =>
    rw [ht] at h2
    cases hx : cl x b with
    | true => rw [hx] at h2; cases h2
    | false => rw [hx] at h2; exact h2
  cases i with
  | zero =>
   simp only [List.getElem?_cons_zero, Option.some.injEq] at ha
   subst ha
   cases ht : Nat.testBit (bef b) k with
   | true => simpa using ht
   | false => rw [ht] at h2; rw [hc] at h2; cases h2
  | succ i =>
   have := qa5q l n (k + 1) hrest i a (by omega) (by simpa using ha) hc
   rw [show k + (i + 1) = k + 1 + i by omega]; exact this
theorem qasw {β : Type} {bef : β → Nat} {cl : β → β → Bool} {all : List β} : ∀ (l : List β) (k : Nat), qa5r bef cl all l k = true → ∀ (j : Nat) b, l[j]? = some b → qbhx bef cl b all (k + j) 0 = true
 | [], k, _, j, b, hb => by simp at hb
 | x :: l, k, h, j, b, hb => by
  have h2 : (Bool.rec false (qa5r bef cl all l (k + 1)) (qbhx bef cl x all k 0) : Bool) = true := h
  cases hx : qbhx bef cl x all k 0 with
  | false => rw [hx] at h2; cases h2
  | true =>
   rw [hx] at h2
   cases j with
   | zero =>
    simp only [List.getElem?_cons_zero, Option.some.injEq] at hb
    subst hb; exact hx
   | succ j =>
    have := qasw l (k + 1) h2 j b (by simpa using hb)
    rw [show k + (j + 1) = k + 1 + j by omega]; exact this
theorem qbhv {β : Type} {bef : β → Nat} {cl : β → β → Bool} {l : List β} (h : qa5r bef cl l l 0 = true) {i j : Nat} {a b : β} (hij : i < j) (ha : l[i]? = some a) (hb : l[j]? = some b) (hc : cl a b = true) : (bef b).testBit i = true := by
 have h1 := qasw l 0 h j b hb
 have h2 := qa5q l _ 0 h1 i a (by omega) ha hc
 rwa [Nat.zero_add] at h2
theorem qbew {ops : List SOper} {tr : List Tch} (h1 : okS ops = true) (h2 : okD (ops.zip tr) = true) : qans (ops.zip tr) = true := by
 unfold qans
 refine List.all_eq_true.2 fun j hj => List.all_eq_true.2 fun i hi => ?_
 rw [List.mem_range] at hj hi
 have ha := List.getElem?_eq_getElem (l := ops.zip tr) (show i < (ops.zip tr).length by omega)
 have hb := List.getElem?_eq_getElem (l := ops.zip tr) hj
 rw [ha, hb]
 simp only
 generalize (ops.zip tr)[i] = a at ha
 generalize (ops.zip tr)[j] = b at hb
 cases hc : qbj8 a b with
 | false => rfl
 | true =>
  have he : qbj8 a b = (qbj6 a.1 b.1 || qbj7 a b) := by unfold qbj8 qbj6 qbj7; simp only [Bool.or_assoc] <;> rfl
  rw [he, Bool.or_eq_true] at hc
  have : b.1.bef.testBit i = true := by
   rcases hc with hc | hc
   ·exact qbhv h1 hi (List.getElem?_zip_eq_some.1 ha).1 (List.getElem?_zip_eq_some.1 hb).1 hc
   ·exact qbhv h2 hi ha hb hc
  rw [this]; rfl
theorem ltB_ok {m : Nat} {x : SV} (h : ltB m x = true) : renB (fun i => if i < m then i else m) x = x := by
 cases x <;> simp_all [ltB, renB]
theorem ltA_ok {m : Nat} {x : SV} (h : ltA m x = true) : renA (fun i => if i < m then i else m) x = x := by
 cases x <;> simp_all [ltA, renA, ltB, renB]
 rename_i cs
 exact (List.map_congr_left fun x hx => ltB_ok (h x hx)).trans (List.map_id' _)
theorem lt0_ok {m : Nat} {x : SV} (h : lt0 m x = true) : ren0 (fun i => if i < m then i else m) x = x := by
 cases x
 case ifc t x => simp only [lt0] at h; simp only [ren0, ltA_ok h]
 case fn f a b =>
  cases a
  ·cases b
   ·rfl
   ·simp [lt0, ltB] at h
  ·simp [lt0, ltB] at h
 all_goals simp_all [lt0, ltB, ren0]
theorem qa5x {m : Nat} {cs : List SV} (h : cs.all (lt0 m) = true) : cs.map (ren0 (fun i => if i < m then i else m)) = cs := by
 rw [List.map_congr_left fun x hx => lt0_ok (List.all_eq_true.1 h x hx), List.map_id']
theorem lt1_ok {m : Nat} {x : SV} (h : lt1 m x = true) : ren1 (fun i => if i < m then i else m) x = x := by
 cases x
 case agg cs => simp only [lt1] at h; simp only [ren1, qa5x h]
 case fn f a b => simp only [lt1, Bool.and_eq_true] at h; simp only [ren1, qa5x h.1, qa5x h.2]
 all_goals (simp only [lt1] at h; simp only [ren1]; exact lt0_ok h)
theorem qbhz {m : Nat} {cs : List SV} (h : cs.all (lt1 m) = true) : cs.map (ren1 (fun i => if i < m then i else m)) = cs := by
 rw [List.map_congr_left fun x hx => lt1_ok (List.all_eq_true.1 h x hx), List.map_id']
theorem lt2_ok {m : Nat} {x : SV} (h : lt2 m x = true) : ltV m x := by
 unfold ltV
 cases x
 case agg cs => simp only [lt2] at h; simp only [Go.Proofs.YteoijlmgiemffaaGreat.ren, qbhz h]
 case tup cs => simp only [lt2] at h; simp only [Go.Proofs.YteoijlmgiemffaaGreat.ren, qbhz h]
 all_goals (simp only [lt2] at h; simp only [Go.Proofs.YteoijlmgiemffaaGreat.ren]; exact lt1_ok h)
theorem qas0 {m : Nat} : ∀ {cs : List SV}, cs.all (lt2 m) = true → LtL m cs
 | [], _ => trivial
 | x :: xs, h => by
  rw [List.all_cons, Bool.and_eq_true] at h
  exact ⟨lt2_ok h.1, qas0 h.2⟩
theorem ltO_ok {m : Nat} {o : SObj} (h : ltO m o = true) : LtO m o := by
 cases o with
 | cells t cs => exact (qas0 (m := m) h).map
 | row e z es =>
  have : ∀ x ∈ es, x.map (Go.Proofs.YteoijlmgiemffaaGreat.ren (fun i => if i < m then i else m)) = x := fun x hx => (qas0 (m := m) (List.all_eq_true.1 h x hx)).map
  show es.map _ = es
  rw [List.map_congr_left this, List.map_id']
 | abs I => trivial
theorem qbhy {m : Nat} : ∀ {h : Hp}, ltHp m h = true → LtH m h
 | [], _ => trivial
 | (i, o) :: r, h => by
  unfold ltHp at h
  rw [List.all_cons, Bool.and_eq_true, Bool.and_eq_true] at h
  exact ⟨by simpa using h.1.1, ltO_ok h.1.2, qbhy h.2⟩
theorem qa4r : ∀ {h : Hp}, uniqB h = true → Uniq h
 | [], _ => trivial
 | (i, o) :: r, h => by
  rw [uniqB, Bool.and_eq_true] at h
  refine ⟨?_, qa4r h.2⟩
  have h1 := h.1
  split at h1
  ·rename_i h3; rw [← qagn]; exact h3
  ·cases h1
theorem qad4 {P : Program} {N : Nat} : ∀ {b : Code} {c : SCode}, comp P N b = some c → c.erase = c
 | .skip, c, h => by simp only [comp, Option.some.injEq] at h; subst h; rfl
 | .region id ops d, c, h => by obtain ⟨l, rfl, _⟩ := qacy h; rfl
 | .seq a b, c, h => by
  simp only [comp, Option.bind_eq_bind, Option.bind_eq_some_iff, Option.some.injEq] at h
  obtain ⟨x, h1, y, h2, rfl⟩ := h
  rw [SCode.erase, qad4 h1, qad4 h2]
 | .cond o a b, c, h => by
  simp only [comp, Option.bind_eq_bind, Option.bind_eq_some_iff, Option.some.injEq] at h
  obtain ⟨z, h0, x, h1, y, h2, rfl⟩ := h
  rw [SCode.erase, qad4 h1, qad4 h2]
 | .block id a, c, h => by
  simp only [comp, Option.bind_eq_bind, Option.bind_eq_some_iff, Option.some.injEq] at h
  obtain ⟨x, h1, rfl⟩ := h
  rw [SCode.erase, qad4 h1]
 | .loop a, c, h => by
  simp only [comp, Option.bind_eq_bind, Option.bind_eq_some_iff, Option.some.injEq] at h
  obtain ⟨x, h1, rfl⟩ := h
  rw [SCode.erase, qad4 h1]
 | .exit id, c, h => by simp only [comp, Option.some.injEq] at h; subst h; rfl
 | .ret, c, h => by simp only [comp, Option.some.injEq] at h; subst h; rfl
 | .label _, c, h => by simp only [comp, Option.some.injEq] at h; subst h; rfl
 | .rangeFunc .., c, h => by simp [comp] at h
 | .scope _, c, h => by simp [comp] at h
 | .goto _, c, h => by simp [comp] at h
 | .refuse _, c, h => by simp [comp] at h
def Good (P : Program) : Tsk → Ans → Prop
 | .code c s, .st e s' => ∀ (X : Cx) (Q : SExit → SSt → Prop), X.P = P → Q e s' → SWp X c Q s
 | .call g as_ h nx, .val r h2 nx' => nx < nx' ∧ Uniq h2 ∧ SCalls P g as_ h nx r h2 (nx' - nx)
 | _, _ => False
theorem qbfd (h : Hp) : qakt h = geth h := funext fun t => qagn t h
theorem qbem {v : SV} {ih : Tsk → Option Ans} {args : List SV} {dst : Option Nat} {s : SSt} {K : SSt → Tch → Option Ans} {a : Ans} (h : runCl v ih args dst s K = some a) : ∃ g first cap, v = .fn (.func g) first cap := by
 cases v
 case fn f first cap =>
  cases f
  case func g => exact ⟨g, first, cap, rfl⟩
  all_goals cases h
 all_goals cases h
theorem qbit {v : SV} {ih : Tsk → Option Ans} {want : Bool} {o : SOper} {s : SSt} {K : SSt → Tch → Option Ans} {a : Ans} (h : runG v ih want o s K = some a) : (∃ b, v = .bool b) ∨ v = .tup [] := by
 cases v
 case bool b => exact .inl ⟨b, rfl⟩
 case tup cs =>
  cases cs
  ·exact .inr rfl
  ·cases h
 all_goals cases h
theorem qbhi {P : Program} {ih : Tsk → Option Ans} (hih : ∀ t a, ih t = some a → Good P t a) {o : SOper} {s : SSt} {K : SSt → Tch → Option Ans} {a : Ans} (h : run1 ih o s K = some a) : ∃ s' x, K s' x = some a ∧ ∀ K' : SSt → Tch → Prop, K' s' x → SOp1 P o s K' := by
 unfold run1 at h
 split at h
 ·rename_i f args hcal
  simp only [qauc] at h
  ·obtain ⟨g, first, cap, hf⟩ := qbem h
   rw [hf] at h
   simp only [runCl, qafs f2_eq, qa6d] at h
   split at h
   ·rename_i r h2 nx hr
    obtain ⟨g1, g2, g3⟩ : _ ∧ _ ∧ _ := hih _ _ hr
    refine ⟨_, _, h, fun K' hK => ?_⟩
    unfold SOp1
    rw [hcal]
    simp only [hf]
    refine ⟨_, r, h2, same h2 _, nx - s.nx, g3, qaf6 _ _ _ _ trivial, g2, same_ok, ?_⟩
    rw [show s.nx + (nx - s.nx) = nx by omega]
    exact hK
   ·cases h
 ·rename_i hcal
  unfold runOp at h
  simp only [qauc, runF_eq, qbfd] at h
  split at h
  ·rename_i v u nx hr
   rw [f2_eq, qa6c, qag4] at h
   refine ⟨_, _, h, fun K' hK => ?_⟩
   unfold SOp1
   rw [hcal]
   simp only [hr]
   exact hK
  ·cases h
theorem runO_ok {P : Program} {ih : Tsk → Option Ans} (hih : ∀ t a, ih t = some a → Good P t a) {o : SOper} {os : List SOper} {s : SSt} {tr : List Tch} {K : SSt → Tch → Option Ans} {a : Ans} (h : runO ih o s K = some a) : ∃ s' x, K s' x = some a ∧ ∀ Q : SSt → List Tch → Prop, SOps P os s' (x :: tr) Q → SOps P (o :: os) s tr Q := by
 unfold runO at h
 split at h
 ·rename_i hg
  obtain ⟨s1, x, h1, h2⟩ := qbhi hih h
  refine ⟨s1, x, h1, fun Q hQ => ?_⟩
  rw [SOps, hg]
  exact h2 _ hQ
 ·rename_i t want hg
  rw [qan0] at h
  rcases qbit h with ⟨b, hb⟩ | hb
  ·rw [hb] at h
   simp only [runG] at h
   split at h
   ·rename_i hbw
    obtain ⟨s1, x, h1, h2⟩ := qbhi hih h
    refine ⟨s1, x, h1, fun Q hQ => ?_⟩
    rw [SOps, hg]
    simp only [hb]
    have e : b = want := by simpa using hbw
    exact ⟨fun _ => h2 _ hQ, fun hne => absurd e hne⟩
   ·rename_i hbw
    refine ⟨_, _, h, fun Q hQ => ?_⟩
    rw [SOps, hg]
    simp only [hb]
    have e : ¬ b = want := by simpa using hbw
    exact ⟨fun he => absurd he e, fun _ => hQ⟩
  ·rw [hb] at h
   refine ⟨_, _, h, fun Q hQ => ?_⟩
   rw [SOps, hg]
   simp only [hb]
   exact hQ
theorem qaso {P : Program} {ih : Tsk → Option Ans} (hih : ∀ t a, ih t = some a → Good P t a) : ∀ {ops : List SOper} {s : SSt} {tr : List Tch} {K : SSt → List Tch → Option Ans} {a : Ans}, qbis ih ops s tr K = some a → ∃ s' tr', K s' tr' = some a ∧ ∀ Q : SSt → List Tch → Prop, Q s' tr' → SOps P ops s tr Q
 | [], s, tr, K, a, h => ⟨s, tr, h, fun Q hQ => hQ⟩
 | o :: os, s, tr, K, a, h => by
  have h0 : runO ih o s (fun s' x => qbis ih os s' (x :: tr) K) = some a := h
  obtain ⟨s1, x, h1, h2⟩ := runO_ok (os := os) (tr := tr) hih h0
  obtain ⟨s2, tr2, h3, h4⟩ := qaso hih h1
  exact ⟨s2, tr2, h3, fun Q hQ => h2 Q (h4 Q hQ)⟩
theorem qaga {P : Program} {c : SCode} {s : SSt} {a : Ans} (h : Good P (.code c s) a) : ∃ e s', a = .st e s' := by
 cases a with
 | st e s' => exact ⟨e, s', rfl⟩
 | val r h2 nx => exact h.elim
theorem qbir {P : Program} {H : List (Nat × List (List Nat))} {kn : FuncId → List SV → Hp → Nat → Option Ans} {a : SCode} {n : Nat} (ih : ∀ m, m ≤ n → ∀ t r, run P H kn m t = some r → Good P t r) {s s' : SSt} {e : SExit} (h : run P H kn (n + 1) (.code (.loop a) s) = some (.st e s')) {X : Cx} {Q : SExit → SSt → Prop} (hP : X.P = P) (hQ : Q e s') : SWp X (.loop a) Q s := by
 refine qank (fun t k => k ≤ n + 1 ∧ run P H kn k (.code (.loop a) t) = some (.st e s')) (n := n + 1) (Wk.refl X s) ⟨Nat.le_refl _, h⟩ ?_
 rintro t k ⟨hk, hr⟩
 cases k with
 | zero => cases hr
 | succ k =>
  have hr2 : step P H kn (run P H kn k) (.code (.loop a) t) = some (.st e s') := hr
  simp only [step, qbd8] at hr2
  cases hx : run P H kn k (.code a t) with
  | none => rw [hx] at hr2; cases hr2
  | some y =>
   have hg := ih k (by omega) _ _ hx
   obtain ⟨e1, s1, rfl⟩ := qaga hg
   rw [hx] at hr2
   cases e1 with
   | normal => exact hg X _ hP ⟨s1, k, Wk.refl X s1, ⟨by omega, hr2⟩, by omega⟩
   | exit i => simp only [Option.some.injEq, Ans.st.injEq] at hr2; obtain ⟨rfl, rfl⟩ := hr2; exact hg X _ hP hQ
   | ret => simp only [Option.some.injEq, Ans.st.injEq] at hr2; obtain ⟨rfl, rfl⟩ := hr2; exact hg X _ hP hQ
theorem qaf0 {α : Type} : ∀ (c : SCode) (h : List (List Nat)) (k : SCode → List (List Nat) → α), ∃ c' h', annot c h k = k c' h' ∧ c'.erase = c.erase
 | .skip, h, k => ⟨_, _, rfl, rfl⟩
 | .exit i, h, k => ⟨_, _, rfl, rfl⟩
 | .ret, h, k => ⟨_, _, rfl, rfl⟩
 | .reg d ops l, [], k => ⟨_, _, rfl, rfl⟩
 | .reg d ops l, x :: t, k => ⟨_, _, rfl, rfl⟩
 | .seq a b, h, k => by
  obtain ⟨a', h1, e1, e2⟩ := qaf0 a h fun a h => annot b h fun b h => k (.seq a b) h
  obtain ⟨b', h2, e3, e4⟩ := qaf0 b h1 fun b h => k (.seq a' b) h
  exact ⟨.seq a' b', h2, e1.trans e3, by rw [SCode.erase, SCode.erase, e2, e4]⟩
 | .cond x a b, h, k => by
  obtain ⟨a', h1, e1, e2⟩ := qaf0 a h fun a h => annot b h fun b h => k (.cond x a b) h
  obtain ⟨b', h2, e3, e4⟩ := qaf0 b h1 fun b h => k (.cond x a' b) h
  exact ⟨.cond x a' b', h2, e1.trans e3, by rw [SCode.erase, SCode.erase, e2, e4]⟩
 | .block i a, h, k => by
  obtain ⟨a', h1, e1, e2⟩ := qaf0 a h fun a h => k (.block i a) h
  exact ⟨_, h1, e1, by rw [SCode.erase, SCode.erase, e2]⟩
 | .loop a, h, k => by
  obtain ⟨a', h1, e1, e2⟩ := qaf0 a h fun a h => k (.loop a) h
  exact ⟨_, h1, e1, by rw [SCode.erase, SCode.erase, e2]⟩
theorem qbjy {P : Program} {H : List (Nat × List (List Nat))} {g : FuncId} {fd : FD} (h : fdata P H g = some fd) : ∃ fn b, P.funcs[g]? = some fn ∧ fn.body = some b ∧ (fn.name == "runtime.NumGoroutine") = false ∧ fn.ntmps = fd.N ∧ comp P fd.N b = some fd.c.erase ∧ fn.results.toList = fd.res := by
 unfold fdata at h
 split at h
 ·rename_i fn hf
  split at h
  ·rename_i b hb
   split at h
   ·cases h
   ·rename_i hn
    split at h
    ·rename_i c hc
     obtain ⟨c', h', e1, e2⟩ := qaf0 c (look H g) fun c _ => some (FD.mk fn.ntmps c fn.results.toList)
     rw [e1] at h
     cases h
     exact ⟨fn, b, hf, hb, hn, rfl, by rw [e2, qad4 hc]; exact hc, rfl⟩
    ·cases h
  ·cases h
 ·cases h
theorem qbec {P : Program} {H : List (Nat × List (List Nat))} {kn : FuncId → List SV → Hp → Nat → Option Ans} (hmx : P.follows .mixedOrders = true) {n : Nat} (ih : ∀ m, m ≤ n → ∀ t r, run P H kn m t = some r → Good P t r) {c : SCode} {s : SSt} {r : Ans} (h : run P H kn (n + 1) (.code c s) = some r) : Good P (.code c s) r := by
 have h2 : step P H kn (run P H kn n) (.code c s) = some r := h
 have ih0 := ih n (Nat.le_refl n)
 cases c with
 | skip => simp only [step, qbd8, Option.some.injEq] at h2; subst h2; exact fun X Q hP hQ => qaaf hQ
 | exit i => simp only [step, qbd8, Option.some.injEq] at h2; subst h2; exact fun X Q hP hQ => qaak hQ
 | ret => simp only [step, qbd8, Option.some.injEq] at h2; subst h2; exact fun X Q hP hQ => qaam hQ
 | reg d ops live =>
  simp only [step, qbd8] at h2
  obtain ⟨s', tr, h3, h4⟩ := qaso ih0 h2
  split at h3
  ·rename_i hd
   rw [qbj1] at h3
   cases h3
   intro X Q hP hQ
   subst hP
   cases d with
   | false => exact qaac (h4 _ hQ)
   | true =>
    simp only [Bool.not_true, Bool.false_or, Bool.and_eq_true] at hd
    exact qaaz hmx (h4 _ ⟨qbew hd.1 hd.2, hQ⟩)
  ·cases h3
 | seq a b =>
  simp only [step, qbd8, qauc] at h2
  cases hx : run P H kn n (.code a s) with
  | none => rw [hx] at h2; cases h2
  | some y =>
   have hg := ih0 _ _ hx
   obtain ⟨e1, s1, rfl⟩ := qaga hg
   rw [hx] at h2
   cases e1 with
   | normal =>
    have hg2 := ih0 _ _ h2
    obtain ⟨e, s', rfl⟩ := qaga hg2
    exact fun X Q hP hQ => qad8 (hg X _ hP (hg2 X Q hP hQ))
   | exit i => cases h2; exact fun X Q hP hQ => qad8 (hg X _ hP hQ)
   | ret => cases h2; exact fun X Q hP hQ => qad8 (hg X _ hP hQ)
 | cond x a b =>
  simp only [step, qbd8, qauc] at h2
  split at h2
  ·rename_i hb
   have hg := ih0 _ _ h2
   obtain ⟨e, s', rfl⟩ := qaga hg
   exact fun X Q hP hQ => qaaa hb (fun _ => hg X Q hP hQ) (fun h => by cases h)
  ·rename_i hb
   have hg := ih0 _ _ h2
   obtain ⟨e, s', rfl⟩ := qaga hg
   exact fun X Q hP hQ => qaaa hb (fun h => by cases h) (fun _ => hg X Q hP hQ)
  ·cases h2
 | block id a =>
  simp only [step, qbd8, qauc] at h2
  cases hx : run P H kn n (.code a s) with
  | none => rw [hx] at h2; cases h2
  | some y =>
   have hg := ih0 _ _ hx
   obtain ⟨e1, s1, rfl⟩ := qaga hg
   rw [hx] at h2
   cases e1 with
   | normal => cases h2; exact fun X Q hP hQ => qaal (hg X _ hP hQ)
   | exit i =>
    simp only at h2
    split at h2
    ·rename_i he
     cases h2
     intro X Q hP hQ
     refine qaal (hg X _ hP ?_)
     show if i = id then Q .normal s1 else Q (.exit i) s1
     rw [if_pos (Nat.eq_of_beq_eq_true he)]; exact hQ
    ·rename_i he
     cases h2
     intro X Q hP hQ
     refine qaal (hg X _ hP ?_)
     show if i = id then Q .normal s1 else Q (.exit i) s1
     rw [if_neg (Nat.ne_of_beq_eq_false he)]; exact hQ
   | ret => cases h2; exact fun X Q hP hQ => qaal (hg X _ hP hQ)
 | loop a =>
  have : ∃ e s', r = .st e s' := by
   simp only [step, qbd8, qauc] at h2
   cases hx : run P H kn n (.code a s) with
   | none => rw [hx] at h2; cases h2
   | some y =>
    obtain ⟨e1, s1, rfl⟩ := qaga (ih0 _ _ hx)
    rw [hx] at h2
    cases e1 with
    | normal => exact qaga (ih0 _ _ h2)
    | exit i => cases h2; exact ⟨_, _, rfl⟩
    | ret => cases h2; exact ⟨_, _, rfl⟩
  obtain ⟨e, s', rfl⟩ := this
  exact fun X Q hP hQ => qbir ih h hP hQ
theorem qbed {P : Program} {H : List (Nat × List (List Nat))} {kn : FuncId → List SV → Hp → Nat → Option Ans} (hkn : ∀ g as_ h nx a, kn g as_ h nx = some a → Good P (.call g as_ h nx) a) {n : Nat} (ih : ∀ t r, run P H kn n t = some r → Good P t r) {g : FuncId} {as_ : List SV} {hp : Hp} {nx : Nat} {a : Ans} (h : run P H kn (n + 1) (.call g as_ hp nx) = some a) : Good P (.call g as_ hp nx) a := by
 have h2 : step P H kn (run P H kn n) (.call g as_ hp nx) = some a := h
 change (match kn g as_ hp nx with | some a => some a | none => stepF P H (run P H kn n) g as_ hp nx) = some a at h2
 split at h2
 ·rename_i a' hk
  cases h2
  exact hkn _ _ _ _ _ hk
 unfold stepF at h2
 split at h2
 ·rename_i fd hfd
  obtain ⟨fn, b, hf, hb, hn, hN, hc, hres⟩ := qbjy hfd
  split at h2
  ·rename_i hchk
   simp only [Bool.and_eq_true, Nat.ble_eq] at hchk
   obtain ⟨⟨hl, hla⟩, hlh⟩ := hchk
   have fin : ∀ e s', run P H kn n (.code fd.c ⟨argS 0 as_, hp, nx⟩) = some (.st e s') → (∀ i, e ≠ .exit i) → leave P fd.res hp nx s' = some a → Good P (.call g as_ hp nx) a := by
    intro e s' hx hne h3
    unfold leave at h3
    have hg := ih _ _ hx
    split at h3
    ·rename_i r hr
     rw [f2_eq, qa6d] at h3
     split at h3
     ·rename_i hu
      simp only [Bool.and_eq_true, Nat.ble_eq] at hu
      rw [qag4] at h3
      cases h3
      refine ⟨by omega, qa4r hu.1, ?_⟩
      refine qakl (s'.nx + 1 - nx) (by omega) hf hb hN hn (c := fd.c) hc hl (qas0 hla) (qbhy hlh) fun X hP hYteoijlmgiemffaaGreat hm => ?_
      refine hg X _ hP ?_
      have q : ∃ s'', Wk X s' s'' ∧ qakm X.P s'' fn.results.toList = some r ∧ SubH s''.hp (qbi2 s'.hp 100000 (nm2 r ++ idsH hp) []) ∧ s''.nx ≤ nx + (s'.nx + 1 - nx) :=
       ⟨s', Wk.refl X s', by rw [hP, hres]; exact hr, qaf6 _ _ _ _ trivial, by omega⟩
      cases e with
      | normal => exact q
      | exit i => exact absurd rfl (hne i)
      | ret => exact q
     ·cases h3
    ·cases h3
   cases hx : run P H kn n (.code fd.c ⟨argS 0 as_, hp, nx⟩) with
   | none => rw [hx] at h2; cases h2
   | some y =>
    obtain ⟨e, s', rfl⟩ := qaga (ih _ _ hx)
    rw [hx] at h2
    cases e with
    | exit i => cases h2
    | normal => exact fin _ _ hx (fun i h => by cases h) h2
    | ret => exact fin _ _ hx (fun i h => by cases h) h2
  ·cases h2
 ·cases h2
theorem qa48 {P : Program} {H : List (Nat × List (List Nat))} {kn : FuncId → List SV → Hp → Nat → Option Ans} (hmx : P.follows .mixedOrders = true) (hkn : ∀ g as_ h nx a, kn g as_ h nx = some a → Good P (.call g as_ h nx) a) (n : Nat) : ∀ t a, run P H kn n t = some a → Good P t a := by
 induction n using Nat.strongRecOn with
 | ind n ih =>
  intro t a h
  cases n with
  | zero => cases h
  | succ n =>
   cases t with
   | code c s => exact qbec hmx (fun m hm => ih m (by omega)) h
   | call g as_ hp nx => exact qbed hkn (ih n (by omega)) h
noncomputable def runB (P : Program) (H : List (Nat × List (List Nat))) (kn : FuncId → List SV → Hp → Nat → Option Ans) (n : Nat) (g : FuncId) : Bool := match run P H kn n (.call g [] [] 0) with
 | some (.val (.bool true) [] _) => true
 | _ => false
theorem qaip {P : Program} {g : FuncId} {as_ : List SV} {r : SV} {m : Nat} (h3 : SCalls P g as_ [] 0 r [] m) (ha : ∀ σ, as_.map (Go.Proofs.YteoijlmgiemffaaGreat.ren σ) = as_) (hr : ∀ σ, Go.Proofs.YteoijlmgiemffaaGreat.ren σ r = r) (q : Nat) : SCalls P g as_ [] q r [] := by
 refine ⟨h3.1, fun O ρ fp w vs hok hargs hfr => ?_⟩
 have ha' : Reps w (fun k => O k ∨ Live [] fp k) noPl as_ vs := by
  have h1 : Reps w (fun k => O k ∨ Live [] fp k) ρ (as_.map (Go.Proofs.YteoijlmgiemffaaGreat.ren fun _ => q)) vs := by rw [ha]; exact hargs
  have h2 := qae3 h1
  have e : (fun id => ρ ((fun _ => q) id)) = noPl := by funext id; exact hfr q (Nat.le_refl _) (by omega)
  rw [e] at h2; exact h2
 have hE : HeapOk O noPl fp [] w := ⟨fun id o ho => by simp [geth] at ho, fun id id' o o' _ ho => by simp [geth] at ho, fun k ⟨id, o, ho, _⟩ => by simp [geth] at ho, hok.O_lt⟩
 refine (h3.2 O noPl fp w vs hE ha' (fun _ _ _ => rfl)).mono ?_
 rintro e w' ⟨v, ρ', fp', rfl, q1, q2, q3, q4, q5, q6⟩
 have hfr8 : ρ' m = none := by
  cases e : ρ' m with
  | none => rfl
  | some p =>
   rcases q5 m (by rw [e]; simp) with h3 | h3
   ·exact absurd rfl h3
   ·omega
 have hv : RepV w' (fun k => O k ∨ Live [] fp' k) noPl r v := by
  have h1 : RepV w' (fun k => O k ∨ Live [] fp' k) ρ' (Go.Proofs.YteoijlmgiemffaaGreat.ren (fun _ => m) r) v := by rw [hr]; exact q2
  have h2 := qann h1
  have e : (fun id => ρ' ((fun _ => m) id)) = noPl := by funext id; exact hfr8
  rw [e] at h2; exact h2
 refine ⟨v, ρ, fp, rfl, ⟨fun id o ho => by simp [geth] at ho, fun id id' o o' _ ho => by simp [geth] at ho, fun k ⟨id, o, ho, _⟩ => by simp [geth] at ho, q1.O_lt⟩, ?_, q3, fun _ _ h => h, fun _ h => .inl h, fun id o ho => by simp [geth] at ho⟩
 refine hv.lift.weaken fun k hk _ => hk.imp (fun h => h) fun ⟨id, o, ho, _⟩ => by simp [geth] at ho
theorem qbel {P : Program} {H : List (Nat × List (List Nat))} {kn : FuncId → List SV → Hp → Nat → Option Ans} (hmx : P.follows .mixedOrders = true) (hkn : ∀ g as_ h nx a, kn g as_ h nx = some a → Good P (.call g as_ h nx) a) {n : Nat} {g : FuncId} (h : runB P H kn n g = true) (q : Nat) : SCalls P g [] [] q (.bool true) [] := by
 unfold runB at h
 split at h
 ·rename_i nx hr
  obtain ⟨_, _, h3⟩ : _ ∧ _ ∧ _ := qa48 hmx hkn n _ _ hr
  exact qaip h3 (fun _ => rfl) (fun _ => rfl) q
 ·cases h
def kn0 : FuncId → List SV → Hp → Nat → Option Ans := fun _ _ _ _ => none
theorem kn0_ok {P : Program} : ∀ g as_ h nx a, kn0 g as_ h nx = some a → Good P (.call g as_ h nx) a := fun _ _ _ _ _ h => by cases h
end Go.Proofs.YteoijlmgiemffaaGreat
namespace Go.Proofs.YteoijlmgiemffaaGreat
set_option linter.all false
open Go.RowKit
variable {w : World} {A : Nat → Prop} {ρ : qacu}
def nums (k : IntKind) (xs : List Int) : SV := .view 1 (xs.map fun x => [.int k x])
def LayP {α : Type} (L : Lay α) (f : α → List SV) : Prop := ∀ A w x cs, L.rep A w x cs → Reps w A noPl (f x) cs ∧ Ones cs
theorem qacd (k : IntKind) : LayP (Lay.int k) (fun x => [.int k x]) := fun A w x cs h => by
 rw [h.1]; exact ⟨Reps.cons .int Reps.nil, fun v hv => by simp at hv; rw [hv]; rfl⟩
theorem qabx {α β : Type} {L : Lay α} {M : Lay β} {f : α → List SV} {g : β → List SV} (hf : LayP L f) (hg : LayP M g) : LayP (Lay.pair L M) (fun x => f x.1 ++ g x.2) := fun A w x cs h => by
 obtain ⟨c, d, rfl, h1, h2⟩ := h
 obtain ⟨r1, o1⟩ := hf _ _ _ _ h1
 obtain ⟨r2, o2⟩ := hg _ _ _ _ h2
 exact ⟨r1.append r2, fun v hv => (List.mem_append.1 hv).elim (o1 v) (o2 v)⟩
theorem qaeb {α β : Type} {L : Lay α} {f : α → List SV} (g : β → α) (hf : LayP L f) : LayP (Lay.map g L) (fun x => f (g x)) := fun A w x cs h => hf _ _ _ _ h
theorem qbe1 {α : Type} {L : Lay α} {f : α → List SV} (hf : LayP L f) {ao : Option Addr} {n c : Nat} {xs : List α} (h : RdL L A w ao n c xs) : RepV w A ρ (.view L.size (xs.map f)) (.slice ao n c) := by
 by_cases h0 : 0 < n
 ·obtain ⟨b, off, rfl, hA, hb, hh⟩ := h.here h0
  have hl := h.len
  have get : ∀ i e j x, (xs.map f)[i]? = some e → e[j]? = some x → ∃ u, w.cell? ⟨b, off + i * L.size + j, none⟩ = some u ∧ RepV w A noPl x u ∧ u.oneCell' = true := fun i e j x he hx => by
   rw [List.getElem?_map, Option.map_eq_some_iff] at he
   obtain ⟨y, hy, rfl⟩ := he
   obtain ⟨hi, rfl⟩ := List.getElem?_eq_some_iff.1 hy
   obtain ⟨cs, h1, h2⟩ := hh i hi
   obtain ⟨r, o⟩ := hf _ _ _ _ h1
   have hj : j < (f xs[i]).length := (List.getElem?_eq_some_iff.1 hx).1
   have hjs : j < L.size := by rw [← L.len h1, ← r.1]; exact hj
   obtain ⟨u, hu, hr⟩ := r.get hx
   exact ⟨u, by rw [h2 j hjs]; exact hu, hr, o u (List.mem_of_getElem? hu)⟩
  refine .view (fun i j => (w.cell? ⟨b, off + i * L.size + j, none⟩).getD undef) (by simp [hl]) h.le h.max hA hb (fun e he => ?_) (fun i e j x he hx => ?_) (fun i e j x he hx => ?_) (fun i e j x he hx => ?_)
  ·obtain ⟨y, hy, rfl⟩ := List.mem_map.1 he
   obtain ⟨i, hi0⟩ := List.getElem?_of_mem hy
   obtain ⟨hi, rfl⟩ := List.getElem?_eq_some_iff.1 hi0
   obtain ⟨cs, h1, _⟩ := hh i hi
   rw [(hf _ _ _ _ h1).1.1, L.len h1]
  ·obtain ⟨u, h1, _⟩ := get i e j x he hx; rw [h1]; rfl
  ·obtain ⟨u, h1, h2, _⟩ := get i e j x he hx; rw [h1]; exact h2
  ·obtain ⟨u, h1, _, h3⟩ := get i e j x he hx; rw [h1]; exact h3
 ·have hn : n = 0 := by omega
  have : xs = [] := List.eq_nil_of_length_eq_zero (by rw [h.len, hn])
  subst this hn
  exact .view0 h.max h.nil
theorem qacc {α : Type} {L : Lay α} {f : α → List SV} (hf : LayP L f) : LayP (Lay.slice L) (fun xs => [.view L.size (xs.map f)]) := fun A w x cs h => by
 obtain ⟨ao, n, c, rfl, h1⟩ := h
 exact ⟨Reps.cons (qbe1 hf h1) Reps.nil, fun v hv => by simp at hv; rw [hv]; rfl⟩
theorem law_of {P : Program} {f : FuncId} {args : List SV} {vs : List Value} (h : SCalls P f args [] 0 (.bool true) []) (hr : Reps w (fun _ => False) noPl args vs) : Calls P f vs.toArray w fun e w' => e = .returned (.bool true) ∧ Below w.heap.size w w' := by
 refine (h.2 (fun _ => False) noPl (fun _ _ => False) w vs ⟨fun id o ho => by simp [geth] at ho, fun id id' o o' _ ho => by simp [geth] at ho, fun k ⟨id, o, ho, _⟩ => by simp [geth] at ho, fun k h => h.elim⟩ (hr.weaken fun k hk _ => hk.elim (fun h => h) fun ⟨id, o, ho, _⟩ => by simp [geth] at ho) (fun _ _ _ => rfl)).mono ?_
 rintro e w' ⟨v, ρ', fp', rfl, _, q2, q3, _⟩
 cases q2
 exact ⟨rfl, q3.below (Nat.le_refl _) fun k ⟨id, o, ho, _⟩ => by simp [geth] at ho⟩
theorem qbei {P : Program} {f : FuncId} {args : List SV} {r : SV} (he : Enters P f)
  (h : ∀ (O : Nat → Prop) (w : World) (vs : List Value), (∀ k, O k → k < w.heap.size) → Reps w O noPl args vs → Calls P f vs.toArray w fun e w' => ∃ v, e = .returned v ∧ Below w.heap.size w w' ∧ RepV w' O noPl r v)
  (ha : ∀ σ, args.map (ren σ) = args) (q : Nat) : SCalls P f args [] q r [] := by
 refine ⟨he, fun O ρ fp w vs hok hargs hfr => ?_⟩
 have hO : (fun k => O k ∨ Live [] fp k) = O := by funext k; simp [Live, geth]
 rw [hO] at hargs
 have ha' : Reps w O noPl args vs := by
  have h1 : Reps w O ρ (args.map (ren fun _ => q)) vs := by rw [ha]; exact hargs
  have h2 := qae3 h1
  have e : (fun id => ρ ((fun _ => q) id)) = noPl := by funext id; exact hfr q (Nat.le_refl _) (by omega)
  rw [e] at h2; exact h2
 refine (h O w vs hok.O_lt ha').mono ?_
 rintro e w' ⟨v, rfl, hb, hr⟩
 refine ⟨v, ρ, fp, rfl, ⟨fun id o ho => by simp [geth] at ho, fun id id' o o' _ ho => by simp [geth] at ho, fun k ⟨id, o, ho, _⟩ => by simp [geth] at ho, fun k hk => Nat.lt_of_lt_of_le (hok.O_lt k hk) hb.size⟩, ?_, .of hb, fun _ _ h => h, fun id h => .inl h, fun id o ho => by simp [geth] at ho⟩
 exact hr.mono (.refl _ _) (fun k hk _ => by have := congrFun hO k; rw [← this]; exact hk) fun _ _ h => by cases h
end Go.Proofs.YteoijlmgiemffaaGreat
namespace Go.Proofs.YteoijlmgiemffaaGreat
set_option linter.all false
open Go.RowKit
def LayF {α : Type} (L : Lay α) (ok : α → Prop) : Prop := ∀ A w x cs, L.rep A w x cs → ok x
theorem qacs (k : IntKind) : LayF (Lay.int k) (fun x => Fits k x) := fun A w x cs h => h.2
theorem qaby {α β : Type} {L : Lay α} {M : Lay β} {f : α → Prop} {g : β → Prop} (hf : LayF L f) (hg : LayF M g) : LayF (Lay.pair L M) (fun x => f x.1 ∧ g x.2) := fun A w x cs h => by
 obtain ⟨c, d, rfl, h1, h2⟩ := h
 exact ⟨hf _ _ _ _ h1, hg _ _ _ _ h2⟩
theorem qaec {α β : Type} {L : Lay α} {f : α → Prop} (g : β → α) (hf : LayF L f) : LayF (Lay.map g L) (fun x => f (g x)) := fun A w x cs h => hf _ _ _ _ h
theorem qbjp {α : Type} {L : Lay α} {f : α → Prop} (hf : LayF L f) {A : Nat → Prop} {w : World} {ao : Option Addr} {n c : Nat} {xs : List α} (h : RdL L A w ao n c xs) : ∀ x ∈ xs, f x := fun x hx => by
 obtain ⟨i, hi0⟩ := List.getElem?_of_mem hx
 obtain ⟨hi, rfl⟩ := List.getElem?_eq_some_iff.1 hi0
 obtain ⟨b, off, _, _, _, hh⟩ := h.here (by have := h.len; omega)
 obtain ⟨cs, h1, _⟩ := hh i hi
 exact hf _ _ _ _ h1
theorem qac4 {α : Type} {L : Lay α} {f : α → Prop} (hf : LayF L f) : LayF (Lay.slice L) (fun xs => ∀ x ∈ xs, f x) := fun A w x cs h => by
 obtain ⟨ao, n, c, rfl, h1⟩ := h
 exact qbjp hf h1
end Go.Proofs.YteoijlmgiemffaaGreat
namespace Go.Proofs.YteoijlmgiemffaaGreat
set_option linter.all false
open Go.RowKit
variable {X : Cx} {s : SSt} {Q : SExit → SSt → Prop} {y : SCode}
theorem qab9 : QSeq X y Q .normal s = SWp X y Q s := rfl
theorem qaca {i : Nat} : QSeq X y Q (.exit i) s = Q (.exit i) s := rfl
theorem qaap : QSeq X y Q .ret s = Q .ret s := rfl
theorem qabk {id : Nat} : qake id Q .normal s = Q .normal s := rfl
theorem qaag {id : Nat} : qake id Q .ret s = Q .ret s := rfl
theorem qabl {id i : Nat} : qake id Q (.exit i) s = if i = id then Q .normal s else Q (.exit i) s := rfl
theorem qabs {I : SSt → Nat → Prop} {n i : Nat} : qbk4 X I n Q (.exit i) s = Q (.exit i) s := rfl
theorem qaaj {I : SSt → Nat → Prop} {n : Nat} : qbk4 X I n Q .ret s = Q .ret s := rfl
theorem qaao {a b : Int} (h1 : -9223372036854775808 ≤ a + b) (h2 : a + b ≤ 9223372036854775807) : IntKind.i64.wrap (a + b) = a + b := IntWalk.i64_in _ ⟨h1, h2⟩
theorem qabu (x : SV) : Co x x ↔ True := ⟨fun _ => trivial, fun _ => Co.refl x⟩
theorem qab7 {k : IntKind} {a b : Int} (h : a = b) : Co (.int k a) (.int k b) := by rw [h]; exact Co.refl _
theorem qacf {i n m : Nat} (h : n = m) : Co (.own i n) (.own i m) := by rw [h]; exact Co.refl _
theorem qabt {z : Nat} {xs ys : List (List SV)} (h : xs = ys) : Co (.view z xs) (.view z ys) := by rw [h]; exact Co.refl _
theorem qabn (z : Nat) : Co .nilsl (.view z []) ↔ True := ⟨fun _ => trivial, fun _ => Co.nilsl z⟩
theorem qacg {xs ys : List SV} (h : CoL xs ys) : Co (.agg xs) (.agg ys) := Co.agg h
theorem qace {xs ys : List SV} (h : CoL xs ys) : Co (.tup xs) (.tup ys) := Co.tup h
theorem qabc (xs : List (List SV)) : CoLL xs xs ↔ True := ⟨fun _ => trivial, fun _ => CoLL.refl xs⟩
theorem qaki {n : Int} (h : 0 ≤ n) (h2 : n < 18446744073709551616) : IntKind.u64.wrap n = n := by
 simp [IntKind.wrap, IntKind.bits, IntKind.signed]; omega
theorem qa5g {I : SSt → Nat → Prop} {n m : Nat} {s' : SSt} (hw : Wk X s s') (hi : I s' m) (hn : m < n) : qbk4 X I n Q .normal s := ⟨s', m, hw, hi, hn⟩
theorem qast {rs : List ResultVar} {m : Nat} {r : SV} {h2 : Hp} {s' : SSt} (hw : Wk X s s') (hr : qakm X.P s' rs = some r) (hh : SubH s'.hp h2) (hn : s'.nx ≤ m + 8) : QFun X rs m r h2 .ret s := ⟨s', hw, hr, hh, hn⟩
theorem qabr {α : Type} {h : Decidable True} (o : Option α) : @rg α True h o = o := rg_pos trivial o
variable {P : Program} {dst : Option Nat} {op : SOp} {b : Nat} {os : List SOper} {tr : List Tch} {R : SSt → List Tch → Prop}
theorem qabi : SOps P [] s tr R = R s tr := rfl
def SOpsK (P : Program) (r : Option (SV × Upd × Nat)) (dst : Option Nat) (t : List Nat) (os : List SOper) (s : SSt) (tr : List Tch) (R : SSt → List Tch → Prop) : Prop := match r with
 | some (v, u, _) => SOps P os ⟨putd s.sl dst v, upds s.hp u, s.nx + 1⟩ (⟨t, u.map (·.1)⟩ :: tr) R
 | none => False
theorem qabh : SOps P (⟨dst, op, none, none, b⟩ :: os) s tr R = SOpsK P (op.run (·.ev s.sl) (geth s.hp) s.nx) dst (op.touch (·.ev s.sl)) os s tr R := rfl
theorem qaax {v : SV} {u : Upd} {n : Nat} {t : List Nat} : SOpsK P (some (v, u, n)) dst t os s tr R = SOps P os ⟨putd s.sl dst v, upds s.hp u, s.nx + 1⟩ (⟨t, u.map (·.1)⟩ :: tr) R := rfl
def qblf (P : Program) (f : SV) (args : List SV) (dst : Option Nat) (os : List SOper) (s : SSt) (tr : List Tch) (R : SSt → List Tch → Prop) : Prop := match f with
 | .fn (.func g) first cap => ∃ h1 r h2 rd n, SCalls P g (first ++ args ++ cap) h1 s.nx r h2 n ∧ SubH s.hp h1 ∧ Uniq h2 ∧ (∀ id ∈ rd, geth h2 id = geth h1 id) ∧
   SOps P os ⟨putd s.sl dst r, qab3 s.hp h1 h2, s.nx + n⟩ (⟨rd, (idsH h1 ++ idsH h2).filter fun i => !rd.contains i⟩ :: tr) R
 | .fn (.method nm) [] [] => match args with
  | .ifc t x :: az => ∃ hm x' g h1 r h2 rd n, SubH s.hp hm ∧ Meth P (geth hm) t x nm g x' ∧ SCalls P g (x' :: az) h1 s.nx r h2 n ∧ SubH s.hp h1 ∧ Uniq h2 ∧ (∀ id ∈ rd, geth h2 id = geth h1 id) ∧
    SOps P os ⟨putd s.sl dst r, qab3 s.hp h1 h2, s.nx + n⟩ (⟨idsH hm ++ rd, (idsH h1 ++ idsH h2).filter fun i => !rd.contains i⟩ :: tr) R
  | _ => False
 | _ => False
theorem qaa7 {f : SX} {args : List SX} : SOps P (⟨dst, op, some (f, args), none, b⟩ :: os) s tr R = qblf P (f.ev s.sl) (args.map (·.ev s.sl)) dst os s tr R := by
 simp only [SOps, SOp1, qblf]
 all_goals generalize f.ev s.sl = v
 all_goals cases v
 all_goals (first | rfl | (rename_i f' _ _; cases f' <;> rfl))
theorem qbh9 {g : FuncId} {first cap args : List SV} {h1 h2 : Hp} {r : SV} {n : Nat} (h : SCalls P g (first ++ args ++ cap) h1 s.nx r h2 n) (hs : SubH s.hp h1) (hu : Uniq h2) (rd : List Nat) (hr : ∀ id ∈ rd, geth h2 id = geth h1 id)
  (hn : SOps P os ⟨putd s.sl dst r, qab3 s.hp h1 h2, s.nx + n⟩ (⟨rd, (idsH h1 ++ idsH h2).filter fun i => !rd.contains i⟩ :: tr) R) : qblf P (.fn (.func g) first cap) args dst os s tr R := ⟨h1, r, h2, rd, n, h, hs, hu, hr, hn⟩
theorem qaaw {g : FuncId} {args : List SV} {r : SV} (h : SCalls P g args [] s.nx r []) (hn : SOps P os ⟨putd s.sl dst r, s.hp, s.nx + 8⟩ (⟨[], []⟩ :: tr) R) : qblf P (.fn (.func g) [] []) args dst os s tr R :=
 ⟨[], r, [], [], 8, by simpa using h, trivial, trivial, by simp, hn⟩
def qa4j (P : Program) (v : SV) (want : Bool) (o : SOper) (os : List SOper) (s : SSt) (tr : List Tch) (R : SSt → List Tch → Prop) : Prop := match v with
 | .bool b => (b = want → SOps P (⟨o.dst, o.op, o.cal, none, o.bef⟩ :: os) s tr R) ∧ (b ≠ want → SOps P os (s.skip o) (⟨[], []⟩ :: tr) R)
 | .tup [] => SOps P os (s.skip o) (⟨[], []⟩ :: tr) R
 | _ => False
theorem qaay {c : Option (SX × List SX)} {t : Nat} {want : Bool} : SOps P (⟨dst, op, c, some (t, want), b⟩ :: os) s tr R = qa4j P (gets s.sl t) want ⟨dst, op, c, some (t, want), b⟩ os s tr R := by
 cases c with
 | none => (simp only [SOps, qa4j, SOp1]; all_goals rfl)
 | some fa => (simp only [SOps, qa4j, SOp1]; all_goals rfl)
theorem qaa6 {want : Bool} {c : Option (SX × List SX)} {g : Option (Nat × Bool)} : qa4j P (.bool want) want ⟨dst, op, c, g, b⟩ os s tr R = SOps P (⟨dst, op, c, none, b⟩ :: os) s tr R := by simp [qa4j]
theorem qa4x {want w' : Bool} {o : SOper} (h : (w' == want) = false) : qa4j P (.bool w') want o os s tr R = SOps P os (s.skip o) (⟨[], []⟩ :: tr) R := by
 have : w' ≠ want := by simpa using h
 simp [qa4j, this]
theorem qabf {o : SOper} : qa4j P (.bool true) false o os s tr R = SOps P os (s.skip o) (⟨[], []⟩ :: tr) R := qa4x rfl
theorem qabg {o : SOper} : qa4j P (.bool false) true o os s tr R = SOps P os (s.skip o) (⟨[], []⟩ :: tr) R := qa4x rfl
theorem qaar {want : Bool} {o : SOper} : qa4j P (.tup []) want o os s tr R = SOps P os (s.skip o) (⟨[], []⟩ :: tr) R := rfl
def FrzOk (hp : Hp) : List Nat → Prop
 | [] => True
 | i :: D => (match geth hp i with | some o => qblg o | none => True) ∧ FrzOk hp D
theorem FrzOk.get {hp : Hp} : ∀ {D : List Nat}, FrzOk hp D → ∀ id o, D.contains id = true → geth hp id = some o → qblg o
 | [], _, id, o, h, _ => by simp at h
 | i :: D, h, id, o, hc, ho => by
  by_cases e : id = i
  ·subst e; have := h.1; rw [ho] at this; exact this
  ·refine FrzOk.get h.2 id o ?_ ho
   simpa [e] using hc
theorem qaba (k : IntKind) (n : Int) : qana (.int k n) ↔ True := ⟨fun _ => trivial, fun _ => qa5k k n⟩
theorem qaa1 (b : Bool) : qana (.bool b) ↔ True := ⟨fun _ => trivial, fun _ => qasv b⟩
theorem qaa8 (b : ByteArray) : qana (.str b) ↔ True := ⟨fun _ => trivial, fun _ => qa5i b⟩
theorem qaa9 : qana .nil ↔ True := ⟨fun _ => trivial, fun _ => qa5j⟩
theorem qaat : qana .nilsl ↔ True := ⟨fun _ => trivial, fun _ => qakn⟩
theorem qaa0 (z : Nat) (es : List (List SV)) : qana (.view z es) ↔ True := ⟨fun _ => trivial, fun _ => qasu z es⟩
theorem qabm (cs : List SV) : qana (.cp cs) ↔ True := ⟨fun _ => trivial, fun _ => qbhq cs⟩
theorem qaa2 : qanb [] ↔ True := ⟨fun _ => trivial, fun _ => qbes⟩
theorem qaav (x : SV) (xs : List SV) : qanb (x :: xs) ↔ qana x ∧ qanb xs := ⟨fun h => ⟨h x (by simp), fun y hy => h y (by simp [hy])⟩, fun h => qa5l h.1 h.2⟩
theorem qabb (e z : Nat) (es : List (List SV)) : qblg (.row e z es) ↔ ∀ x ∈ es, qanb x := Iff.rfl
theorem qaau (t : TypeId) (cs : List SV) : qblg (.cells t cs) ↔ qanb cs := Iff.rfl
theorem qaaq {α : Type} (f : α → List SV) (xs : List α) : (xs.map f).take xs.length = xs.map f := List.take_of_length_le (by simp)
end Go.Proofs.YteoijlmgiemffaaGreat
namespace Go.Proofs.YteoijlmgiemffaaGreat
set_option linter.all false
open Go.RowKit
variable {P : Program} {s : SSt} {os : List SOper} {o : SOper} {tr : List Tch} {R : SSt → List Tch → Prop}
theorem qaan {b want : Bool} (h1 : b = true → qa4j P (.bool true) want o os s tr R) (h2 : b = false → qa4j P (.bool false) want o os s tr R) : qa4j P (.bool b) want o os s tr R := by
 cases b
 ·exact h2 rfl
 ·exact h1 rfl
theorem qabv {dst : Option Nat} {g : FuncId} {args : List SV} {h1 h2 : Hp} {r : SV} (h : SCalls P g args h1 s.nx r h2) (hs : SubH s.hp h1) (hu : Uniq h2)
  (hn : SOps P os ⟨putd s.sl dst r, qab3 s.hp h1 h2, s.nx + 8⟩ (⟨[], (idsH h1 ++ idsH h2).filter fun i => ![].contains i⟩ :: tr) R) : qblf P (.fn (.func g) [] []) args dst os s tr R :=
 qbh9 (by simpa using h) hs hu [] (by simp) hn
theorem call_r {dst : Option Nat} {g : FuncId} {args : List SV} {h1 : Hp} {r : SV} (h : SCalls P g args h1 s.nx r h1) (hs : SubH s.hp h1) (hu : Uniq h1)
  (hn : SOps P os ⟨putd s.sl dst r, qab3 s.hp h1 h1, s.nx + 8⟩ (⟨idsH h1, (idsH h1 ++ idsH h1).filter fun i => !(idsH h1).contains i⟩ :: tr) R) : qblf P (.fn (.func g) [] []) args dst os s tr R :=
 qbh9 (by simpa using h) hs hu (idsH h1) (fun _ _ => rfl) hn
theorem qaae {X : Cx} {Q : SExit → SSt → Prop} {id : Nat} {a b : SCode} (h : SWp X (.seq a b) (qake id Q) s) : SWp X (.block id (.seq a b)) Q s := qaal h
theorem qaeh {X : Cx} {Q : SExit → SSt → Prop} {id : Nat} {d : Bool} {l : List SOper} {k : List Nat} (h : SWp X (.reg d l k) (qake id Q) s) : SWp X (.block id (.reg d l k)) Q s := qaal h
theorem qaeg {X : Cx} {Q : SExit → SSt → Prop} {c : SCode} (D : List Nat) (hf : FrzOk s.hp D) (h : SWp X c Q ⟨frzS (geth s.hp) D s.sl, frzH (geth s.hp) D s.hp, s.nx⟩) : SWp X c Q s := qaco (wk_frz D hf.get) h
theorem qabo {c : Prop} {hd : Decidable c} {r : Option (SV × Upd × Nat)} {dst : Option Nat} {t : List Nat} (h : c) (hn : SOpsK P r dst t os s tr R) : SOpsK P (@rg _ c hd r) dst t os s tr R := by
 rw [rg_pos h]; exact hn
end Go.Proofs.YteoijlmgiemffaaGreat
namespace Go.Proofs.YteoijlmgiemffaaGreat
set_option linter.all false
open Go.RowKit
variable {X : Cx} {s : SSt}
theorem qael {t : TypeId} {cs : List SV} (id j e size : Nat) (h : geth s.hp id = some (.cells t cs)) (hj : cs[j]? = some .nilsl) : Wk X s ⟨s.sl, puth (puth s.hp s.nx (.row e size [])) id (.cells t (cs.set j (.own s.nx 0))), s.nx + 1⟩ := by
 intro ρ fp a w hs
 obtain ⟨ρ', fp', h1, h2, h3, h4⟩ := hs.sim.h.add (w' := w) hs.le (hs.fresh _ (Nat.le_refl _)) (.row e size []) none (fun _ => False) (Below.refl _ _) (fun _ h => h.elim) fun A' ρ' hp' hpl => ⟨.slice none 0 0, [], World.ownsRow_nil _ _ _ _, ⟨Reps.nil, fun v hv => by cases hv⟩, (fun x hx => by cases hx), hpl, fun k => by simp [Value.ownBlock]⟩
 have hne : id ≠ s.nx := fun e => by
  have := (hs.sim.h.objs id _ h).place
  rw [e] at this
  exact this (hs.fresh _ (Nat.le_refl _))
 have hg : geth (puth s.hp s.nx (.row e size [])) id = some (.cells t cs) := by rw [qac7, if_neg hne]; exact h
 have hlive : ∀ k, Live (puth (puth s.hp s.nx (.row e size [])) id (.cells t (cs.set j (.own s.nx 0)))) fp' k → Live (puth s.hp s.nx (.row e size [])) fp' k := by
  rintro k ⟨i, o, ho, hk⟩
  rw [qac7] at ho
  split at ho
  ·rename_i e; subst e; exact ⟨i, _, hg, hk⟩
  ·exact ⟨i, o, ho, hk⟩
 have hobj : ∀ i o, geth (puth (puth s.hp s.nx (.row e size [])) id (.cells t (cs.set j (.own s.nx 0)))) i = some o → ∃ o', geth (puth s.hp s.nx (.row e size [])) i = some o' := by
  intro i o ho
  rw [qac7] at ho
  split at ho
  ·rename_i e; subst e; exact ⟨_, hg⟩
  ·exact ⟨o, ho⟩
 refine ⟨ρ', fp', ⟨⟨fun i o ho => ?_, fun i i' o o' hne' ho ho' => ?_, fun i o ho => ?_, h1.step, h1.keep⟩, hs.sim.tmps, hs.sim.defers, fun u => ?_⟩, fun i hi => ?_, by have := hs.le; simp only; omega⟩
 ·rw [qac7] at ho
  split at ho
  ·rename_i e; subst e
   cases ho
   obtain ⟨b, c, vs, p1, p2, ⟨p3, p4⟩, p5⟩ := h1.objs i _ hg
   refine ⟨b, c, vs, p1, p2, ⟨⟨by rw [List.length_set]; exact p3.1, fun m x v hx hv => ?_⟩, p4⟩, p5⟩
   rw [List.getElem?_set] at hx
   split at hx
   ·rename_i ejm; subst ejm
    split at hx
    ·cases hx
     have := p3.2 j _ v hj hv
     cases this
     exact .own0 h3
    ·cases hx
   ·exact (p3.2 m x v hx hv).weaken fun k hk _ => hk.imp (fun h => h) (hlive k)
  ·exact (h1.objs i o ho).weaken fun k hk _ => hk.imp (fun h => h) (hlive k)
 ·obtain ⟨x, hx⟩ := hobj i o ho
  obtain ⟨y, hy⟩ := hobj i' o' ho'
  exact h1.disj i i' x y hne' hx hy
 ·obtain ⟨x, hx⟩ := hobj i o ho
  exact h1.turn i x hx
 ·exact (h2.rep (hs.sim.slots u)).weaken fun k hk _ => hk.imp (fun h => h) (hlive k)
 ·cases e : ρ' i with
  | none => rfl
  | some p =>
   simp only at hi
   rcases h4 i (by rw [e]; simp) with h5 | h5
   ·exact absurd (hs.fresh i (by omega)) h5
   ·omega
structure Stop (p : Prop) : Prop where
 out : p
theorem qacr {Q : SExit → SSt → Prop} {c : SCode} (h : Stop (SWp X c Q s)) : SWp X c Q s := h.out
end Go.Proofs.YteoijlmgiemffaaGreat
namespace Go.Proofs.YteoijlmgiemffaaGreat
set_option linter.all false
open Go.RowKit
variable {w : World} {ρ : qacu} {fp : Nat → Nat → Prop} {O : Nat → Prop} {h1 : Hp}
theorem qafo (k : Nat) : ¬ Live [] fp k := fun ⟨_, _, h, _⟩ => by cases h
def Lent (h1 : Hp) (x y : SV) : Prop := ∀ (O : Nat → Prop) (ρ : qacu) (fp : Nat → Nat → Prop) (w : World) (v : Value), HeapOk O ρ fp h1 w → RepV w (fun k => O k ∨ Live h1 fp k) ρ x v → RepV w (fun k => O k ∨ Live [] fp k) ρ y v
def qblh (h1 : Hp) : List SV → List SV → Prop
 | [], [] => True
 | x :: xs, y :: ys => Lent h1 x y ∧ qblh h1 xs ys
 | _, _ => False
theorem qbh1 {k : Nat} : (O k ∨ Live [] fp k) → O k ∨ Live h1 fp k := fun hk => hk.elim .inl fun h => absurd h (qafo k)
theorem qajx (x : SV) : Lent h1 x x := fun _ _ _ _ _ _ hx => hx.weaken fun _ hk _ => qbh1 hk
theorem qafp : ∀ {xs ys}, qblh h1 xs ys → xs.length = ys.length
 | [], [], _ => rfl
 | _ :: _, _ :: _, h => by simp [qafp h.2]
 | [], _ :: _, h => h.elim
 | _ :: _, [], h => h.elim
theorem qajy : ∀ {xs ys : List SV} {j : Nat} {y : SV}, qblh h1 xs ys → ys[j]? = some y → ∃ x, xs[j]? = some x ∧ Lent h1 x y
 | x :: xs, y :: ys, 0, _, h, hy => by cases hy; exact ⟨x, rfl, h.1⟩
 | x :: xs, y :: ys, j + 1, _, h, hy => qajy (xs := xs) (ys := ys) (j := j) h.2 (by simpa using hy)
 | [], [], _, _, _, hy => by simp at hy
 | [], _ :: _, _, _, h, _ => h.elim
 | _ :: _, [], _, _, h, _ => h.elim
theorem qbjj {cs ds : List SV} (h : qblh h1 cs ds) : Lent h1 (.agg cs) (.agg ds) := fun O ρ fp w v hok hx => by
 cases hx with
 | agg ho hl hh =>
  refine .agg ho (by rw [← qafp h]; exact hl) fun j y v hy hv => ?_
  obtain ⟨x, h1, h2⟩ := qajy h hy
  exact h2 O ρ fp w v hok (hh j x v h1 hv)
theorem qanv {id z e : Nat} {es : List (List SV)} (ho : geth h1 id = some (.row e z es)) (hp : ∀ e ∈ es, qanb e) {n : Nat} (hn : n = es.length) : Lent h1 (.own id n) (.view z es) := fun O ρ fp w v hok hx => by
 subst hn
 obtain ⟨v0, us, how, ⟨hrep, huo⟩, hzs, hρ', hfp⟩ := hok.objs id _ ho
 generalize hn : es.length = n at hx
 cases hx with
 | own0 hρ => rw [List.eq_nil_of_length_eq_zero hn]; exact .view0 (by simp [maxLen]) (fun _ => rfl)
 | own hρ hnc hm =>
  rename_i b c
  rw [hρ] at hρ'
  have hp0 : qad2 v0 = some (b, c) := (Option.some.inj hρ').symm
  obtain ⟨hv0, hcell, hlt, _, _⟩ := qaen how hp0
  have hown : fp id b := (hfp b).2 (by rw [hv0]; rfl)
  have hval : ∀ i e j x, es[i]? = some e → e[j]? = some x → ∃ u, us[i * z + j]? = some u ∧ RepV w (fun k => O k ∨ Live h1 fp k) ρ x u := fun i e j x he hx => hrep.get (qagp hzs he hx)
  refine .view (fun i j => us.getD (i * z + j) undef) hn hnc hm (fun hO => hO.elim (hok.lt b ⟨id, _, ho, hown⟩).2 (qafo b)) hlt hzs (fun i e j x he hx => ?_) (fun i e j x he hx => ?_) (fun i e j x he hx => ?_)
  ·obtain ⟨u, h1, h2⟩ := hval i e j x he hx
   rw [Nat.zero_add, List.getD_eq_getElem?_getD, h1]
   exact hcell _ _ h1
  ·obtain ⟨u, h1, h2⟩ := hval i e j x he hx
   rw [List.getD_eq_getElem?_getD, h1]
   exact (hp e (List.mem_of_getElem? he) x (List.mem_of_getElem? hx) _ _ _ _ h2).weaken fun k hk _ => qbh1 hk
  ·obtain ⟨u, h1, h2⟩ := hval i e j x he hx
   rw [List.getD_eq_getElem?_getD, h1]
   exact huo u (List.mem_of_getElem? h1)
def qasf (x : SV) : Prop := ∀ w A A' ρ v, RepV w A ρ x v → RepV w A' ρ x v
theorem qa6o (b : Bool) : qasf (.bool b) := fun w A A' ρ v h => by cases h; exact .bool
theorem qahk (k : IntKind) (n : Int) : qasf (.int k n) := fun w A A' ρ v h => by cases h; exact .int
def qanc (cs : List SV) : Prop := ∀ x ∈ cs, qasf x
theorem qalk : qanc [] := fun x hx => by cases hx
theorem qae9 {x : SV} {cs : List SV} (h : qasf x) (hs : qanc cs) : qanc (x :: cs) := fun y hy => by
 rcases List.mem_cons.1 hy with e | e
 ·rw [e]; exact h
 ·exact hs y e
theorem qalj {A A' : Nat → Prop} {cs : List SV} {vs : List Value} (hc : qanc cs) (h : Reps w A ρ cs vs) : Reps w A' ρ cs vs :=
 ⟨h.1, fun j x v hx hv => hc x (List.mem_of_getElem? hx) _ _ _ _ _ (h.2 j x v hx hv)⟩
theorem qatg {cs : List SV} (hc : qanc cs) : qasf (.agg cs) := fun w A A' ρ v h => by
 cases h with
 | agg ho hl hh => exact .agg ho hl fun j x v hx hv => hc x (List.mem_of_getElem? hx) _ _ _ _ _ (hh j x v hx hv)
def CleanO : SObj → Prop
 | .cells _ cs => qanc cs
 | .row _ _ es => ∀ e ∈ es, qanc e
 | .abs _ => False
theorem qbfk {A A' : Nat → Prop} {id : Nat} {F : Nat → Prop} {o : SObj} (hc : CleanO o) (h : ObjRep w A ρ id F o) : ObjRep w A' ρ id F o := by
 cases o with
 | cells t cs =>
  obtain ⟨b, c, vs, q1, q2, ⟨q3, q4⟩, q5⟩ := h
  exact ⟨b, c, vs, q1, q2, ⟨qalj hc q3, q4⟩, q5⟩
 | row e z es =>
  obtain ⟨v, vs, q1, ⟨q2, q3⟩, q4, q5, q6⟩ := h
  exact ⟨v, vs, q1, ⟨qalj (fun x hx => by obtain ⟨e, he, hx⟩ := List.mem_flatten.1 hx; exact hc e he x hx) q2, q3⟩, q4, q5, q6⟩
 | abs I => exact hc.elim
theorem qaua (h1 h2 : Hp) (id : Nat) : geth (h1 ++ h2) id = match geth h1 id with | some o => some o | none => geth h2 id := by
 induction h1 with
 | nil => rfl
 | cons p h1 ih =>
  obtain ⟨i, o⟩ := p
  rw [List.cons_append]
  simp only [geth]
  split
  ·rfl
  ·exact ih
theorem qat2 {P : Program} {f : FuncId} {args args' : List SV} {h1 h2 : Hp} {q n : Nat} {r : SV} (h : SCalls P f args' [] q r h2 n) (ha : qblh h1 args args') (hr : qasf r) (hc : ∀ id o, geth h2 id = some o → CleanO o)
  (hd : ∀ id, geth h1 id ≠ none → geth h2 id = none) : SCalls P f args h1 q r (h1 ++ h2) n := by
 refine ⟨h.ent, fun O ρ fp w vs hok hargs hfr => ?_⟩
 have hargs' : Reps w (fun k => O k ∨ Live [] fp k) ρ args' vs := by
  refine ⟨by rw [← qafp ha]; exact hargs.1, fun j y v hy hv => ?_⟩
  obtain ⟨x, h1, h2⟩ := qajy ha hy
  exact h2 O ρ fp w v hok (hargs.2 j x v h1 hv)
 refine (h.does O ρ fp w vs ⟨fun id o ho => (by cases ho), fun id id' o o' _ ho => (by cases ho), fun k hk => absurd hk (qafo k), hok.O_lt⟩ hargs' hfr).mono ?_
 rintro e w' ⟨v, ρ', fp', rfl, hk, hv, hst, hρ, hnew, hfp⟩
 have hst' : ∀ S : Nat → Prop, Step S w w' := fun S => hst.mono fun k hk => absurd hk (qafo k)
 have hbig : ∀ id o, geth h2 id = some o → ∀ k, fp' id k → w.heap.size ≤ k := fun id o ho k hk => (hfp id o ho k hk).elim (fun h => absurd h (qafo k)) fun h => h
 have hg : ∀ id o, geth (h1 ++ h2) id = some o → geth h1 id = some o ∧ geth h2 id = none ∨ geth h1 id = none ∧ geth h2 id = some o := fun id o ho => by
  rw [qaua] at ho
  cases e : geth h1 id with
  | some o' => rw [e] at ho; cases ho; exact .inl ⟨rfl, hd id (by rw [e]; simp)⟩
  | none => rw [e] at ho; exact .inr ⟨rfl, ho⟩
 let F : Nat → Nat → Prop := fun id k => (geth h2 id ≠ none ∧ fp' id k) ∨ (geth h2 id = none ∧ fp id k)
 have F1 : ∀ id, geth h2 id = none → F id = fp id := fun id hn => by funext k; simp [F, hn]
 have F2 : ∀ id o, geth h2 id = some o → F id = fp' id := fun id o hn => by funext k; simp [F, hn]
 have hav : ∀ k, (O k ∨ Live (h1 ++ h2) F k) → k < w.heap.size → O k ∨ Live h1 fp k := by
  rintro k (hO | ⟨id, o, ho, hk'⟩) hlt
  ·exact .inl hO
  ·rcases hg id o ho with ⟨q1, q2⟩ | ⟨q1, q2⟩
   ·rw [F1 id q2] at hk'; exact .inr ⟨id, o, q1, hk'⟩
   ·rw [F2 id o q2] at hk'; exact absurd (hbig id o q2 k hk') (by omega)
 refine ⟨v, ρ', F, rfl, ⟨fun id o ho => ?_, fun id id' o o' hne ho ho' k hk' hk2 => ?_, ?_, hk.O_lt⟩, hr _ _ _ _ _ hv, hst' _, hρ, hnew, fun id o ho k hk' => ?_⟩
 ·rcases hg id o ho with ⟨q1, q2⟩ | ⟨q1, q2⟩
  ·rw [F1 id q2]
   exact (hok.objs id o q1).mono ⟨hst' _, hav, hρ⟩ fun k hk' => hst.block k (hok.lt k ⟨id, o, q1, hk'⟩).1 (qafo k)
  ·rw [F2 id o q2]
   exact qbfk (hc id o q2) (hk.objs id o q2)
 ·rcases hg id o ho with ⟨q1, q2⟩ | ⟨q1, q2⟩ <;> rcases hg id' o' ho' with ⟨q3, q4⟩ | ⟨q3, q4⟩
  ·rw [F1 id q2] at hk'; rw [F1 id' q4] at hk2; exact hok.disj id id' o o' hne q1 q3 k hk' hk2
  ·rw [F1 id q2] at hk'; rw [F2 id' o' q4] at hk2
   have := (hok.lt k ⟨id, o, q1, hk'⟩).1; have := hbig id' o' q4 k hk2; omega
  ·rw [F2 id o q2] at hk'; rw [F1 id' q4] at hk2
   have := (hok.lt k ⟨id', o', q3, hk2⟩).1; have := hbig id o q2 k hk'; omega
  ·rw [F2 id o q2] at hk'; rw [F2 id' o' q4] at hk2; exact hk.disj id id' o o' hne q2 q4 k hk' hk2
 ·rintro k ⟨id, o, ho, hk'⟩
  rcases hg id o ho with ⟨q1, q2⟩ | ⟨q1, q2⟩
  ·rw [F1 id q2] at hk'
   have := hok.lt k ⟨id, o, q1, hk'⟩
   exact ⟨Nat.lt_of_lt_of_le this.1 hst.size, this.2⟩
  ·rw [F2 id o q2] at hk'
   exact hk.lt k ⟨id, o, q2, hk'⟩
 ·rcases hg id o ho with ⟨q1, q2⟩ | ⟨q1, q2⟩
  ·rw [F1 id q2] at hk'; exact .inl ⟨id, o, q1, hk'⟩
  ·rw [F2 id o q2] at hk'; exact .inr (hbig id o q2 k hk')
theorem qaio {P : Program} {f : FuncId} {args args' : List SV} {h1 : Hp} {q : Nat} {r : SV} (h : SCalls P f args' [] q r []) (ha : qblh h1 args args') (hr : qasf r) : SCalls P f args h1 q r h1 := by
 have := qat2 h ha hr (fun id o ho => by cases ho) fun _ _ => rfl
 rwa [List.append_nil] at this
end Go.Proofs.YteoijlmgiemffaaGreat
namespace Go.Proofs.YteoijlmgiemffaaGreat
set_option linter.all false
open Go.RowKit
class PureF {α : Type} (f : α → List SV) : Prop where
 ren : ∀ σ x, (f x).map (Go.Proofs.YteoijlmgiemffaaGreat.ren σ) = f x
 ok : ∀ x, (f x).all ok2 = true
 pure : ∀ x, qanb (f x)
theorem qajr {α : Type} (f : α → List SV) [PureF f] (σ : Nat → Nat) (xs : List α) : (xs.map f).map (·.map (ren σ)) = xs.map f := by
 rw [List.map_map]; exact List.map_congr_left fun x _ => PureF.ren σ x
theorem rowf_ok {α : Type} (f : α → List SV) [PureF f] (xs : List α) : ∀ x ∈ xs.map f, x.all ok2 = true := fun x hx => by obtain ⟨b, _, rfl⟩ := List.mem_map.1 hx; exact PureF.ok b
theorem qasq {α : Type} (f : α → List SV) [PureF f] (xs : List α) : ∀ x ∈ xs.map f, qanb x := fun x hx => by obtain ⟨b, _, rfl⟩ := List.mem_map.1 hx; exact PureF.pure b
theorem qab4 (cs : List SV) (h : cs.all (fun x => match x with | .int _ _ | .bool _ | .str _ | .nil | .nilsl | .view _ _ | .cp _ => true | _ => false) = true) : qanb cs := fun x hx => by
 have := List.all_eq_true.1 h x hx
 cases x <;> first | exact qa5k _ _ | exact qasv _ | exact qa5i _ | exact qa5j | exact qakn | exact qasu _ _ | exact qbhq _ | simp at this
instance pureF_int (k : IntKind) : PureF (fun n : Int => [SV.int k n]) := ⟨fun _ _ => rfl, fun _ => rfl, fun _ => qab4 _ rfl⟩
instance pureF_bool : PureF (fun b : Bool => [SV.bool b]) := ⟨fun _ _ => rfl, fun _ => rfl, fun _ => qab4 _ rfl⟩
class PureR (fs : List (List SV)) : Prop where
 ren : ∀ σ, fs.map (·.map (Go.Proofs.YteoijlmgiemffaaGreat.ren σ)) = fs
 ok : ∀ x ∈ fs, x.all ok2 = true
 pure : ∀ x ∈ fs, qanb x
instance pureR_map {α : Type} (f : α → List SV) [PureF f] (xs : List α) : PureR (xs.map f) := ⟨fun σ => qajr f σ xs, rowf_ok f xs, qasq f xs⟩
theorem qad9 (e z : Nat) (fs : List (List SV)) [PureR fs] : qblg (.row e z fs) ↔ True := ⟨fun _ => trivial, fun _ => PureR.pure⟩
def setS : Sl → Nat → SV → Sl
 | [], t, v => [(t, v)]
 | (u, x) :: l, t, v => if u = t then (t, v) :: l else (u, x) :: setS l t v
def qbk9 : Sl → List (Nat × SV) → Sl
 | l, [] => l
 | l, (t, v) :: r => qbk9 (setS l t v) r
def qblb : Hp → List (Nat × SObj) → Hp
 | h, [] => h
 | h, (i, o) :: r => qblb (puth h i o) r
def SSt.turn (s : SSt) (sl : List (Nat × SV)) (hp : List (Nat × SObj)) : SSt := ⟨qbk9 s.sl sl, qblb s.hp hp, s.nx⟩
variable {X : Cx} {s s' : SSt} {Q : SExit → SSt → Prop} {σ : Nat → Nat} {sl : Sl} {hp : Hp}
theorem qaab : SlotsM σ sl [] := trivial
theorem qaad : ObjsM σ hp [] := trivial
theorem qat6 {i : Nat} {t : TypeId} {cs ds : List SV} {r : Hp} (h : geth hp (σ i) = some (.cells t cs)) (h2 : CoL cs (ds.map (ren σ))) (g : ObjsM σ hp r) : ObjsM σ hp ((i, .cells t ds) :: r) := ⟨⟨_, h, rfl, h2⟩, g⟩
theorem qbex {i e z : Nat} {es fs : List (List SV)} {r : Hp} (h : geth hp (σ i) = some (.row e z es)) (h2 : fs.map (·.map (ren σ)) = fs) (h3 : es = fs) (g : ObjsM σ hp r) : ObjsM σ hp ((i, .row e z fs) :: r) := ⟨⟨_, h, rfl, rfl, by rw [h2, h3]; exact CoLL.refl _⟩, g⟩
theorem qa5s {i e z : Nat} {es fs : List (List SV)} [PureR fs] {r : Hp} (h : geth hp (σ i) = some (.row e z es)) (h3 : es = fs) (g : ObjsM σ hp r) : ObjsM σ hp ((i, .row e z fs) :: r) := qbex h (PureR.ren σ) h3 g
theorem qa5t {i e z : Nat} {es fs : List (List SV)} {r : Hp} (h : geth hp (σ i) = some (.row e z es)) (h3 : CoLL es (fs.map (·.map (ren σ)))) (g : ObjsM σ hp r) : ObjsM σ hp ((i, .row e z fs) :: r) := ⟨⟨_, h, rfl, rfl, h3⟩, g⟩
def diag (m : Nat) (E : List (Nat × Nat)) (hp : Hp) : List (Nat × Nat) := ((List.range m ++ (idsH hp).filter fun i => decide (m ≤ i)).filter fun i => !(E.any fun p => p.1 == i)).map fun i => (i, i)
theorem qaah (E : List (Nat × Nat)) {m : Nat} (hm : X.m = m) (hsl : SlotsM (rn (E ++ diag m E s'.hp) s.nx) s.sl s'.sl) (hhp : ObjsM (rn (E ++ diag m E s'.hp) s.nx) s.hp s'.hp) (hok : qabz m s'.nx (E ++ diag m E s'.hp) s'.hp = true) (hle : m ≤ s'.nx) : Wk X s s' := qaeu _ hm hok hle hsl hhp
theorem qaa5 {α : Type} {c : SCode} (F : SSt → α → SSt) (I : α → Prop) (μ : α → Nat) (a : α) (hw : Wk X s (F s a)) (h0 : I a) (h : ∀ J : SSt → Nat → Prop, RowKit.Hid (∀ a, I a → J (F s a) (μ a)) → ∀ a, I a → SWp X c (qbk4 X J (μ a) Q) (F s a)) : SWp X (.loop c) Q s :=
 qank (fun s' n => ∃ a, s' = F s a ∧ I a ∧ n = μ a) hw ⟨a, rfl, h0, rfl⟩ fun s' n ⟨a, e, hi, hn⟩ => by subst e hn; exact h _ (Lib.hid fun a hi => ⟨a, rfl, hi, rfl⟩) a hi
theorem qaai {α : Type} {F : α → SSt} {I : α → Prop} {μ : α → Nat} {n : Nat} {J : SSt → Nat → Prop} (hJ : RowKit.Hid (∀ a, I a → J (F a) (μ a))) (a : α) (hw : Wk X s' (F a)) (h0 : I a) (hn : μ a < n) : qbk4 X J n Q .normal s' := ⟨F a, μ a, hw, (by have h : ∀ a, I a → J (F a) (μ a) := hJ; exact h a h0), hn⟩
def qbhc : Nat → List (TypeId × Nat × List (List SV)) → Hp
 | _, [] => []
 | q, x :: r => (q, .row x.1 x.2.1 x.2.2) :: qbhc (q + 1) r
theorem qasp : ∀ (l : List (TypeId × Nat × List (List SV))) (q i : Nat), geth (qbhc q l) (q + i) = (l[i]?).map fun x => .row x.1 x.2.1 x.2.2
 | [], _, _ => rfl
 | x :: r, q, 0 => by simp [qbhc, geth]
 | x :: r, q, i + 1 => by
  simp only [qbhc, geth]
  rw [if_neg (by omega), show q + (i + 1) = q + 1 + i by omega, qasp r (q + 1) i]; simp
theorem qbhk {σ : Nat → Nat} {H : Hp} : ∀ (l : List (TypeId × Nat × List (List SV))) (a : Nat), (∀ x ∈ l, PureR x.2.2) → (∀ i x, l[i]? = some x → geth H (σ (a + i)) = some (.row x.1 x.2.1 x.2.2)) → ObjsF σ H (qbhc a l)
 | [], _, _, _ => trivial
 | x :: r, a, hp, h => by
  have := hp x (by simp)
  exact ⟨⟨.row x.1 x.2.1 x.2.2, h 0 x rfl, rfl, rfl, PureR.ok, (PureR.ren σ).symm⟩, qbhk r (a + 1) (fun y hy => hp y (by simp [hy])) fun i y hy => by rw [show a + 1 + i = a + (i + 1) by omega]; exact h (i + 1) y (by simpa using hy)⟩
theorem qajq (l : List (TypeId × Nat × List (List SV))) : ∀ q, idsH (qbhc q l) = (List.range' q l.length) := by
 induction l with
 | nil => intro q; rfl
 | cons x r ih => intro q; simp only [qbhc, List.length_cons, List.range'_succ]; rw [← ih]; rfl
theorem qat1 {P : Program} {f : FuncId} {args : List SV} {r : SV} (l : List (TypeId × Nat × List (List SV))) (h : SCalls P f args [] 0 r (qbhc 0 l)) (ha : ∀ σ, args.map (Go.Proofs.YteoijlmgiemffaaGreat.ren σ) = args) (hp : ∀ x ∈ l, PureR x.2.2) (hl : l.length ≤ 8) (q : Nat) {r' : SV} (hr : r' = Go.Proofs.YteoijlmgiemffaaGreat.ren (sg [] q) r) (hk : ok2 r = true) : SCalls P f args [] q r' (qbhc q l) := by
 have e : ∀ i, i < 8 → sg [] q i = q + i := fun i hi => by unfold sg; simp [hi]
 refine qaev [] h rfl (by simp) (by simp) (ha _).symm trivial (by simp [idsH]) hr hk (qbhk l 0 hp fun i x hx => ?_) (fun i hi => ?_) ?_
 ·have hi : i < l.length := (List.getElem?_eq_some_iff.1 hx).1
  rw [Nat.zero_add, e i (by omega), qasp, hx]; rfl
 ·rw [qajq] at hi
  have := List.mem_range'_1.1 hi
  simp; omega
 ·rw [qajq, qajq]
  apply List.ext_getElem
  ·simp
  ·intro i h1 h2
   simp at h1
   simp [e i (by omega)]
theorem qac9 {P : Program} {f : FuncId} {args : List SV} {t : TypeId} {cs ds : List SV} {r : SV} (h : SCalls P f (.ptr 0 0 :: args) [(0, .cells t cs)] 1 r [(0, .cells t ds)]) (ha : ∀ σ, args.map (Go.Proofs.YteoijlmgiemffaaGreat.ren σ) = args)
  (hc : ∀ σ, cs.map (Go.Proofs.YteoijlmgiemffaaGreat.ren σ) = cs) (hd : ∀ σ, ds.map (Go.Proofs.YteoijlmgiemffaaGreat.ren σ) = ds) (hk : ds.all ok2 = true) (hr : ∀ σ, Go.Proofs.YteoijlmgiemffaaGreat.ren σ r = r) (hk2 : ok2 r = true) (id q : Nat) (hq : id < q) : SCalls P f (.ptr id 0 :: args) [(id, .cells t cs)] q r [(id, .cells t ds)] := by
 have e0 : sg [id] q 0 = id := rfl
 refine qaev [id] h rfl (by simp) (by simp; omega) ?_ ?_ (by simp [idsH]) (hr _).symm hk2 ?_ (by simp [idsH]) (by simp [idsH, e0])
 ·rw [List.map_cons, ha]; simp [Go.Proofs.YteoijlmgiemffaaGreat.ren, ren1, ren0, e0]
 ·exact ⟨⟨.cells t cs, by rw [e0]; simp [geth], rfl, by rw [hc]; exact CoL.refl _⟩, trivial⟩
 ·exact ⟨⟨.cells t ds, by rw [e0]; simp [geth], rfl, hk, (hd _).symm⟩, trivial⟩
def NoN (x : SV) : Prop := ∀ σ, Go.Proofs.YteoijlmgiemffaaGreat.ren σ x = x
theorem wk_fin {t m : Nat} {v : SV} {nx : Nat} (hm : X.m = m) (hv : NoN v) (h0 : m = 0) : Wk X ⟨(t, v) :: sl, hp, nx⟩ ⟨[(t, v)], [], 0⟩ := by
 subst h0
 refine qaah [] hm ⟨?_, trivial⟩ trivial rfl (Nat.le_refl _)
 rw [hv]; simp only [gets, if_true]; exact Co.refl _
theorem qakx {t nx : Nat} {v r : SV} (hm : X.m = 0) (h : v = r) (hv : NoN r) : QFun X [.tmp t] 0 r [] .ret ⟨(t, v) :: sl, hp, nx⟩ := by
 subst h
 exact ⟨_, wk_fin hm hv rfl, by simp [qakm, resL, resV, one_, gets], trivial, by simp⟩
theorem wk_obj {t nx : Nat} {cs ds : List SV} {sl' : Sl} (hm : X.m = 1) (h : geth hp 0 = some (.cells t cs)) (e : cs = ds) (hd : ∀ σ, ds.map (Go.Proofs.YteoijlmgiemffaaGreat.ren σ) = ds) (hs : SlotsM (rn ([] ++ diag 1 [] [(0, .cells t ds)]) nx) sl sl') : Wk X ⟨sl, hp, nx⟩ ⟨sl', [(0, .cells t ds)], 1⟩ := by
 subst e
 refine qaah [] hm hs ⟨⟨_, h, rfl, ?_⟩, trivial⟩ rfl (Nat.le_refl _)
 rw [hd]; exact CoL.refl _
theorem qbjv {t nx : Nat} {cs ds : List SV} (hm : X.m = 1) (h : geth hp 0 = some (.cells t cs)) (e : cs = ds) (hd : ∀ σ, ds.map (Go.Proofs.YteoijlmgiemffaaGreat.ren σ) = ds) : QFun X [] 1 (.tup []) [(0, .cells t ds)] .ret ⟨sl, hp, nx⟩ :=
 ⟨_, wk_obj (sl' := []) hm h e hd trivial, rfl, ⟨rfl, trivial⟩, by simp⟩
theorem qact {t nx : Nat} {cs ds : List SV} (hm : X.m = 1) (h : geth hp 0 = some (.cells t cs)) (e : cs = ds) (hd : ∀ σ, ds.map (Go.Proofs.YteoijlmgiemffaaGreat.ren σ) = ds) : QFun X [] 1 (.tup []) [(0, .cells t ds)] .normal ⟨sl, hp, nx⟩ := qbjv hm h e hd
theorem qafk (k : IntKind) (n : Int) : NoN (.int k n) := fun _ => rfl
theorem qbji (b : Bool) : NoN (.bool b) := fun _ => rfl
theorem qads (z : Nat) (es : List (List SV)) : NoN (.view z es) := fun _ => rfl
theorem wk_gets {sl' : Sl} {nx : Nat} (h : ∀ t, gets sl t = gets sl' t) : Wk X ⟨sl, hp, nx⟩ ⟨sl', hp, nx⟩ := fun ρ fp a w hs => ⟨ρ, fp, ⟨hs.sim.h, hs.sim.tmps, hs.sim.defers, fun t => by have := hs.sim.slots t; rw [show gets sl t = gets sl' t from h t] at this; exact this⟩, hs.fresh, hs.le⟩
theorem qas6 : ∀ (l : Sl) (t : Nat) (v : SV) (u : Nat), gets (setS l t v) u = if u = t then v else gets l u
 | [], t, v, u => by simp only [setS, gets, eq_comm]
 | (i, x) :: l, t, v, u => by
  simp only [setS]
  by_cases h : i = t
  ·subst h
   rw [if_pos rfl]
   simp only [gets]
   by_cases h2 : i = u
   ·subst h2; simp
   ·rw [if_neg h2, if_neg (fun e => h2 e.symm), if_neg h2]
  ·rw [if_neg h]
   simp only [gets]
   by_cases h2 : i = u
   ·subst h2; rw [if_pos rfl, if_neg h, if_pos rfl]
   ·rw [if_neg h2, if_neg h2]; exact qas6 l t v u
theorem qadw (t e size : Nat) (h : gets s.sl t = .nilsl) : Wk X s ⟨setS s.sl t (.own s.nx 0), puth s.hp s.nx (.row e size []), s.nx + 1⟩ :=
 (qbie t e size h).trans (wk_gets fun u => by rw [qahe, qas6])
theorem zA {a b : SCode} (h : SWp X a (QSeq X b Q) s) : SWp X (.seq a b) Q s := qad8 h
theorem zK {l : List (SOper × Tch)} {p : Prop} (hp : p) (h : qans l = true := by with_unfolding_all rfl) : qans l = true ∧ p := ⟨h, hp⟩
theorem zM {t nx : Nat} {k : IntKind} {a b : Int} (hm : X.m = 0) (h : a = b) : QFun X [.tmp t] 0 (.int k b) [] .ret ⟨(t, .int k a) :: sl, hp, nx⟩ := qakx hm (congrArg _ h) (qafk _ _)
theorem zN {t nx : Nat} {a b : Bool} (hm : X.m = 0) (h : a = b) : QFun X [.tmp t] 0 (.bool b) [] .ret ⟨(t, .bool a) :: sl, hp, nx⟩ := qakx hm (congrArg _ h) (qbji _)
theorem za {t : Nat} {v : SV} {r : Sl} (h : Co (gets sl t) (ren σ v)) (g : SlotsM σ sl r) : SlotsM σ sl ((t, v) :: r) := ⟨h, g⟩
theorem zb {i : Nat} {t : TypeId} (cs : List SV) {ds : List SV} {r : Hp} (h : geth hp (σ i) = some (.cells t cs)) (h2 : CoL cs (ds.map (ren σ))) (g : ObjsM σ hp r) : ObjsM σ hp ((i, .cells t ds) :: r) := qat6 h h2 g
theorem zc {i e z : Nat} (es : List (List SV)) {fs : List (List SV)} [PureR fs] {r : Hp} (h : geth hp (σ i) = some (.row e z es)) (h3 : es = fs) (g : ObjsM σ hp r) : ObjsM σ hp ((i, .row e z fs) :: r) := qa5s h h3 g
theorem zd {i e z : Nat} (es : List (List SV)) {fs : List (List SV)} {r : Hp} (h : geth hp (σ i) = some (.row e z es)) (h3 : CoLL es (fs.map (·.map (ren σ)))) (g : ObjsM σ hp r) : ObjsM σ hp ((i, .row e z fs) :: r) := qa5t h h3 g
theorem zga {h : Hp} {i : Nat} {o : SObj} (e : geth h i = some o) : geth h i = some o := e
theorem zgb {m n : Nat} {l : List (Nat × Nat)} {h : Hp} (e : qabz m n l h = true) : qabz m n l h = true := e
theorem zgc {a b : List (List SV)} (e : a = b) : a = b := e
theorem zgd {a b : Nat} (e : a ≤ b) : a ≤ b := e
theorem zge {a b : Nat} (e : a < b) : a < b := e
theorem zT : (∀ (s : SSt) (l : List (Nat × SV)) (h : List (Nat × SObj)), s.turn l h = ⟨qbk9 s.sl l, qblb s.hp h, s.nx⟩) ∧ (∀ l, qbk9 l [] = l) ∧ (∀ l t v r, qbk9 l ((t, v) :: r) = qbk9 (setS l t v) r) ∧ (∀ t v, setS [] t v = [(t, v)]) ∧ (∀ u x l t v, setS ((u, x) :: l) t v = if u = t then (t, v) :: l else (u, x) :: setS l t v) ∧ (∀ h, qblb h [] = h) ∧ (∀ h i o r, qblb h ((i, o) :: r) = qblb (puth h i o) r) :=
 ⟨fun _ _ _ => rfl, fun l => by cases l <;> rfl, fun l t v r => by cases l <;> rfl, fun _ _ => rfl, fun _ _ _ _ _ => rfl, fun h => by cases h <;> rfl, fun h _ _ _ => by cases h <;> rfl⟩
end Go.Proofs.YteoijlmgiemffaaGreat
namespace Go.Proofs.YteoijlmgiemffaaGreat
set_option linter.all false
open Go.RowKit
def insC : Int × Int × Int × Int × Int × Int → List SV
 | (a, b, c, d, e, n) => [.int .i64 a, .int .i64 b, .int .i64 c, .int .i64 d, .int .i64 e, .int .u64 n]
def lcode : List (List SV) := List.map insC [(1, 0, 0, 0, 0, 0), (1, 9, 0, 0, 0, 0), (8, 0, 0, 0, 0, 0), (8, 0, 0, 0, 0, 1), (8, 0, 0, 0, 0, 2), (8, 0, 0, 0, 0, 3), (8, 0, 0, 0, 0, 4), (8, 0, 0, 0, 0, 5), (8, 0, 0, 0, 0, 6), (8, 0, 0, 0, 0, 7), (8, 0, 0, 0, 0, 8), (8, 0, 0, 0, 0, 9), (9, 9, 0, 0, 33, 1), (6, 0, 9, 1, 0, 0), (1, 1, 0, 0, 0, 255), (3, 0, 1, 6, 0, 0), (8, 0, 0, 0, 0, 1), (1, 0, 0, 0, 0, 1), (8, 0, 0, 0, 0, 0), (1, 0, 0, 0, 0, 1), (3, 9, 0, 3, 0, 0), (12, 0, 0, 0, 0, 0), (7, 0, 0, 0, 0, 1), (1, 1, 0, 0, 0, 1), (3, 0, 1, 3, 0, 0), (1, 1, 0, 0, 0, 255), (3, 0, 1, 6, 0, 0), (8, 0, 0, 0, 0, 1), (12, 0, 0, 0, 0, 0), (7, 0, 0, 0, 0, 3), (1, 1, 0, 0, 0, 1), (11, 0, 1, 0, 14, 0), (7, 0, 0, 0, 0, 0), (1, 1, 0, 0, 0, 0), (11, 0, 1, 0, 8, 0), (1, 2, 0, 0, 0, 0), (1, 1, 0, 0, 0, 8), (3, 2, 1, 9, 0, 0), (7, 0, 0, 0, 0, 1), (3, 2, 0, 7, 0, 0), (2, 0, 2, 0, 0, 0), (14, 0, 0, 1, 0, 0), (1, 2, 0, 0, 0, 0), (15, 9, 0, 0, 0, 0), (7, 0, 0, 0, 0, 2), (16, 0, 0, 0, 0, 0), (17, 0, 0, 0, 0, 0)]
def lhints : List (Nat × List (List Nat)) := [(8,[[],[2,1],[13,1],[0],[5,3],[0]]),(15,[[0],[1,0],[0]]),(19,[[3,2,1],[4,3,2,1],[12,4,3,2,1],[2,3],[3,2,1,5],[3,2,1,5],[3,2,1,5],[3,2,1,5],[3,2,1,5,41,40],[42,40,41,5,1,2,3],[6,41,3,2,1,5,40],[41,3,2,1,5,40],[3,2,1,5,41,40],[7,5,1,2,3],[7,5,1,2,3],[5,1,2,3],[5,1,2,3],[5,1,2,3],[2,3]]),(25,[[1,2],[4,2],[2]]),(56,[[3,1],[5,3,1,4],[16,5,3,1,4],[2,3],[6,3,1,4],[6,3,1,4,25,24],[26,24,25,4,1,3,6],[25,6,3,1,4,24],[6,3,1,4,25,24],[7,1,3,6],[44,7,1,3,6],[1,3,6],[3,6,55,54],[56,54,55,6,3],[8,55,3,6,54],[55,3,6,54],[3,6,55,54],[67,6,3],[2,3],[2,3]]),(109,[[1,3],[4,1,3],[11,4,1,3],[2,3],[1,3,5],[1,3,5],[3,5,30,29],[31,29,30,5,3],[6,30,3,5,29],[30,3,5,29],[3,5,30,29],[42,5,3],[2,3],[2,3]]),(138,[[2,1],[2,3,1],[2,3,1],[2,3,1,4],[31,4,1,3,2],[6,4,2,3,1],[4,2,3,1],[2,3,1,4],[1,3,2],[1,3,2,59,61,60],[62,60,59,61,2,3,1],[8,7,61,1,3,2,59,60],[61,1,3,2,59,60],[1,3,2,59,61,60],[82,2,3,1],[2],[2,3,1],[2,3,1],[2,3,1],[2,3,1],[2,3,1],[2,3,1,9],[113,1,9,3,2],[9,2,3,1],[9,2,3,1],[2,3,1,9],[2]]),(155,[[16,3,2,0],[]]),(68,[[1,3],[16,1,3],[2,3],[1,3,4],[3,4,19,21,20],[22,20,19,21,4,3],[5,4,6,21,3,19,20],[31,5,4,6,21,3,19,20],[2,3],[21,3,4,19,20],[3,4,19,21,20],[44,4,3],[2,3],[2,3]]),(156,[[0],[2,0],[41,2,0],[0,2,3],[0,2,3,4],[0,2,3,4],[0,2,3,4],[0,2,3,5,4],[0,2,3,5,4],[0,2,3,97,5,4,99,98],[100,98,4,5,97,99,3,2,0],[7,99,0,2,3,97,5,4,98],[7,99,0,2,3,97,5,4,98],[99,0,2,3,97,5,4,98],[0,2,3,97,5,4,99,98],[2,0],[2,0]]),(66,[[2,3,4],[3,7,4],[9,3,7,4],[6],[18,3,7,4],[7,4],[24,3,7,4],[7,4],[43,7,4],[6],[56,7,4],[6],[6]]),(178,[[11,0,2,1],[0,2,1],[]]),(157,[[0],[0,2],[32,0,2],[3,2,0],[4,3,2,0],[4,3,2,0],[4,3,2,0,59,61,60],[62,60,59,61,0,2,3,4],[6,61,4,3,2,0,59,60],[61,4,3,2,0,59,60],[4,3,2,0,59,61,60],[0,2,3,4,7],[87,4,3,7,2,0],[7,0,2,3,4],[0,2,3,4,7],[0,2]]),(179,[[2,5,0,3],[2,9,5,0,3],[13,2,9,5,0,3],[0,5,2,3],[],[26,2,9,5,0,3],[26,2,9,5,0,3],[],[34,2,9,5,0,3],[36,2,9,5,0,3],[],[44,5,0,3],[0,5,3],[],[]]),(189,[[0,4,2],[]]),(180,[[3,0,1,2],[3,8,0,1,2],[3,8,0,1,2,9],[28,2,1,9,0,8,3],[8,10,9,3,0,1,2],[8,10,9,3,0,1,2],[8,10,9,3,0,1,2],[9,3,8,0,1,2],[3,8,0,1,2,9],[]]),(190,[[0],[3,0],[2],[10,0],[2],[17],[2],[2]]),(158,[[0],[0,2],[30,0,2],[3,2,0],[3,2,0],[3,4,2,0],[3,4,2,0],[5,2,0],[2,0],[0,2]]),(159,[[0],[2,0],[32,2,0],[3,0,2],[3,0,2,4],[3,5,0,2,4],[51,3,5,0,2,4],[55,51,3,5,0,2,4],[5,0,2,4],[5,0,2,4],[76,51,3,5,0,2,4],[3,5,0,2,4],[5,0,2,4],[5,0,2,4],[120,51,3,5,0,2,4],[5,0,2,4],[127,3,5,0,2,4],[5,0,2,4],[5,0,2,4],[0,2,134,4,136,135],[137,135,4,134,136,2,0],[7,136,0,2,134,4,135],[7,136,0,2,134,4,135],[136,0,2,134,4,135],[0,2,134,4,136,135],[2,0]]),(160,[[]]),(144,[[0,1],[4]]),(165,[[1,0],[1,0,8,7],[9,7,0,1,8],[5,8,1,0,7],[16,5,8,1,0,7],[4],[1,0,8,7],[4]]),(139,[[1,5,4,0],[27,1,5,4,0],[30,1,5,4,0],[1,5,4,0],[6,1,5,4,0],[1,5,4,0],[79,1,5,4,0],[5,4,0],[5,4,0,99,101,100],[102,100,99,101,0,4,5],[9,101,5,4,0,99,100],[101,5,4,0,99,100],[5,4,0,99,101,100],[]]),(162,[[0],[2]]),(161,[[16,3,2,0],[]]),(163,[[5,1,0],[7,5,1,0],[5,1,0],[21,5,1,0],[]]),(181,[[2,3,4],[7,2,3,4],[4],[4]]),(110,[[1,5,4,0],[30,1,5,4,0],[1,5,6,7,4,0],[8,5,6,7,4,0],[8,5,36,6,7,4,0],[37,8,5,36,6,7,4,0],[8,5,7,4,0,9],[8,5,7,4,0,9,49,51,50],[52,50,49,51,9,0,4,7,5,8],[11,51,8,5,7,4,0,9,49,50],[51,8,5,7,4,0,9,49,50],[8,5,7,4,0,9,49,51,50],[9,0,4,7,6,5,8],[0,4,7,6,62,5,8,64,63],[65,63,8,5,62,64,6,7,4,0],[6,13,64,0,4,7,62,5,8,63],[64,0,4,7,6,62,5,8,63],[0,4,7,6,62,5,8,64,63],[76,8,5,36,6,7,4,0],[6,7,4,0],[84,8,5,36,6,7,4,0],[6,7,4,0],[92,6,7,4,0],[7,6,4,0],[6,7,4,0],[7,4,0],[122,7,4,0],[]]),(141,[[1,2,3,0],[2,19,3,0,21,20],[22,20,0,3,19,21,2],[10,21,2,19,3,0,20],[26,10,21,2,19,3,0,20],[27,26,10,21,2,19,3,0,20],[10,21,2,19,3,0,20],[21,2,19,3,0,20],[41,26,10,21,2,19,3,0,20],[21,2,19,3,0,20],[49,26,10,21,2,19,3,0,20],[21,2,19,3,0,20],[56,26,10,21,2,19,3,0,20],[21,2,19,3,0,20],[63,10,21,2,19,3,0,20],[10,21,2,19,3,0,20],[21,2,19,3,0,20],[2,19,3,0,21,20],[8]]),(142,[[10,3,2,0,12,11],[13,11,0,2,3,10,12],[9,12,10,3,2,0,11],[18,9,12,10,3,2,0,11],[12,10,3,2,0,11],[10,3,2,0,12,11]]),(140,[[0,5,2,3],[]]),(143,[[0],[2]]),(164,[[14,2,0],[]]),(36,[[],[0]]),(37,[[0,8,10,9],[11,9,8,10,0],[3,10,0,8,9],[3,10,0,8,9],[10,0,8,9],[0,8,10,9],[0],[0],[0],[0],[0],[]]),(38,[[0],[0],[2]]),(40,[[0,1,4],[4]]),(39,[[]]),(41,[[1,0,4],[4]]),(42,[[2,3],[2,4,3],[2,4,3,16,15],[17,15,16,3,4,2],[16,2,4,3,15],[2,4,3,16,15],[4,5,2],[32,4,34,5,2,33],[35,34,32,4,5,2,33],[6,33,2,5,4,32,34,7],[33,2,5,4,32,34,7],[50,33,2,5,4,32,34,7],[33,2,5,4,32,34,7],[58,33,2,5,4,32,34,7],[33,2,5,4,32,34,7],[33,2,5,4,32,34,7,64,66,65],[67,65,64,66,7,34,32,4,5,2,33],[9,66,33,2,5,4,32,34,7,64,65],[66,33,2,5,4,32,34,7,64,65],[33,2,5,4,32,34,7,64,66,65],[34,32,4,5,2,33],[32,4,34,5,2,33]]),(43,[[0,1],[25,0,1],[4],[],[4]]),(78,[[4,1,0],[4,1,0],[4,1,0,6],[4,1,0,44,6,46,45],[47,45,44,46,6,0,1,4],[7,6,8,46,4,1,0,44,45],[9,10,7,6,8,46,4,1,0,44,45],[10,7,6,8,46,4,1,0,44,45],[7,6,8,46,4,1,0,44,45],[6,8,46,4,1,0,44,45],[46,4,1,0,44,6,45],[4,1,0,44,6,46,45],[]]),(117,[[11,2,1,4,3,0],[]]),(118,[[0,3],[0,3],[]]),(123,[[]]),(75,[[0],[8,0],[2],[2]]),(80,[[0,1,2,6],[6]]),(119,[[0,3],[6,0,3],[7,6,0,3],[4],[16,0,3],[4],[4]]),(77,[[1,2,3,0],[1,6,2,3,0],[7,1,6,2,3,0],[5],[10,2,3,0],[5],[5]]),(82,[[0,2],[2]]),(44,[[0,2],[0,2,12,11],[13,11,12,2,0],[12,0,2,11],[0,2,12,11],[2,0,27,29,28],[30,28,27,29,0,2],[3,4,29,2,0,27,28],[4,29,2,0,27,28],[44,4,29,2,0,27,28],[45,44,4,29,2,0,27,28],[29,2,0,27,28],[56,44,4,29,2,0,27,28],[4,29,2,0,27,28],[62,44,4,29,2,0,27,28],[4,29,2,0,27,28],[4,29,2,0,27,28],[81,4,29,2,0,27,28],[4,29,2,0,27,28],[29,2,0,27,28],[2,0,27,29,28],[]]),(84,[[14,0,16,15],[17,15,0,14,16],[5,16,14,0,15],[21,5,16,14,0,15],[22,21,5,16,14,0,15],[5,16,14,0,15],[16,14,0,15],[32,21,5,16,14,0,15],[16,14,0,15],[38,21,5,16,14,0,15],[16,14,0,15],[56,21,5,16,14,0,15],[16,14,0,15],[70,21,5,16,14,0,15],[16,14,0,15],[16,14,0,15],[16,14,0,15],[89,5,16,14,0,15],[16,14,0,15],[14,0,16,15]]),(85,[[1,4,0],[7,4,0,9,8],[10,8,0,7,9,4],[4,6,9,7,0,8],[14,4,6,9,7,0,8],[29,14,4,6,9,7,0,8],[4,9,7,0,8],[41,14,4,6,9,7,0,8],[4,9,7,0,8],[48,4,6,9,7,0,8],[4,9,7,0,8],[4,9,7,0,8],[6,4,9,7,0,8],[4,9,7,0,8],[9,7,4,0,8],[7,4,0,9,8]]),(79,[[0,1,5],[8,0,1,5],[],[]]),(86,[[0,1,4],[4]]),(45,[[1],[1],[1,26,28,27],[29,27,26,28,1],[3,28,1,26,27],[3,4,28,1,26,27],[3,4,28,1,26,27],[4,28,1,26,27],[28,1,26,27],[1,26,28,27],[1],[1],[]]),(81,[[0,1,2,6],[6]]),(87,[[0,4,3,2,1],[0,10,4,3,2,1],[0,10,4,3,29,2,1,31,30],[32,31,29,2,1,30,3,4,10,0],[11,10,12,30,1,2,29,3,4,0,31],[11,10,12,30,1,2,29,3,4,0,31],[41,11,10,12,30,1,2,29,3,4,0,31],[10,12,30,1,2,29,3,4,0,31],[30,1,2,29,3,4,10,0,31],[65,31,0,10,4,3,29,2,1,30],[10,13,30,1,2,29,3,4,0,31],[68,10,13,30,1,2,29,3,4,0,31],[10,13,30,1,2,29,3,4,0,31],[10,13,30,1,2,29,3,4,0,31],[10,13,30,1,2,29,3,4,0,31],[13,30,1,2,29,3,4,10,0,31],[30,1,2,29,3,4,10,0,31],[92,30,1,2,29,3,4,10,0,31],[30,1,2,29,3,4,10,0,31],[30,1,2,29,3,4,10,0,31],[0,10,4,3,29,2,1,31,30],[105,3,4,10,0],[0,10,4,3],[4,3],[]]),(88,[[]]),(26,[[1],[3,1],[3,10,12,1,11],[13,12,10,1,11,3],[5,11,1,10,12,3],[5,11,1,10,12,6,3],[11,1,10,12,6,3,21,23,22],[24,22,21,23,3,6,12,10,1,11],[8,23,11,1,10,12,6,3,21,22],[8,23,11,1,10,12,6,3,21,22],[23,11,1,10,12,6,3,21,22],[11,1,10,12,6,3,21,23,22],[12,3,10,1,11],[3,10,12,1,11],[2]]),(46,[[1,2,7,6,0],[7,6,8,0],[7,6,8,23,0,25,24],[26,24,0,23,25,8,6,7],[10,9,25,7,6,8,23,0,24],[33,10,9,25,7,6,8,23,0,24],[57,10,9,25,7,6,8,23,0,24],[6,7],[9,11,25,7,6,8,23,0,24],[73,9,11,25,7,6,8,23,0,24],[6,7],[25,7,6,8,23,0,24],[7,6,8,23,0,25,24],[12,8,6,7],[88,12,8,6,7],[6,7],[6,7]]),(89,[[0],[4,0],[2],[2]]),(90,[[0],[4,0],[2],[2]]),(91,[[0],[2]]),(47,[[1,2],[15,1,2],[2],[32,1,2],[2],[1,2,35,37,36],[38,36,35,37,2,1],[4,3,37,1,2,35,36],[69,3,37,1,2,35,36],[2],[1,2,35,37,36],[2,1,75,77,76],[78,76,75,77,1,2],[6,5,77,2,1,75,76],[86,6,5,77,2,1,75,76],[2],[103,5,77,2,1,75,76],[2],[2,1,75,77,76],[1,7,2],[118,7,2],[2],[2]]),(92,[[3,2],[5,3,2],[61,3,2],[4],[81,3,2],[4],[83,3,2],[84,83,3,2],[4],[94,83,3,2],[4],[109,83,3,2],[4],[119,83,3,2],[119,83,3,2],[4],[129,83,3,2],[4],[134,3,2],[143,2,3],[4],[2,3,6],[4],[4]]),(94,[[0],[8,0],[2],[2]]),(93,[[0,1],[0,1,8,7],[9,7,1,0,8],[5,8,0,1,7],[15,8,0,1,7],[4],[0,1,8,7],[4]]),(125,[[0],[2]]),(95,[[0],[2]]),(20,[[1,2,3,8,10,4],[11,1,2,3,8,10,4],[22,11,1,2,3,8,10,4],[8,9,10],[28,1,2,3,8,10,4],[8,9,10],[33,1,2,3,8,10,4],[8,9,10],[41,1,2,3,8,10,4],[8,9,10],[12,8,10,4],[14,13,12,8,10,4],[15,13,14,12,8,10,4],[67,15,13,14,12,8,10,4],[8,9,10],[17,16,15,13,14,12,8,10,4],[77,17,16,15,13,14,12,8,10,4],[8,9,10],[84,16,15,13,14,12,8,10,4],[8,9,10],[94,15,13,14,12,8,10,4],[13,14,12,8,10,4],[14,13,12,8,10,4]]),(48,[[2,1],[12,2,1],[4],[14,1,16,15],[17,15,1,14,16],[5,6,16,14,1,15],[35,16,14,1,15],[4],[14,1,16,15],[4]]),(49,[[0,3],[7,0,3],[8,7,0,3],[4,5],[10,7,0,3],[4,5],[29,7,0,3],[4,5],[53,0,3],[4,5],[4,5]]),(99,[[0,3],[8,0,3],[9,8,0,3],[4],[17,8,0,3],[4],[28,8,0,3],[38,0,3],[4],[4],[51,8,0,3],[4],[56,8,0,3],[56,8,0,3],[5,0,3],[65,5,0,3],[4],[69,0,3],[4],[4],[84,8,0,3],[84,0,3],[6,0,3],[95,6,0,3],[4],[99,0,3],[4],[4],[4]]),(127,[[0,1,2],[],[6]]),(131,[[3,0],[5,3,0],[14,5,3,0],[4],[3,6,0],[3,6,0,24],[25,3,6,0,24],[4],[33,3,6,0,24],[],[50,3,6,0,24],[0,6,7],[56,6,0,7],[7,0,6],[0,6,7],[75,6,0,24],[80,0,6],[4],[],[97,6,0,24],[],[106],[4]]),(98,[[1,0],[7,0,9,8],[10,8,0,7,9],[6,9,7,0,8],[19,9,7,0,8],[4],[7,0,9,8],[4]]),(97,[[0,1,2],[1,7,2],[6]]),(129,[[3,0],[3,0,5],[24,3,0,5],[4],[6,3,0,5],[6,3,0,5,27,26],[28,26,5,27,0,3,6],[6,7,27,3,0,5,26],[27,6,3,0,5,26],[6,3,0,5,27,26],[4]]),(6,[[0,2,1],[7,2,1],[8,7,2,1],[6],[13,7,2,1],[6],[18,7,2,1],[6],[23,7,2,1],[6],[28,7,2,1],[6],[33,7,2,1],[6],[38,7,2,1],[6],[43,7,2,1],[6],[48,7,2,1],[6],[54,2,1],[6],[6]]),(17,[[2,3],[4]]),(35,[[0,1],[4]])]
noncomputable def wcB : Bool := match run Tryz.prog lhints kn0 20000 (.call 47 [.agg [.int .i64 10, .nilsl, .view 6 lcode]] [] 0) with
 | some (.val r [] _) => eqV 9 r (.agg [.int .i64 0, .int .i64 0])
 | _ => false
theorem mixedL : Tryz.prog.follows .mixedOrders = true := by kernel_rfl
theorem wcB_t : wcB = true := by kernel_rfl
theorem qa50 : ∀ e ∈ lcode, qanb e := fun e he => by
 obtain ⟨⟨a, b, c, d, f, n⟩, -, rfl⟩ := List.mem_map.1 he
 exact qab4 _ rfl
theorem wc_view (q : Nat) : SCalls Tryz.prog 47 [.agg [.int .i64 10, .nilsl, .view 6 lcode]] [] q (.agg [.int .i64 0, .int .i64 0]) [] := by
 have h := wcB_t
 unfold wcB at h
 split at h
 ·rename_i r nx hr
  obtain rfl := qan5 9 _ _ h
  obtain ⟨_, _, h3⟩ : _ ∧ _ ∧ _ := qa48 mixedL kn0_ok 20000 _ _ hr
  exact qaip h3 (fun _ => rfl) (fun _ => rfl) q
 ·cases h
theorem wc_own (i : Nat) (e : TypeId) (q : Nat) : SCalls Tryz.prog 47 [.agg [.int .i64 10, .nilsl, .own i lcode.length]] [(i, .row e 6 lcode)] q (.agg [.int .i64 0, .int .i64 0]) [(i, .row e 6 lcode)] :=
 qaio (wc_view q) ⟨qbjj ⟨qajx _, qajx _, qanv (e := e) (by simp [geth]) qa50 rfl, trivial⟩, trivial⟩ (qatg (qae9 (qahk _ _) (qae9 (qahk _ _) qalk)))
noncomputable def knW (g : FuncId) (as_ : List SV) (h : Hp) (nx : Nat) : Option Ans := match Nat.beq g 47 with
 | false => none
 | true => match as_, h with
  | [.agg [a, b, .own i n]], [(j, .row e z es)] => match eqV 9 a (.int .i64 10) && eqV 9 b .nilsl && Nat.beq i j && Nat.beq n 47 && Nat.beq z 6 && eqV.eqVss (eqV 9) es lcode with
   | true => some (.val (.agg [.int .i64 0, .int .i64 0]) h (nx + 8))
   | false => none
  | _, _ => none
theorem knW_ok : ∀ g as_ h nx a, knW g as_ h nx = some a → Good Tryz.prog (.call g as_ h nx) a := by
 intro g as_ h nx a hk
 unfold knW at hk
 split at hk
 ·cases hk
 ·rename_i hg
  split at hk
  ·split at hk
   ·rename_i a' b i n j e z es hc
    simp only [Bool.and_eq_true, Nat.beq_eq] at hc
    obtain ⟨⟨⟨⟨⟨h1, h2⟩, h3⟩, h4⟩, h5⟩, h6⟩ := hc
    obtain rfl := qan5 9 _ _ h1
    obtain rfl := qan5 9 _ _ h2
    obtain rfl := qaj5 (qan5 9) h6
    subst h3 h4 h5
    cases hk
    obtain rfl := Nat.eq_of_beq_eq_true hg
    refine ⟨by omega, ⟨rfl, trivial⟩, ?_⟩
    rw [show nx + 8 - nx = 8 by omega]
    exact wc_own _ _ nx
   ·cases hk
  ·cases hk
theorem qbjl (q : Nat) : SCalls Tryz.prog 8 [] [] q (.bool true) [] := qbel mixedL knW_ok (H := lhints) (n := 20000) (by kernel_rfl) q
end Go.Proofs.YteoijlmgiemffaaGreat
namespace Go.Proofs.YteoijlmgiemffaaGreat
set_option linter.all false
open Go.RowKit
def qatj : List SOper := [⟨(some 4), .mv (.c (.bool false)), none, none, 0⟩]
def qati : List SOper := [⟨(some 5), .mv (.t 0), none, none, 0⟩,
 ⟨(some 6), .mv (.t 1), none, none, 0⟩,
 ⟨(some 7), .mv (.c .any), some ((.c (.fn (.func 152) [] [])), [(.t 6)]), none, 0⟩,
 ⟨(some 8), .bin .gtr (.t 5) (.t 7), none, none, 0⟩,
 ⟨(some 4), .mv (.t 8), none, none, 0⟩]
def c_wide : SCode := (.seq (.reg false qatj [0, 1]) (.seq (.reg false qati [4]) .ret))
theorem qaud : comp Tryz.prog 9 ((Tryz.f133.body).getD .skip) = some c_wide.erase := by kernel_rfl
def qatt : List SOper := [⟨(some 2), .mv (.c (.int .u64 0)), none, none, 0⟩]
def qats : List SOper := [⟨(some 3), .mv (.c (.int .u64 0)), none, none, 0⟩]
def qatr : List SOper := [⟨(some 4), .mv (.c (.int .i64 0)), none, none, 0⟩]
def qatq : List SOper := [⟨(some 5), .mv (.t 4), none, none, 0⟩,
 ⟨(some 6), .mv (.t 0), none, none, 0⟩,
 ⟨(some 7), .bin .lss (.t 5) (.t 6), none, none, 0⟩,
 ⟨(some 8), .mv (.t 7), none, none, 0⟩,
 ⟨(some 9), .mv (.t 0), none, (some (8, true)), 0⟩,
 ⟨(some 10), .bin .leq (.t 9) (.c (.int .i64 64)), none, (some (8, true)), 0⟩,
 ⟨(some 11), .pick (.t 8) (.t 10) (.c (.bool false)), none, none, 0⟩]
def qatp : List SOper := [⟨(some 14), .mv (.t 3), none, none, 0⟩,
 ⟨(some 15), .bin .mul (.c (.int .u64 2)) (.t 14), none, none, 0⟩,
 ⟨(some 16), .bin .add (.t 15) (.c (.int .u64 1)), none, none, 0⟩,
 ⟨(some 3), .mv (.t 16), none, none, 0⟩]
def qato : List SOper := [⟨(some 12), .mv (.t 4), none, none, 0⟩,
 ⟨(some 13), .bin .add (.t 12) (.c (.int .i64 1)), none, none, 0⟩,
 ⟨(some 4), .mv (.t 13), none, none, 0⟩]
def qatu : SCode := (.seq (.seq (.reg false qatq [0, 3, 4, 11]) (.cond (.t 11) .skip (.exit 0))) (.seq (.block 1 (.reg false qatp [0, 3, 4])) (.reg false qato [0, 3, 4])))
def qakb : List SOper := [⟨(some 17), .mv (.t 3), none, none, 0⟩,
 ⟨(some 2), .mv (.t 17), none, none, 0⟩]
def c_ones : SCode := (.seq (.reg false qatt [0]) (.seq (.reg false qats [0, 3]) (.seq (.seq (.reg false qatr [0, 3, 4]) (.block 0 (.loop qatu))) (.seq (.reg false qakb [2]) .ret))))
theorem qauk : comp Tryz.prog 18 ((Tryz.f152.body).getD .skip) = some c_ones.erase := by kernel_rfl
end Go.Proofs.YteoijlmgiemffaaGreat
namespace Go.Proofs.YteoijlmgiemffaaGreat
set_option linter.all false
open Go.RowKit
def qaed (p : Nat → Bool) : Nat → Nat
 | 0 => 0
 | n + 1 => if qaed p n < n then qaed p n else if p n then n else n + 1
theorem qaj4 (p : Nat → Bool) (n : Nat) : qaed p n ≤ n := by
 induction n with
 | zero => simp [qaed]
 | succ n ih => simp only [qaed]; repeat' split
                all_goals omega
theorem qag3 (p : Nat → Bool) (n i : Nat) (h : i < qaed p n) : p i = false := by
 induction n with
 | zero => simp [qaed] at h
 | succ n ih =>
  have hle := qaj4 p n
  simp only [qaed] at h
  split at h
  ·exact ih h
  ·split at h
   ·exact ih (by omega)
   ·rename_i h1 h2
    by_cases hi : i = n
    ·subst hi; simpa using h2
    ·exact ih (by omega)
theorem qatc (p : Nat → Bool) (n : Nat) (h : qaed p n < n) : p (qaed p n) = true := by
 induction n with
 | zero => simp [qaed] at h
 | succ n ih =>
  simp only [qaed] at h ⊢
  split
  ·rename_i h1; exact ih h1
  ·split
   ·assumption
   ·rename_i h1 h2; rw [if_neg h1, if_neg h2] at h; omega
theorem qbff (p : Nat → Bool) (n i : Nat) (h : ∀ j, j < i → p j = false) (hp : p i = true) (hi : i < n) : qaed p n = i := by
 rcases Nat.lt_trichotomy (qaed p n) i with hlt | he | hgt
 ·have := qatc p n (by omega)
  rw [h _ hlt] at this; cases this
 ·exact he
 ·have := qag3 p n i hgt
  rw [hp] at this; cases this
theorem qaub (p : Nat → Bool) (n : Nat) (h : ∀ j, j < n → p j = false) : qaed p n = n := by
 have hle := qaj4 p n
 by_cases hlt : qaed p n < n
 ·have := qatc p n hlt
  rw [h _ hlt] at this; cases this
 ·omega
theorem qa59 (p : Nat → Bool) (n : Nat) (h : qaed p n = n) : ∀ j, j < n → p j = false := fun j hj => qag3 p n j (by omega)
def qad1 (l : List Int) : Nat → Int
 | 0 => 0
 | i + 1 => qad1 l i + el l i
end Go.Proofs.YteoijlmgiemffaaGreat
namespace Go.Proofs.YteoijlmgiemffaaGreat
set_option linter.all false
open Go.RowKit
structure Ins where
 op : Int
 r : Int
 s : Int
 k : Int
 to : Int
 n : Int
 deriving Inhabited, DecidableEq
structure Shape where
 keys : Int
 acts : Int
 args : Int
 deriving Inhabited, DecidableEq
def Ins.wf (x : Ins) : Prop := Fits .i64 x.op ∧ Fits .i64 x.r ∧ Fits .i64 x.s ∧ Fits .i64 x.k ∧ Fits .i64 x.to ∧ Fits .u64 x.n
def Shape.wf (x : Shape) : Prop := Fits .i64 x.keys ∧ Fits .i64 x.acts ∧ Fits .i64 x.args
def Ins.cells (x : Ins) : List Value := [.int .i64 x.op, .int .i64 x.r, .int .i64 x.s, .int .i64 x.k, .int .i64 x.to, .int .u64 x.n]
def Shape.cells (x : Shape) : List Value := [.int .i64 x.keys, .int .i64 x.acts, .int .i64 x.args]
def Lay.flat {α : Type} (size : Nat) (enc : α → List Value) (ok : α → Prop) (hl : ∀ a, (enc a).length = size) : Lay α where
 size := size
 rep _ _ x cs := cs = enc x ∧ ok x
 len h := by rw [h.1]; exact hl _
 step h _ := h
 weaken h _ := h
end Go.Proofs.YteoijlmgiemffaaGreat
namespace Go.Proofs.YteoijlmgiemffaaGreat
set_option linter.all false
open Go.RowKit
theorem qacz : Tryz.prog.follows .mixedOrders = true := by kernel_rfl
end Go.Proofs.YteoijlmgiemffaaGreat
namespace Go.Proofs.YteoijlmgiemffaaGreat
set_option linter.all false
open Go.RowKit Go.ChangeShapes Go.WideShapes Go.Deep
structure Opens (P : Program) (t : TypeId) {α : Type} (L : Lay α) : Prop where
 size : P.cellsOf t = L.size
 pos : 0 < L.size
 opn : ∀ {H : Type} {enc : TypeId × Value → H} {w : World} {fuel : Nat} {cs : List Value} {x : DataW H × List MemPlace}, DataW.trod enc P w 0 (fun _ => true) true fuel t cs = some x → ∃ a, L.rep NoA w a cs
theorem Opens.int {P : Program} {t : TypeId} {k : IntKind} (hu : P.underlying t = some (.int k)) (hc : P.cellsOf t = 1) : Opens P t (Lay.int k) :=
 ⟨hc, Nat.one_pos, fun h => by obtain ⟨n, rfl, _, hw⟩ := DataW.trod_int hu h; exact ⟨n, rfl, hw⟩⟩
theorem Opens.bool {P : Program} {t : TypeId} (hu : P.underlying t = some .bool) (hc : P.cellsOf t = 1) : Opens P t Lay.bool :=
 ⟨hc, Nat.one_pos, fun h => by obtain ⟨n, rfl, _⟩ := DataW.trod_bool hu h; exact ⟨n, rfl⟩⟩
theorem Opens.weak {P : Program} {t : TypeId} {α β : Type} {L : Lay α} {M : Lay β} (h : Opens P t L) (hs : M.size = L.size) (f : ∀ {w a cs}, L.rep NoA w a cs → ∃ b, M.rep NoA w b cs) : Opens P t M :=
 ⟨h.size.trans hs.symm, by rw [hs]; exact h.pos, fun hx => by obtain ⟨a, ha⟩ := h.opn hx; exact f ha⟩
theorem Opens.slice {P : Program} {t e : TypeId} {α : Type} {L : Lay α} (h : Opens P e L) (hu : P.underlying t = some (.slice e)) (hc : P.cellsOf t = 1) : Opens P t (Lay.slice L) := by
 refine ⟨hc, Nat.one_pos, fun {H enc w fuel cs x} hx => ?_⟩
 rcases open_slice hu hx with ⟨rfl, _⟩ | ⟨a, len, cap, m, n, D, Pl, rfl, _, hl, hm, hmm, _, hi⟩
 ·exact ⟨[], none, 0, 0, rfl, RdL.nil_ _ _ _⟩
 ·simp at hmm
  subst hmm
  have hs : a.spot = none ∨ m = 0 := by
   rcases Nat.eq_zero_or_pos m with e | e
   ·exact .inr e
   ·left
    obtain ⟨cs', hc', _⟩ := hi 0 e
    obtain ⟨_, hcl, hat⟩ := World.cells?_some hc'
    have h0 := hat 0 (by rw [h.size]; exact h.pos)
    obtain ⟨b, off, spot⟩ := a
    cases spot with
    | none => rfl
    | some s =>
     rw [List.getElem?_eq_getElem (by rw [hcl, h.size]; exact h.pos)] at h0
     simp [Addr.add, World.cell?] at h0
     split at h0 <;> simp at h0
  rcases hs with hs | rfl
  ·obtain ⟨b, off, spot⟩ := a
   obtain rfl : spot = none := hs
   have hel : ∀ i, i < m → ∃ x, ∃ cs, L.rep NoA w x cs ∧ ∀ j, j < L.size → w.cell? ⟨b, off + i * L.size + j, none⟩ = cs[j]? := by
    intro i him
    obtain ⟨cs', hc', ht⟩ := hi i him
    obtain ⟨x, hr⟩ := h.opn ht
    obtain ⟨_, hcl, hat⟩ := World.cells?_some hc'
    refine ⟨x, cs', hr, fun j hj => ?_⟩
    have := hat j (by rw [h.size]; exact hj)
    rw [h.size, qaff, qaff] at this
    exact this
   have hex : ∀ i : Nat, ∃ x : Option α, i < m → ∃ y, x = some y ∧ ∃ cs, L.rep NoA w y cs ∧ ∀ j, j < L.size → w.cell? ⟨b, off + i * L.size + j, none⟩ = cs[j]? := by
    intro i
    by_cases him : i < m
    ·obtain ⟨x, hx⟩ := hel i him
     exact ⟨some x, fun _ => ⟨x, rfl, hx⟩⟩
    ·exact ⟨none, fun h => absurd h him⟩
   obtain ⟨f, hf⟩ := Classical.axiomOfChoice hex
   have hfs : ∀ i (hh : i < m), (f i).isSome := fun i hh => by obtain ⟨y, hy, _⟩ := hf i hh; rw [hy]; rfl
   let xs : List α := List.ofFn fun i : Fin len => (f i).get (hfs i (by omega))
   have hxl : xs.length = len := by simp [xs]
   refine ⟨xs, some ⟨b, off, none⟩, len, m, rfl, hxl, hl, hm, by simp, fun h0 => ?_⟩
   have hblk : b < w.heap.size := by
    obtain ⟨y, hy, cs, hr, hj⟩ := hf 0 (by omega)
    have h00 := hj 0 h.pos
    rw [List.getElem?_eq_getElem (by rw [L.len hr]; exact h.pos)] at h00
    exact block_lt_of_cell h00
   refine ⟨b, off, rfl, fun h => h, hblk, fun i hi' => ?_⟩
   obtain ⟨y, hy, cs, hr, hj⟩ := hf i (by omega)
   refine ⟨cs, ?_, hj⟩
   have : xs[i] = y := by simp [xs, hy]
   rw [this]; exact hr
  ·obtain rfl : len = 0 := by omega
   refine ⟨[], some a, 0, 0, rfl, rfl, Nat.le_refl _, hm, by simp, fun h => absurd h (by omega)⟩
def OpensF (P : Program) (fs : List Field) (off : Nat) {α : Type} (L : Lay α) : Prop :=
 ∀ {H : Type} {enc : TypeId × Value → H} {w : World} {cs : List Value}, (∀ f ∈ fs, ∃ fuel x, DataW.trod enc P w 0 (fun _ => true) true fuel f.type ((cs.drop f.offset).take (P.cellsOf f.type)) = some x) → cs.length = off + L.size → ∃ a, L.rep NoA w a (cs.drop off)
theorem OpensF.one {P : Program} {f : Field} {off : Nat} {α : Type} {L : Lay α} (h : Opens P f.type L) (ho : f.offset = off) : OpensF P [f] off L := by
 intro H enc w cs hf hl
 obtain ⟨fuel, x, hx⟩ := hf f (by simp)
 rw [ho, h.size, List.take_of_length_le (by simp; omega)] at hx
 exact h.opn hx
theorem OpensF.cons {P : Program} {f : Field} {fs : List Field} {off : Nat} {α β : Type} {L : Lay α} {M : Lay β} (h : Opens P f.type L) (ho : f.offset = off) (g : OpensF P fs (off + L.size) M) : OpensF P (f :: fs) off (Lay.pair L M) := by
 intro H enc w cs hf hl
 obtain ⟨fuel, x, hx⟩ := hf f (by simp)
 rw [ho, h.size] at hx
 obtain ⟨a, ha⟩ := h.opn hx
 obtain ⟨b, hb⟩ := g (cs := cs) (fun f' hf' => hf f' (List.mem_cons_of_mem _ hf')) (by rw [hl]; show _ = _; simp only [Lay.pair]; omega)
 refine ⟨(a, b), _, _, ?_, ha, hb⟩
 rw [← List.drop_drop, List.take_append_drop]
theorem Opens.struct {P : Program} {t : TypeId} {fs : List Field} {α : Type} {L : Lay α} (hu : P.underlying t = some (.struct fs.toArray)) (h : OpensF P fs 0 L) (hc : P.cellsOf t = L.size) (hp : 0 < L.size) : Opens P t L := by
 refine ⟨hc, hp, fun {H enc w fuel cs x} hx => ?_⟩
 obtain ⟨xs, n, _, _, hl, hxl, hf⟩ := DataW.trod_struct hu hx
 have := h (cs := cs) (enc := enc) (w := w) (fun f hf' => ?_) (by rw [hl, hc, Nat.zero_add])
 ·simpa using this
 ·obtain ⟨i, hi, rfl⟩ := List.getElem_of_mem hf'
  refine ⟨n, xs[i]'(by rw [hxl]; simpa using hi), ?_⟩
  rw [hf i _ (by simp [hi])]
  exact List.getElem?_eq_getElem _
theorem Opens.arg {P : Program} {t : TypeId} {fs : Array Field} {α : Type} {L : Lay α} (h : Opens P t L) (hu : P.underlying t = some (.struct fs)) {H : Type} {enc : TypeId × Value → H} {w : World} {r : Reach} {b0 : Nat} {v : Value} {d : DataW H} {p : List MemPlace}
  (hv : Value.okWide P w r b0 t v) (ht : DataW.Trod enc P w 0 (fun _ => true) true t v d p) : ∃ a cs, v = .agg cs ∧ L.rep NoA w a cs.toList := by
 obtain ⟨cs, rfl, _⟩ := okWide_struct hu hv
 obtain ⟨fuel, hf⟩ := ht
 obtain ⟨a, ha⟩ := h.opn hf
 exact ⟨a, cs, rfl, ha⟩
theorem Opens.argSlice {P : Program} {t e : TypeId} {α : Type} {L : Lay α} (h : Opens P e L) (hu : P.underlying t = some (.slice e)) (hc : P.cellsOf t = 1) {H : Type} {enc : TypeId × Value → H} {w : World} {r : Reach} {b0 : Nat} {v : Value} {d : DataW H} {p : List MemPlace}
  (hv : Value.okWide P w r b0 t v) (ht : DataW.Trod enc P w 0 (fun _ => true) true t v d p) : ∃ xs ao n cap, v = .slice ao n cap ∧ RdL L NoA w ao n cap xs := by
 obtain ⟨a, len, cap, rfl⟩ := okWide_slice hu hv
 obtain ⟨fuel, hf⟩ := ht
 obtain ⟨xs, ao, n, cap', e, hr⟩ := (h.slice hu hc).opn hf
 simp [Value.cells] at e
 obtain ⟨rfl, rfl, rfl⟩ := e
 exact ⟨xs, _, _, _, rfl, hr⟩
end Go.Proofs.YteoijlmgiemffaaGreat
namespace Go.Proofs.YteoijlmgiemffaaGreat
set_option linter.all false
open Go.RowKit Go.ChangeShapes Go.WideShapes
structure RefD where
 h : Int
 f : Int
structure PushD where
 op : Int
 r : RefD
 n : Int
structure HeadD where
 w : List Int
structure CaseD where
 value : Int
 mask : Int
 to_ : Int
structure StateD where
 head : Int
 on : RefD
 cases_ : List CaseD
 els : Int
structure OpD where
 kind : Int
 r : RefD
 head : Int
 e : List PushD
structure ActD where
 w : List Int
 ops : List OpD
structure TabD where
 kind : Int
 keys : List RefD
 acts : List Int
 cap : Int
 def_ : Int
 args : List Int
structure NodeD where
 kind : Int
 n : Int
 e : List PushD
 yes : Int
 no : Int
structure PlanD where
 heads : List HeadD
 meta_ : List Int
 states : List StateD
 acts : List ActD
 tabs : List TabD
 nodes : List NodeD
 out : List Int
def refc (r : RefD) : List SV := [.int .i64 r.h, .int .i64 r.f]
def qaes (p : PushD) : List SV := [.int .i64 p.op, .int .i64 p.r.h, .int .i64 p.r.f, .int .u64 p.n]
def qab2 (l : List PushD) : SV := .view 4 (l.map qaes)
def qadt (h : HeadD) : List SV := [nums .i64 h.w]
def qaei (c : CaseD) : List SV := [.int .u64 c.value, .int .u64 c.mask, .int .i64 c.to_]
def qab8 (s : StateD) : List SV := [.int .i64 s.head, .int .i64 s.on.h, .int .i64 s.on.f, .view 3 (s.cases_.map qaei), .int .i64 s.els]
def opc (o : OpD) : List SV := [.int .i64 o.kind, .int .i64 o.r.h, .int .i64 o.r.f, .int .i64 o.head, qab2 o.e]
def actc (a : ActD) : List SV := [nums .i64 a.w, .view 5 (a.ops.map opc)]
def tabc (t : TabD) : List SV := [.int .i64 t.kind, .view 2 (t.keys.map refc), nums .i64 t.acts, .int .i64 t.cap, .int .i64 t.def_, nums .u64 t.args]
def qaea (n : NodeD) : List SV := [.int .i64 n.kind, .int .i64 n.n, qab2 n.e, .int .i64 n.yes, .int .i64 n.no]
def qacm (p : PlanD) : List SV := [.view 1 (p.heads.map qadt), nums .i64 p.meta_, .view 5 (p.states.map qab8), .view 2 (p.acts.map actc), .view 6 (p.tabs.map tabc), .view 5 (p.nodes.map qaea), nums .i64 p.out]
def i64L : Lay Int := Lay.int .i64
def u64L : Lay Int := Lay.int .u64
def qaht : Lay RefD := Lay.map (fun r => (r.h, r.f)) (Lay.pair i64L i64L)
def qag2 : Lay PushD := Lay.map (fun p => (p.op, p.r, p.n)) (Lay.pair i64L (Lay.pair qaht u64L))
def qaks : Lay HeadD := Lay.map (fun h => h.w) (Lay.slice i64L)
def qall : Lay CaseD := Lay.map (fun c => (c.value, c.mask, c.to_)) (Lay.pair u64L (Lay.pair u64L i64L))
def qaho : Lay StateD := Lay.map (fun s => (s.head, s.on, s.cases_, s.els)) (Lay.pair i64L (Lay.pair qaht (Lay.pair (Lay.slice qall) i64L)))
def opLay : Lay OpD := Lay.map (fun o => (o.kind, o.r, o.head, o.e)) (Lay.pair i64L (Lay.pair qaht (Lay.pair i64L (Lay.slice qag2))))
def qbd7 : Lay ActD := Lay.map (fun a => (a.w, a.ops)) (Lay.pair (Lay.slice i64L) (Lay.slice opLay))
def qa4u : Lay TabD := Lay.map (fun t => (t.kind, t.keys, t.acts, t.cap, t.def_, t.args)) (Lay.pair i64L (Lay.pair (Lay.slice qaht) (Lay.pair (Lay.slice i64L) (Lay.pair i64L (Lay.pair i64L (Lay.slice u64L))))))
def qakq : Lay NodeD := Lay.map (fun n => (n.kind, n.n, n.e, n.yes, n.no)) (Lay.pair i64L (Lay.pair i64L (Lay.pair (Lay.slice qag2) (Lay.pair i64L i64L))))
def planLay : Lay PlanD := Lay.map (fun p => (p.heads, p.meta_, p.states, p.acts, p.tabs, p.nodes, p.out)) (Lay.pair (Lay.slice qaks) (Lay.pair (Lay.slice i64L) (Lay.pair (Lay.slice qaho) (Lay.pair (Lay.slice qbd7) (Lay.pair (Lay.slice qa4u) (Lay.pair (Lay.slice qakq) (Lay.slice i64L)))))))
theorem qajz : LayP qaht refc := qaeb (fun r : RefD => (r.h, r.f)) (qabx (qacd .i64) (qacd .i64))
theorem qas1 : LayP qag2 qaes := qaeb (fun p : PushD => (p.op, p.r, p.n)) (qabx (qacd .i64) (qabx qajz (qacd .u64)))
theorem qbe4 : LayP qaks qadt := qaeb (fun h : HeadD => h.w) (qacc (qacd .i64))
theorem qbe5 : LayP qall qaei := qaeb (fun c : CaseD => (c.value, c.mask, c.to_)) (qabx (qacd .u64) (qabx (qacd .u64) (qacd .i64)))
theorem qa51 : LayP qaho qab8 := qaeb (fun s : StateD => (s.head, s.on, s.cases_, s.els)) (qabx (qacd .i64) (qabx qajz (qabx (qacc qbe5) (qacd .i64))))
theorem layP_op : LayP opLay opc := qaeb (fun o : OpD => (o.kind, o.r, o.head, o.e)) (qabx (qacd .i64) (qabx qajz (qabx (qacd .i64) (qacc qas1))))
theorem qbjn : LayP qbd7 actc := qaeb (fun a : ActD => (a.w, a.ops)) (qabx (qacc (qacd .i64)) (qacc layP_op))
theorem qbjm : LayP qa4u tabc := qaeb (fun t : TabD => (t.kind, t.keys, t.acts, t.cap, t.def_, t.args)) (qabx (qacd .i64) (qabx (qacc qajz) (qabx (qacc (qacd .i64)) (qabx (qacd .i64) (qabx (qacd .i64) (qacc (qacd .u64)))))))
theorem qbe3 : LayP qakq qaea := qaeb (fun n : NodeD => (n.kind, n.n, n.e, n.yes, n.no)) (qabx (qacd .i64) (qabx (qacd .i64) (qabx (qacc qas1) (qabx (qacd .i64) (qacd .i64)))))
theorem qbe2 : LayP planLay qacm := qaeb (fun p : PlanD => (p.heads, p.meta_, p.states, p.acts, p.tabs, p.nodes, p.out)) (qabx (qacc qbe4) (qabx (qacc (qacd .i64)) (qabx (qacc qa51) (qabx (qacc qbjn) (qabx (qacc qbjm) (qabx (qacc qbe3) (qacc (qacd .i64))))))))
def qbk5 (p : PushD) : Prop := Fits .i64 p.op ∧ (Fits .i64 p.r.h ∧ Fits .i64 p.r.f) ∧ Fits .u64 p.n
def OkRef (r : RefD) : Prop := Fits .i64 r.h ∧ Fits .i64 r.f
def qbk6 (c : CaseD) : Prop := Fits .u64 c.value ∧ Fits .u64 c.mask ∧ Fits .i64 c.to_
def qbib (s : StateD) : Prop := Fits .i64 s.head ∧ OkRef s.on ∧ (∀ c ∈ s.cases_, qbk6 c) ∧ Fits .i64 s.els
def OkOp (o : OpD) : Prop := Fits .i64 o.kind ∧ OkRef o.r ∧ Fits .i64 o.head ∧ ∀ x ∈ o.e, qbk5 x
def OkAct (a : ActD) : Prop := AllFit .i64 a.w ∧ ∀ o ∈ a.ops, OkOp o
def OkTab (t : TabD) : Prop := Fits .i64 t.kind ∧ (∀ r ∈ t.keys, OkRef r) ∧ AllFit .i64 t.acts ∧ Fits .i64 t.cap ∧ Fits .i64 t.def_ ∧ AllFit .u64 t.args
def OkNode (n : NodeD) : Prop := Fits .i64 n.kind ∧ Fits .i64 n.n ∧ (∀ x ∈ n.e, qbk5 x) ∧ Fits .i64 n.yes ∧ Fits .i64 n.no
def qaha (p : PlanD) : Prop := (∀ h ∈ p.heads, AllFit .i64 h.w) ∧ AllFit .i64 p.meta_ ∧ (∀ s ∈ p.states, qbib s) ∧ (∀ a ∈ p.acts, OkAct a) ∧ (∀ t ∈ p.tabs, OkTab t) ∧ (∀ n ∈ p.nodes, OkNode n) ∧ AllFit .i64 p.out
theorem qaj0 : LayF qaht OkRef := qaec (fun r : RefD => (r.h, r.f)) (qaby (qacs .i64) (qacs .i64))
theorem qas2 : LayF qag2 qbk5 := qaec (fun p : PushD => (p.op, p.r, p.n)) (qaby (qacs .i64) (qaby qaj0 (qacs .u64)))
theorem qae5 (k : IntKind) : LayF (Lay.slice (Lay.int k)) (AllFit k) := fun A w x cs h => qac4 (qacs k) A w x cs h
theorem qbe8 : LayF qaks (fun h => AllFit .i64 h.w) := qaec (fun h : HeadD => h.w) (qae5 .i64)
theorem qbe9 : LayF qall qbk6 := qaec (fun c : CaseD => (c.value, c.mask, c.to_)) (qaby (qacs .u64) (qaby (qacs .u64) (qacs .i64)))
theorem qa52 : LayF qaho qbib := qaec (fun s : StateD => (s.head, s.on, s.cases_, s.els)) (qaby (qacs .i64) (qaby qaj0 (qaby (qac4 qbe9) (qacs .i64))))
theorem layF_op : LayF opLay OkOp := qaec (fun o : OpD => (o.kind, o.r, o.head, o.e)) (qaby (qacs .i64) (qaby qaj0 (qaby (qacs .i64) (qac4 qas2))))
theorem qbjq : LayF qbd7 OkAct := qaec (fun a : ActD => (a.w, a.ops)) (qaby (qae5 .i64) (qac4 layF_op))
theorem qbjo : LayF qa4u OkTab := qaec (fun t : TabD => (t.kind, t.keys, t.acts, t.cap, t.def_, t.args)) (qaby (qacs .i64) (qaby (qac4 qaj0) (qaby (qae5 .i64) (qaby (qacs .i64) (qaby (qacs .i64) (qae5 .u64))))))
theorem qbe7 : LayF qakq OkNode := qaec (fun n : NodeD => (n.kind, n.n, n.e, n.yes, n.no)) (qaby (qacs .i64) (qaby (qacs .i64) (qaby (qac4 qas2) (qaby (qacs .i64) (qacs .i64)))))
theorem qbe6 : LayF planLay qaha := qaec (fun p : PlanD => (p.heads, p.meta_, p.states, p.acts, p.tabs, p.nodes, p.out)) (qaby (qac4 qbe8) (qaby (qae5 .i64) (qaby (qac4 qa52) (qaby (qac4 qbjq) (qaby (qac4 qbjo) (qaby (qac4 qbe7) (qae5 .i64)))))))
end Go.Proofs.YteoijlmgiemffaaGreat
namespace Go.Proofs.YteoijlmgiemffaaGreat
set_option linter.all false
open Go.RowKit
def mk (f : Nat → Int) (m : Nat) : List Int := (List.range m).map f
def Bits (f : Nat → Int) : Prop := ∀ k, 0 ≤ f k ∧ f k ≤ 1
def acc (f : Nat → Int) : Nat → Int
 | 0 => 0
 | i + 1 => 2 * acc f i + f i
theorem Bits.drop {xs : List Int} (h : Bits (el xs)) (lo : Nat) : Bits (el (xs.drop lo)) := fun k => by rw [el_drop]; exact h _
theorem Bits.take {xs : List Int} (h : Bits (el xs)) (m : Nat) : Bits (el (xs.take m)) := fun k => by
 rw [el_take]; split
 ·exact h k
 ·omega
theorem Bits.append {xs ys : List Int} (h : Bits (el xs)) (g : Bits (el ys)) : Bits (el (xs ++ ys)) := fun k => by
 rw [qbfh]; split
 ·exact h k
 ·exact g _
theorem Bits.fit {xs : List Int} (h : Bits (el xs)) : AllFit .u8 xs := by
 intro x hx
 obtain ⟨i, hi, rfl⟩ := List.mem_iff_getElem.1 hx
 have := h i
 rw [qble _ _ hi] at this
 exact Fits.of_u8 (by omega) (by omega)
end Go.Proofs.YteoijlmgiemffaaGreat
namespace Go.Proofs.YteoijlmgiemffaaGreat
set_option linter.all false
open Go.RowKit
theorem two_pow_pos (d : Nat) : (0 : Int) < 2 ^ d := Int.pow_pos (by omega)
end Go.Proofs.YteoijlmgiemffaaGreat
namespace Go.Proofs.YteoijlmgiemffaaGreat
set_option linter.all false
open Go.RowKit
theorem qbiz {k : IntKind} {a b : Int} (h : a = b) : Ending.returned (.int k a) = .returned (.int k b) := by rw [h]
def onesN (k : Nat) : Int := 2 ^ k - 1
def ones (w : Int) : Int := if 1 ≤ w ∧ w ≤ 64 then onesN w.toNat else 0
theorem qbev : ∀ k : Fin 65, (18446744073709551615 : Int) / 2 ^ (64 - k.val) = onesN k.val := by unfold onesN; decide +kernel
theorem qbk7 (w_ : Int) (w : World) (hw : Fits .i64 w_) :
  Calls Tryz.prog 75 #[.int .i64 w_] w fun e w' => e = .returned (.int .u64 (ones w_)) ∧ w = w' := by
 have h := hw.i64
 unfold ones
 by_cases h1 : w_ < 1
 ·rw [if_neg (by omega)]
  go_enter Tryz.func75, Tryz.ntmps75
  go_wp2_with fail
  go_ret
  exact ⟨rfl, rfl⟩
 by_cases h2 : 64 < w_
 ·rw [if_neg (by omega)]
  go_enter Tryz.func75, Tryz.ntmps75
  go_wp2_with fail
  go_ret
  exact ⟨rfl, rfl⟩
 ·rw [if_pos (by omega)]
  go_enter Tryz.func75, Tryz.ntmps75
  go_wp2_with fail
  go_ret
  refine ⟨qbiz ?_, rfl⟩
  have := qbev ⟨w_.toNat, by omega⟩
  rw [show (64 - w_).toNat = 64 - w_.toNat from by omega]
  exact this
end Go.Proofs.YteoijlmgiemffaaGreat
namespace Go.Proofs.YteoijlmgiemffaaGreat
set_option linter.all false
open Go.RowKit
def wBad (ws : List Int) (i : Nat) : Bool := decide (el ws i < 1 ∨ 48 < el ws i)
def qail (ws : List Int) : Int := if ws.length = 0 ∨ 8 < ws.length then 2 else if qaed (wBad ws) ws.length < ws.length then 6 else if qad1 ws ws.length % 8 ≠ 0 ∨ 256 < qad1 ws ws.length then 6 else 0
def qbd9 (ws : List Int) : Int := if ws.length = 0 ∨ 8 < ws.length then -1 else if qaed (wBad ws) ws.length < ws.length then (qaed (wBad ws) ws.length : Int) else if qad1 ws ws.length % 8 ≠ 0 ∨ 256 < qad1 ws ws.length then -1 else 0
def qasm (ws : List Int) : Int := if qail ws = 0 then qad1 ws ws.length / 8 else 0
theorem wOk {ws : List Int} {i : Nat} (h : wBad ws i = false) : 1 ≤ el ws i ∧ el ws i ≤ 48 := by
 unfold wBad at h; simp at h; omega
theorem wSum {ws : List Int} {k : Nat} (h : ∀ j, j < k → wBad ws j = false) : (k : Int) ≤ qad1 ws k ∧ qad1 ws k ≤ 48 * k := by
 induction k with
 | zero => simp [qad1]
 | succ k ih =>
  have h1 := ih (fun j hj => h j (by omega))
  have h2 := wOk (h k (by omega))
  show (k + 1 : Nat) ≤ qad1 ws k + el ws k ∧ qad1 ws k + el ws k ≤ 48 * (k + 1 : Nat)
  omega
theorem qask {ws : List Int} (h : qail ws = 0) : 1 ≤ ws.length ∧ ws.length ≤ 8 ∧ (∀ j, j < ws.length → wBad ws j = false) ∧ 8 * qasm ws = qad1 ws ws.length ∧ qad1 ws ws.length ≤ 256 ∧ qbd9 ws = 0 ∧ 1 ≤ qasm ws ∧ qasm ws ≤ 32 := by
 have h0 := h
 unfold qail at h
 by_cases h1 : ws.length = 0 ∨ 8 < ws.length
 ·rw [if_pos h1] at h; omega
 rw [if_neg h1] at h
 by_cases h2 : qaed (wBad ws) ws.length < ws.length
 ·rw [if_pos h2] at h; omega
 rw [if_neg h2] at h
 by_cases h3 : qad1 ws ws.length % 8 ≠ 0 ∨ 256 < qad1 ws ws.length
 ·rw [if_pos h3] at h; omega
 have hall := qa59 (wBad ws) ws.length (by have := qaj4 (wBad ws) ws.length; omega)
 have hs := wSum hall
 have hN : qasm ws = qad1 ws ws.length / 8 := by unfold qasm; rw [if_pos h0]
 have hA : qbd9 ws = 0 := by unfold qbd9; rw [if_neg h1, if_neg h2, if_neg h3]
 refine ⟨by omega, by omega, hall, by omega, by omega, hA, by omega, by omega⟩
end Go.Proofs.YteoijlmgiemffaaGreat
namespace Go.Proofs.YteoijlmgiemffaaGreat
set_option linter.all false
open Go.RowKit
theorem pow_i (i : Nat) (h : i < 64) : (2 : Int) ^ i ≤ 9223372036854775808 ∧ (0 : Int) < 2 ^ i := by
 have h1 : 2 ^ i ≤ 2 ^ 63 := Nat.pow_le_pow_right (by omega) (by omega)
 have h2 : 0 < 2 ^ i := Nat.two_pow_pos i
 have e : ((2 : Int) ^ i) = ((2 ^ i : Nat) : Int) := by simp
 rw [e]; omega
theorem ones_s (k : Int) : SCalls Tryz.prog 152 [.int .i64 k] [] 0 (.int .u64 (if k ≤ 64 then 2 ^ k.toNat - 1 else 0)) [] := by
 refine qaas (N := 18) Tryz.func152 rfl rfl (by kernel_rfl) qauk (by simp) ⟨rfl, trivial⟩ trivial ?_
 rintro X hP hN hm
 unfold c_ones
 refine qad8 (qaac ?_)
 simp -implicitDefEqProofs [qatt, qabi, qabh, qaax, qaa7, qaay, qaa6, qabf, qabg, qaar, qabr, SOp.run, SX.ev, putd, puts, argS, upds, SOp.touch, SSt.keep, SSt.skip, gets, geth, puth, delh, idOf, SV.cells?, setL, qadh, qadi, sbin, eq0, eq1, eqL, qadf, qab9, qaca, qaap, qabk, qaag, qabl, qabs, qaaj]
 refine qad8 (qaac ?_)
 simp -implicitDefEqProofs [qats, qabi, qabh, qaax, qaa7, qaay, qaa6, qabf, qabg, qaar, qabr, SOp.run, SX.ev, putd, puts, argS, upds, SOp.touch, SSt.keep, SSt.skip, gets, geth, puth, delh, idOf, SV.cells?, setL, qadh, qadi, sbin, eq0, eq1, eqL, qadf, qab9, qaca, qaap, qabk, qaag, qabl, qabs, qaaj]
 refine qad8 (qad8 (qaac ?_))
 simp -implicitDefEqProofs [qatr, qabi, qabh, qaax, qaa7, qaay, qaa6, qabf, qabg, qaar, qabr, SOp.run, SX.ev, putd, puts, argS, upds, SOp.touch, SSt.keep, SSt.skip, gets, geth, puth, delh, idOf, SV.cells?, setL, qadh, qadi, sbin, eq0, eq1, eqL, qadf, qab9, qaca, qaap, qabk, qaag, qabl, qabs, qaaj]
 refine qaal (qank (fun s n => ∃ i : Nat, s = ⟨[(0, .int .i64 k), (3, .int .u64 (2 ^ i - 1)), (4, .int .i64 i)], [], 0⟩ ∧ (i : Int) ≤ 64 ∧ (0 < i → (i : Int) ≤ k ∧ k ≤ 64) ∧ n = k.toNat - i) (qaeu [] hm rfl (Nat.le_refl _) (by simp -implicitDefEqProofs [qaaq, FrzOk, qaba, qaa1, qaa8, qaa9, qaat, qaa0, qabm, qaa2, qaav, qabb, qaau, frzS, frzH, frz, frz1, frz0, SlotsM, ObjsM, ObjM, rn, ren, ren1, ren0, gets, geth, qabu, qab7, qacf, qabt, qabn, qacg, qace, CoL, qabc]) (by simp -implicitDefEqProofs [qaaq, FrzOk, qaba, qaa1, qaa8, qaa9, qaat, qaa0, qabm, qaa2, qaav, qabb, qaau, frzS, frzH, frz, frz1, frz0, SlotsM, ObjsM, ObjM, rn, ren, ren1, ren0, gets, geth, qabu, qab7, qacf, qabt, qabn, qacg, qace, CoL, qabc])) ⟨0, rfl, by omega, by omega, rfl⟩ ?_)
 rintro s n ⟨i, rfl, h1, h2, rfl⟩
 have fin : ¬ ((i : Int) < k ∧ k ≤ 64) → SWp X ((SCode.reg false qakb [2]).seq SCode.ret) (QFun X [ResultVar.tmp 2] 0 (SV.int IntKind.u64 (if k ≤ 64 then 2 ^ k.toNat - 1 else 0)) []) ⟨[(0, .int .i64 k), (3, .int .u64 (2 ^ i - 1)), (4, .int .i64 i)], [], 5⟩ := by
  intro hn
  refine qad8 (qaac ?_)
  simp -implicitDefEqProofs [qakb, qabi, qabh, qaax, qaa7, qaay, qaa6, qabf, qabg, qaar, qabr, SOp.run, SX.ev, putd, puts, argS, upds, SOp.touch, SSt.keep, SSt.skip, gets, geth, puth, delh, idOf, SV.cells?, setL, qadh, qadi, sbin, eq0, eq1, eqL, qadf, qab9, qaca, qaap, qabk, qaag, qabl, qabs, qaaj]
  refine qaam ?_
  refine qast (s' := ⟨[(2, .int .u64 (if k ≤ 64 then 2 ^ k.toNat - 1 else 0))], [], 0⟩) (qaeu [] hm rfl (Nat.le_refl _) ?_ ?_) rfl trivial (by simp)
  ·simp -implicitDefEqProofs [qaaq, FrzOk, qaba, qaa1, qaa8, qaa9, qaat, qaa0, qabm, qaa2, qaav, qabb, qaau, frzS, frzH, frz, frz1, frz0, SlotsM, ObjsM, ObjM, rn, ren, ren1, ren0, gets, geth, qabu, qab7, qacf, qabt, qabn, qacg, qace, CoL, qabc]
   refine qab7 ?_
   split
   ·have : k.toNat = i := by omega
    rw [this]
   ·have : i = 0 := by omega
    subst this; simp
  ·simp -implicitDefEqProofs [qaaq, FrzOk, qaba, qaa1, qaa8, qaa9, qaat, qaa0, qabm, qaa2, qaav, qabb, qaau, frzS, frzH, frz, frz1, frz0, SlotsM, ObjsM, ObjM, rn, ren, ren1, ren0, gets, geth, qabu, qab7, qacf, qabt, qabn, qacg, qace, CoL, qabc]
 unfold qatu
 refine qad8 (qad8 (qaac ?_))
 cases h3 : decide ((i : Int) < k) <;> simp -implicitDefEqProofs [qatq, qabi, qabh, qaax, qaa7, qaay, qaa6, qabf, qabg, qaar, qabr, SOp.run, SX.ev, putd, puts, argS, upds, SOp.touch, SSt.keep, SSt.skip, gets, geth, puth, delh, idOf, SV.cells?, setL, qadh, qadi, sbin, eq0, eq1, eqL, qadf, qab9, qaca, qaap, qabk, qaag, qabl, qabs, qaaj, h3]
 ·simp at h3
  refine qaaa rfl (by simp) fun _ => qaak ?_
  simp -implicitDefEqProofs [qabi, qabh, qaax, qaa7, qaay, qaa6, qabf, qabg, qaar, qabr, SOp.run, SX.ev, putd, puts, argS, upds, SOp.touch, SSt.keep, SSt.skip, gets, geth, puth, delh, idOf, SV.cells?, setL, qadh, qadi, sbin, eq0, eq1, eqL, qadf, qab9, qaca, qaap, qabk, qaag, qabl, qabs, qaaj]
  refine qaco (qaeu (s' := ⟨_, _, 5⟩) [] hm rfl (by simp) ?_ ?_) (fin (by omega))
  ·simp -implicitDefEqProofs [qaaq, FrzOk, qaba, qaa1, qaa8, qaa9, qaat, qaa0, qabm, qaa2, qaav, qabb, qaau, frzS, frzH, frz, frz1, frz0, SlotsM, ObjsM, ObjM, rn, ren, ren1, ren0, gets, geth, qabu, qab7, qacf, qabt, qabn, qacg, qace, CoL, qabc]
  ·simp -implicitDefEqProofs [qaaq, FrzOk, qaba, qaa1, qaa8, qaa9, qaat, qaa0, qabm, qaa2, qaav, qabb, qaau, frzS, frzH, frz, frz1, frz0, SlotsM, ObjsM, ObjM, rn, ren, ren1, ren0, gets, geth, qabu, qab7, qacf, qabt, qabn, qacg, qace, CoL, qabc]
 ·simp at h3
  refine qaaa rfl (fun h4 => qaaf ?_) fun h4 => qaak ?_
  ·simp at h4
   simp -implicitDefEqProofs [qabi, qabh, qaax, qaa7, qaay, qaa6, qabf, qabg, qaar, qabr, SOp.run, SX.ev, putd, puts, argS, upds, SOp.touch, SSt.keep, SSt.skip, gets, geth, puth, delh, idOf, SV.cells?, setL, qadh, qadi, sbin, eq0, eq1, eqL, qadf, qab9, qaca, qaap, qabk, qaag, qabl, qabs, qaaj]
   refine qad8 (qaal (qaac ?_))
   simp -implicitDefEqProofs [qatp, qabi, qabh, qaax, qaa7, qaay, qaa6, qabf, qabg, qaar, qabr, SOp.run, SX.ev, putd, puts, argS, upds, SOp.touch, SSt.keep, SSt.skip, gets, geth, puth, delh, idOf, SV.cells?, setL, qadh, qadi, sbin, eq0, eq1, eqL, qadf, qab9, qaca, qaap, qabk, qaag, qabl, qabs, qaaj]
   refine qaac ?_
   simp -implicitDefEqProofs [qato, qabi, qabh, qaax, qaa7, qaay, qaa6, qabf, qabg, qaar, qabr, SOp.run, SX.ev, putd, puts, argS, upds, SOp.touch, SSt.keep, SSt.skip, gets, geth, puth, delh, idOf, SV.cells?, setL, qadh, qadi, sbin, eq0, eq1, eqL, qadf, qab9, qaca, qaap, qabk, qaag, qabl, qabs, qaaj]
   have hp := pow_i i (by omega)
   have e1 : IntKind.u64.wrap (2 * (2 ^ i - 1)) = 2 * (2 ^ i - 1) := qaki (by omega) (by omega)
   have e2 : IntKind.u64.wrap (2 * (2 ^ i - 1) + 1) = 2 * (2 ^ i - 1) + 1 := qaki (by omega) (by omega)
   have e3 : IntKind.i64.wrap ((i : Int) + 1) = (i : Int) + 1 := qaao (by omega) (by omega)
   rw [e1, e2, e3]
   refine qa5g (qaeu [] hm rfl (Nat.le_refl _) ?_ ?_) ⟨i + 1, rfl, by omega, by omega, rfl⟩ (by omega)
   ·simp -implicitDefEqProofs [qaaq, FrzOk, qaba, qaa1, qaa8, qaa9, qaat, qaa0, qabm, qaa2, qaav, qabb, qaau, frzS, frzH, frz, frz1, frz0, SlotsM, ObjsM, ObjM, rn, ren, ren1, ren0, gets, geth, qabu, qab7, qacf, qabt, qabn, qacg, qace, CoL, qabc]
    exact qab7 (by rw [Int.pow_succ]; omega)
   ·simp -implicitDefEqProofs [qaaq, FrzOk, qaba, qaa1, qaa8, qaa9, qaat, qaa0, qabm, qaa2, qaav, qabb, qaau, frzS, frzH, frz, frz1, frz0, SlotsM, ObjsM, ObjM, rn, ren, ren1, ren0, gets, geth, qabu, qab7, qacf, qabt, qabn, qacg, qace, CoL, qabc]
  ·simp at h4
   simp -implicitDefEqProofs [qabi, qabh, qaax, qaa7, qaay, qaa6, qabf, qabg, qaar, qabr, SOp.run, SX.ev, putd, puts, argS, upds, SOp.touch, SSt.keep, SSt.skip, gets, geth, puth, delh, idOf, SV.cells?, setL, qadh, qadi, sbin, eq0, eq1, eqL, qadf, qab9, qaca, qaap, qabk, qaag, qabl, qabs, qaaj]
   refine qaco (qaeu (s' := ⟨_, _, 5⟩) [] hm rfl (by simp) ?_ ?_) (fin (by omega))
   ·simp -implicitDefEqProofs [qaaq, FrzOk, qaba, qaa1, qaa8, qaa9, qaat, qaa0, qabm, qaa2, qaav, qabb, qaau, frzS, frzH, frz, frz1, frz0, SlotsM, ObjsM, ObjM, rn, ren, ren1, ren0, gets, geth, qabu, qab7, qacf, qabt, qabn, qacg, qace, CoL, qabc]
   ·simp -implicitDefEqProofs [qaaq, FrzOk, qaba, qaa1, qaa8, qaa9, qaat, qaa0, qabm, qaa2, qaav, qabb, qaau, frzS, frzH, frz, frz1, frz0, SlotsM, ObjsM, ObjM, rn, ren, ren1, ren0, gets, geth, qabu, qab7, qacf, qabt, qabn, qacg, qace, CoL, qabc]
end Go.Proofs.YteoijlmgiemffaaGreat
namespace Go.Proofs.YteoijlmgiemffaaGreat
set_option linter.all false
open Go.RowKit Go.ChangeShapes Go.WideShapes
theorem opensI : Opens Tryz.prog 3 (Lay.int .i64) := Opens.int Tryz.underlying3 (by kernel_rfl)
theorem opensU : Opens Tryz.prog 22 (Lay.int .u64) := Opens.int Tryz.underlying22 (by kernel_rfl)
theorem opensN : Opens Tryz.prog 35 (Lay.slice (Lay.int .u64)) := opensU.slice Tryz.underlying35 (by kernel_rfl)
end Go.Proofs.YteoijlmgiemffaaGreat
namespace Go.Proofs.YteoijlmgiemffaaGreat
set_option linter.all false
open Go.RowKit
def qand (n k : Int) : Bool := decide (n > if k ≤ 64 then 2 ^ k.toNat - 1 else 0)
theorem wide_s (n k : Int) : SCalls Tryz.prog 133 [.int .u64 n, .int .i64 k] [] 0 (.bool (qand n k)) [] := by
 refine qaas (N := 9) Tryz.func133 rfl rfl (by kernel_rfl) qaud (by simp) ⟨rfl, rfl, trivial⟩ trivial ?_
 rintro X hP hN hm
 unfold c_wide
 refine qad8 (qaac ?_)
 simp -implicitDefEqProofs [qatj, qabi, qabh, qaax, qaa7, qaay, qaa6, qabf, qabg, qaar, qabr, SOp.run, SX.ev, putd, puts, argS, upds, SOp.touch, SSt.keep, SSt.skip, gets, geth, puth, delh, idOf, SV.cells?, setL, qadh, qadi, sbin, eq0, eq1, eqL, qadf, qab9, qaca, qaap, qabk, qaag, qabl, qabs, qaaj]
 refine qad8 (qaac ?_)
 rw [hP]
 simp -implicitDefEqProofs [qati, qabi, qabh, qaax, qaa7, qaay, qaa6, qabf, qabg, qaar, qabr, SOp.run, SX.ev, putd, puts, argS, upds, SOp.touch, SSt.keep, SSt.skip, gets, geth, puth, delh, idOf, SV.cells?, setL, qadh, qadi, sbin, eq0, eq1, eqL, qadf, qab9, qaca, qaap, qabk, qaag, qabl, qabs, qaaj]
 refine qaaw (qabj (ones_s k) (fun σ => rfl) (fun σ => rfl) rfl _) ?_
 simp -implicitDefEqProofs [qabi, qabh, qaax, qaa7, qaay, qaa6, qabf, qabg, qaar, qabr, SOp.run, SX.ev, putd, puts, argS, upds, SOp.touch, SSt.keep, SSt.skip, gets, geth, puth, delh, idOf, SV.cells?, setL, qadh, qadi, sbin, eq0, eq1, eqL, qadf, qab9, qaca, qaap, qabk, qaag, qabl, qabs, qaaj]
 exact qaam (qast (s' := ⟨[(4, .bool (qand n k))], [], 0⟩) (qaeu [] hm rfl (Nat.le_refl _) (by simp -implicitDefEqProofs [qaaq, FrzOk, qaba, qaa1, qaa8, qaa9, qaat, qaa0, qabm, qaa2, qaav, qabb, qaau, frzS, frzH, frz, frz1, frz0, SlotsM, ObjsM, ObjM, rn, ren, ren1, ren0, gets, geth, qabu, qab7, qacf, qabt, qabn, qacg, qace, CoL, qabc, qand]) trivial) rfl trivial (by simp))
end Go.Proofs.YteoijlmgiemffaaGreat
namespace Go.Proofs.YteoijlmgiemffaaGreat
set_option linter.all false
open Go.RowKit
def headW (p : PlanD) (h : Int) : List Int := ((p.heads[h.toNat]?).map HeadD.w).getD []
def qanm (p : PlanD) (h : Int) (args : List Int) : List Int := if h = -3 then [16] else if h = -1 then p.meta_ else if h = -2 then args else if 0 ≤ h ∧ h < p.heads.length then headW p h else []
def qa4k (l : List Int) (f : Int) : Int := if f < 0 ∨ l.length ≤ f then 0 else el l f.toNat
def qabw (p : PlanD) (r : RefD) (args : List Int) : Int := qa4k (qanm p r.h args) r.f
def qab5 (op : Int) : Int := if op = 1 ∨ op = 2 then 0 else if 3 ≤ op ∧ op ≤ 12 then 2 else if op = 13 then 1 else -1
def qab1 (p : PlanD) (t : TabD) : List Int := t.keys.map fun r => qabw p r []
def qags (p : PlanD) (args : List Int) : List PushD → Int → Int
 | [], n => if n = 1 then 0 else 13
 | x :: l, n => if qab5 x.op < 0 ∨ n < qab5 x.op then 13 else if x.op = 2 ∧ qabw p x.r args = 0 then 1 else qags p args l (n + (1 - qab5 x.op))
theorem qagr (p : PlanD) (args : List Int) (x : PushD) (l : List PushD) (n : Int) : qags p args (x :: l) n = if qab5 x.op < 0 ∨ n < qab5 x.op then 13 else if x.op = 2 ∧ qabw p x.r args = 0 then 1 else qags p args l (n + (1 - qab5 x.op)) := rfl
theorem qakz (p : PlanD) (args : List Int) (n : Int) : qags p args [] n = if n = 1 then 0 else 13 := rfl
def qafi (p : PlanD) (l : List PushD) (args : List Int) : Int := if 8 < l.length then 2 else qags p args l 0
def qac0 (p : PlanD) (h : Int) : Bool := decide (0 ≤ h) && decide (h < p.heads.length)
def qang (p : PlanD) (r : RefD) : Bool := decide (-1 ≤ r.h) && decide (0 < qabw p r [])
def qahj (p : PlanD) (o : OpD) (args : List Int) : Int :=
 if o.kind = 1 then (if qang p o.r then qafi p o.e args else 1)
 else if o.kind = 2 ∨ o.kind = 3 then (if qac0 p o.head then 0 else 1)
 else if o.kind = 4 then 0
 else if o.kind = 5 then qafi p o.e args
 else if o.kind = 6 then (if qang p o.r && qac0 p o.head then 0 else 1)
 else 5
def qag8 (p : PlanD) (from_ to_ : Int) : Int := if to_ = 1000 ∨ to_ = 1001 then 0 else if to_ < 0 ∨ p.states.length ≤ to_ then 1 else if to_ ≤ from_ then 11 else 0
def qacj {α : Type} (f : α → Int) : List α → Int
 | [] => 0
 | x :: l => if f x = 0 then qacj f l else f x
def qag1 : List Int → List Int → Bool
 | x :: xs, k :: ks => qand x k || qag1 xs ks
 | _, _ => false
def actW (acts : List ActD) (k : Int) : List Int := ((acts[k.toNat]?).map ActD.w).getD []
def qahr (tacts : List Int) (acts : List ActD) (act : Int) (args : List Int) : Int :=
 if tacts.contains act then (if args.length ≠ (actW acts act).length then 2 else if qag1 args (actW acts act) then 6 else 0) else 5
def wOut (k : Int) : Bool := decide (k < 1) || decide (48 < k)
def aOut (n : Nat) (a : Int) : Bool := decide (a < 0) || decide ((n : Int) ≤ a)
def qadk (t : TabD) (ws : List Int) (acts : List ActD) : Int :=
 if t.kind < 1 ∨ 3 < t.kind then 5
 else if ws.length < 1 ∨ 3 < ws.length ∨ (t.kind = 2 ∧ 1 < ws.length) ∨ t.acts.length < 1 ∨ 4 < t.acts.length then 2
 else if t.cap < 0 ∨ 16 < t.cap then 1
 else if ws.any wOut then 6
 else if t.acts.any (aOut acts.length) then 1
 else qahr t.acts acts t.def_ t.args
def qah0 (p : PlanD) (i w : Int) (c : CaseD) : Int := if qand c.mask w || decide (bits .and .u64 c.value c.mask ≠ c.value) then 6 else qag8 p i c.to_
def qafg (p : PlanD) (i : Int) (s : StateD) : Int :=
 if s.head < -1 ∨ p.heads.length ≤ s.head then 1
 else if 4 < s.cases_.length then 2
 else if 0 < s.cases_.length ∧ qabw p s.on [] = 0 then 1
 else if qacj (qah0 p i (qabw p s.on [])) s.cases_ ≠ 0 then qacj (qah0 p i (qabw p s.on [])) s.cases_
 else qag8 p i s.els
def actF (p : PlanD) (a : ActD) : Int :=
 if 3 < a.w.length ∨ 5 < a.ops.length then 2
 else if a.w.any wOut then 6
 else qacj (fun o => qahj p o a.w) a.ops
def tabF (p : PlanD) (t : TabD) : Int :=
 if 3 < t.keys.length then 2
 else if (qab1 p t).contains 0 then 1
 else qadk t (qab1 p t) p.acts
def toF (p : PlanD) (i to_ : Int) : Int := if to_ < 0 ∨ p.nodes.length < to_ then 1 else if to_ ≤ i then 11 else 0
def qant (p : PlanD) (i : Int) (n : NodeD) : Int :=
 if n.kind = 1 then (if n.n < 0 ∨ p.tabs.length ≤ n.n then 1 else toF p i n.yes)
 else if n.kind = 2 then (if n.n < 0 ∨ p.acts.length ≤ n.n then 1 else if 0 < (actW p.acts n.n).length then 2 else toF p i n.yes)
 else if n.kind = 3 then (if qafi p n.e [] ≠ 0 then qafi p n.e [] else if toF p i n.yes ≠ 0 then toF p i n.yes else toF p i n.no)
 else if n.kind = 4 then (if qac0 p n.n then (if toF p i n.yes ≠ 0 then toF p i n.yes else toF p i n.no) else 1)
 else 5
def rowF {α : Type} (f : Nat → α → Int) (base : Int) : Nat → List α → Int × Int
 | _, [] => (0, 0)
 | i, x :: l => if f i x ≠ 0 then (f i x, base + i) else rowF f base (i + 1) l
def orF (f g : Int × Int) : Int × Int := if f.1 ≠ 0 then f else if g.1 ≠ 0 then g else f
def qasz (b : Bool) (at_ : Int) : Int × Int := if b then (2, at_) else (0, 0)
def outF (p : PlanD) (i : Nat) (o : Int) : Int := if qac0 p o then (if (p.out.take i).contains o then 7 else 0) else 1
def qagm (p : PlanD) : Int × Int := orF (qasz (decide (6 < p.heads.length)) (-1)) (rowF (fun _ h => qail h.w) 1000 0 p.heads)
def qa4l (p : PlanD) : Int × Int := orF (qasz (decide (4 < p.meta_.length)) (-2)) (rowF (fun _ w => if wOut w then 6 else 0) 2000 0 p.meta_)
def qadj (p : PlanD) : Int × Int := orF (qasz (decide (p.states.length < 1) || decide (8 < p.states.length)) (-3)) (rowF (fun i s => qafg p i s) 3000 0 p.states)
def qaie (p : PlanD) : Int × Int := orF (qasz (decide (8 < p.acts.length)) (-4)) (rowF (fun _ a => actF p a) 4000 0 p.acts)
def qag7 (p : PlanD) : Int × Int := orF (qasz (decide (5 < p.tabs.length)) (-5)) (rowF (fun _ t => tabF p t) 5000 0 p.tabs)
def qadm (p : PlanD) : Int × Int := orF (qasz (decide (10 < p.nodes.length)) (-6)) (rowF (fun i n => qant p i n) 6000 0 p.nodes)
def qagj (p : PlanD) : Int × Int := orF (qasz (decide (6 < p.out.length)) (-7)) (rowF (fun i o => outF p i o) 7000 0 p.out)
def qafh (p : PlanD) : Int × Int := orF (qagm p) (orF (qa4l p) (orF (qadj p) (orF (qaie p) (orF (qag7 p) (orF (qadm p) (qagj p))))))
theorem qaf8 {f : Int × Int} (h : f.1 ≠ 0) (g : Int × Int) : orF f g = f := if_pos h
theorem qado (f g h : Int × Int) : orF (orF f g) h = orF f (orF g h) := by
 unfold orF
 by_cases h1 : f.1 = 0 <;> by_cases h2 : g.1 = 0 <;> by_cases h3 : h.1 = 0 <;> simp [h1, h2, h3]
theorem qaci (f : Int × Int) {g : Int × Int} (h : g.1 = 0) : orF f g = f := by
 unfold orF; simp [h]
theorem qae7 {α : Type} (f : α → Int) {l : List α} {i : Nat} (hi : i < l.length) : qacj f (l.drop i) = if f l[i] = 0 then qacj f (l.drop (i + 1)) else f l[i] := by
 rw [List.drop_eq_getElem_cons hi]; rfl
theorem qadb {α : Type} (f : Nat → α → Int) (b : Int) {l : List α} {i : Nat} (hi : i < l.length) : rowF f b i (l.drop i) = if f i l[i] ≠ 0 then (f i l[i], b + i) else rowF f b (i + 1) (l.drop (i + 1)) := by
 rw [List.drop_eq_getElem_cons hi]; rfl
theorem qac8 {α : Type} (f : α → Bool) {l : List α} {i : Nat} (hi : i < l.length) : (l.drop i).any f = (f l[i] || (l.drop (i + 1)).any f) := by
 rw [List.drop_eq_getElem_cons hi]; rfl
end Go.Proofs.YteoijlmgiemffaaGreat
namespace Go.Proofs.YteoijlmgiemffaaGreat
set_option linter.all false
abbrev Oa (d : Nat) (op : SOp) : SOper := ⟨some d, op, none, none, 0⟩
abbrev Ob (op : SOp) : SOper := ⟨none, op, none, none, 0⟩
abbrev Oc (d : Nat) (f : FuncId) (args : List SX) : SOper := ⟨some d, .mv (.c .any), some (.c (.fn (.func f) [] []), args), none, 0⟩
abbrev Od (d : Nat) (op : SOp) (b : Nat) : SOper := ⟨some d, op, none, none, b⟩
abbrev Oe (d : Nat) (op : SOp) (t : Nat) (w : Bool) : SOper := ⟨some d, op, none, some (t, w), 0⟩
abbrev Of (d : Nat) (op : SOp) (t : Nat) (w : Bool) (b : Nat) : SOper := ⟨some d, op, none, some (t, w), b⟩
end Go.Proofs.YteoijlmgiemffaaGreat
namespace Go.Proofs.YteoijlmgiemffaaGreat
set_option linter.all false
open Go.RowKit
abbrev qa66 : List SOper := [Oa 3 (.box 33 (.t 0)), Oa 4 (.box 66 (.t 1)), Oa 6 (.mv (.c (.int .i64 0)))]
abbrev qa65 : List SOper := [Oa 8 (.mv (.t 2)), Oa 7 (.mv (.t 8))]
abbrev qa64 : List SOper := [Oa 10 (.faddr 0 (.t 4)), Oa 11 (.load (.t 10)), Oa 12 (.bin .eql (.t 11) (.c (.int .i64 (-3)))), Oa 13 (.mv (.t 12)), Oe 14 (.faddr 1 (.t 4)) 13 true, Oe 15 (.load (.t 14)) 13 true, Oe 16 (.bin .eql (.t 15) (.c (.int .i64 0))) 13 true, Oa 17 (.pick (.t 13) (.t 16) (.c (.bool false))), Oa 9 (.mv (.t 17))]
abbrev qa63 : List SOper := [Oa 6 (.mv (.c (.int .i64 16)))]
abbrev qa62 : List SOper := [Oa 19 (.faddr 0 (.t 4)), Oa 20 (.load (.t 19)), Oa 21 (.bin .eql (.t 20) (.c (.int .i64 (-1)))), Oa 18 (.mv (.t 21))]
abbrev qa61 : List SOper := [Oa 22 (.faddr 1 (.t 3)), Oa 23 (.load (.t 22)), Oa 7 (.mv (.t 23))]
abbrev qa60 : List SOper := [Oa 25 (.faddr 0 (.t 4)), Oa 26 (.load (.t 25)), Oa 27 (.bin .geq (.t 26) (.c (.int .i64 0))), Oa 28 (.mv (.t 27)), Oe 29 (.faddr 0 (.t 4)) 28 true, Oe 30 (.load (.t 29)) 28 true, Oe 31 (.faddr 0 (.t 3)) 28 true, Oe 32 (.load (.t 31)) 28 true, Oe 33 (.len false (.t 32)) 28 true, Oe 34 (.bin .lss (.t 30) (.t 33)) 28 true, Oa 35 (.pick (.t 28) (.t 34) (.c (.bool false))), Oa 24 (.mv (.t 35))]
abbrev qa6z : List SOper := [Oa 36 (.faddr 0 (.t 3)), Oa 37 (.load (.t 36)), Oa 38 (.faddr 0 (.t 4)), Oa 39 (.load (.t 38)), Oa 40 (.iaddr 1 (.t 37) (.t 39)), Oa 41 (.faddr 0 (.t 40)), Oa 42 (.load (.t 41)), Oa 7 (.mv (.t 42))]
abbrev qa6y : List SOper := [Oa 44 (.faddr 0 (.t 4)), Oa 45 (.load (.t 44)), Oa 46 (.bin .neq (.t 45) (.c (.int .i64 (-2)))), Oa 43 (.mv (.t 46))]
abbrev qavc : List SOper := [Oa 6 (.mv (.c (.int .i64 0)))]
abbrev qavb : List SOper := [Oa 47 (.faddr 1 (.t 4)), Oa 48 (.load (.t 47)), Oa 49 (.bin .lss (.t 48) (.c (.int .i64 0))), Oa 50 (.mv (.t 49)), Oe 51 (.faddr 1 (.t 4)) 50 false, Oe 52 (.load (.t 51)) 50 false, Oe 53 (.mv (.t 7)) 50 false, Oe 54 (.len false (.t 53)) 50 false, Oe 55 (.bin .geq (.t 52) (.t 54)) 50 false, Oa 56 (.pick (.t 50) (.c (.bool true)) (.t 55))]
abbrev qava : List SOper := [Oa 6 (.mv (.c (.int .i64 0)))]
abbrev qau9 : List SOper := [Oa 57 (.mv (.t 7)), Oa 58 (.faddr 1 (.t 4)), Oa 59 (.load (.t 58)), Oa 60 (.iaddr 1 (.t 57) (.t 59)), Oa 61 (.load (.t 60)), Oa 6 (.mv (.t 61))]
def c_width : SCode := (.seq (.reg false qa66 [2, 3, 4]) (.seq (.reg false qa65 [3, 4, 7]) (.seq (.block 0 (.seq (.reg false qa64 [3, 4, 7, 9]) (.cond (.t 9) (.seq (.reg false qa63 [6]) .ret) (.seq (.reg false qa62 [3, 4, 7, 18]) (.cond (.t 18) (.reg false qa61 [4, 7]) (.seq (.reg false qa60 [3, 4, 7, 24]) (.cond (.t 24) (.reg false qa6z [4, 7]) (.seq (.reg false qa6y [4, 7, 43]) (.cond (.t 43) (.seq (.reg false qavc [6]) .ret) .skip))))))))) (.seq (.seq (.reg false qavb [4, 7, 56]) (.cond (.t 56) (.seq (.reg false qava [6]) .ret) .skip)) (.seq (.reg false qau9 [6]) .ret)))))
theorem qan7 : comp Tryz.prog 62 ((Tryz.f66.body).getD .skip) = some c_width.erase := by kernel_rfl
abbrev qa7k : List SOper := [Oa 2 (.mv (.c (.int .i64 0)))]
abbrev qa7j : List SOper := [Oa 4 (.mv (.t 0)), Oa 5 (.bin .eql (.t 4) (.c (.int .i64 1))), Oa 6 (.mv (.t 5)), Oe 7 (.mv (.t 0)) 6 false, Oe 8 (.bin .eql (.t 7) (.c (.int .i64 2))) 6 false, Oa 9 (.pick (.t 6) (.c (.bool true)) (.t 8)), Oa 3 (.mv (.t 9))]
abbrev qa7i : List SOper := [Oa 2 (.mv (.c (.int .i64 0)))]
abbrev qa7h : List SOper := [Oa 11 (.mv (.t 0)), Oa 12 (.bin .geq (.t 11) (.c (.int .i64 3))), Oa 13 (.mv (.t 12)), Oe 14 (.mv (.t 0)) 13 true, Oe 15 (.bin .leq (.t 14) (.c (.int .i64 12))) 13 true, Oa 16 (.pick (.t 13) (.t 15) (.c (.bool false))), Oa 10 (.mv (.t 16))]
abbrev qa7g : List SOper := [Oa 2 (.mv (.c (.int .i64 2)))]
abbrev qa7f : List SOper := [Oa 18 (.mv (.t 0)), Oa 19 (.bin .eql (.t 18) (.c (.int .i64 13))), Oa 17 (.mv (.t 19))]
abbrev qa7e : List SOper := [Oa 2 (.mv (.c (.int .i64 1)))]
abbrev qa7d : List SOper := [Oa 2 (.mv (.c (.int .i64 (-1))))]
def c_takes : SCode := (.seq (.reg false qa7k [0]) (.seq (.block 0 (.seq (.reg false qa7j [0, 3]) (.cond (.t 3) (.seq (.reg false qa7i [2]) .ret) (.seq (.reg false qa7h [0, 10]) (.cond (.t 10) (.seq (.reg false qa7g [2]) .ret) (.seq (.reg false qa7f [17]) (.cond (.t 17) (.seq (.reg false qa7e [2]) .ret) .skip))))))) (.seq (.reg false qa7d [2]) .ret)))
theorem qan9 : comp Tryz.prog 20 ((Tryz.f190.body).getD .skip) = some c_takes.erase := by kernel_rfl
abbrev qau8 : List SOper := [Oa 2 (.box 33 (.t 0)), Oa 3 (.box 78 (.t 1)), Oa 4 (.mv (.c .nilsl))]
abbrev qau7 : List SOper := [Oa 5 (.mv (.c .nilsl))]
abbrev qau6 : List SOper := [Oa 8 (.faddr 1 (.t 3)), Oa 9 (.load (.t 8)), Oa 10 (.len false (.t 9)), Oa 11 (.mv (.c (.int .i64 0)))]
abbrev qau5 : List SOper := [Oa 12 (.bin .lss (.t 11) (.t 10))]
abbrev qau4 : List SOper := [Oa 13 (.iaddr 2 (.t 9) (.t 11)), Oa 14 (.loads 2 (.t 13)), Oa 7 (.alloc 66 [(.int .i64 0), (.int .i64 0)]), Ob (.store 2 (.t 7) (.t 14))]
abbrev qau3 : List SOper := [Oa 15 (.mv (.t 5)), Oa 16 (.loads 7 (.t 2)), Oa 17 (.loads 2 (.t 7)), Oc 18 66 [(.t 16), (.t 17), (.c .nilsl)], Oa 19 (.mkrow 3 1 1 [(.int .i64 0)] [(0, (.t 18))]), Oa 20 (.app 3 1 8 (.t 15) (.t 19)), Oa 5 (.mv (.t 20))]
abbrev qau2 : List SOper := [Oa 21 (.bin .add (.t 11) (.c (.int .i64 1))), Oa 11 (.mv (.t 21))]
def qai0 : SCode := (.seq (.reg false qau5 [2, 5, 9, 10, 11, 12]) (.seq (.cond (.t 12) .skip (.exit 0)) (.seq (.block 1 (.seq (.reg false qau4 [2, 5, 7, 9, 10, 11]) (.reg false qau3 [2, 5, 9, 10, 11]))) (.reg false qau2 [2, 5, 9, 10, 11]))))
abbrev qaiz : List SOper := [Oa 22 (.mv (.t 5)), Oa 4 (.mv (.t 22))]
def c_widths : SCode := (.seq (.reg false qau8 [2, 3]) (.seq (.reg false qau7 [2, 3, 5]) (.seq (.seq (.reg false qau6 [2, 5, 9, 10, 11]) (.block 0 (.loop qai0))) (.seq (.reg false qaiz [4]) .ret))))
theorem qak6 : comp Tryz.prog 23 ((Tryz.f31.body).getD .skip) = some c_widths.erase := by kernel_rfl
abbrev qbcf : List SOper := [Oa 8 (.mv (.t 1)), Oa 9 (.mv (.t 8)), Oe 10 (.mv (.t 0)) 9 true, Oe 11 (.nilc (.t 10)) 9 true, Oe 12 (.faddr 7 (.t 11)) 9 true, Oe 13 (.faddr 0 (.t 12)) 9 true, Oe 14 (.load (.t 13)) 9 true, Oe 15 (.bin .eql (.t 14) (.c (.int .i64 0))) 9 true, Oa 16 (.pick (.t 9) (.t 15) (.c (.bool false)))]
abbrev qbce : List SOper := [Oa 17 (.mv (.t 0)), Oa 18 (.mv (.t 2)), Oa 19 (.mv (.t 3)), Oa 20 (.build [(.int .i64 0), (.int .i64 0)] [(0, 1, (.t 18)), (1, 1, (.t 19))]), Oa 21 (.nilc (.t 17)), Oa 22 (.faddr 7 (.t 21)), Ob (.store 2 (.t 22) (.t 20))]
def c_jfail : SCode := (.seq (.reg false qbcf [0, 2, 3, 16]) (.cond (.t 16) (.reg false qbce []) .skip))
theorem qaow : comp Tryz.prog 23 ((Tryz.f155.body).getD .skip) = some c_jfail.erase := by kernel_rfl
abbrev qbb3 : List SOper := [Oa 11 (.mv (.t 0)), Oa 12 (.mv (.t 1)), Oa 13 (.len false (.t 12)), Oa 14 (.bin .gtr (.t 13) (.c (.int .i64 8))), Oa 15 (.mv (.t 3)), Oc 16 155 [(.t 11), (.t 14), (.c (.int .i64 2)), (.t 15)]]
abbrev qbb2 : List SOper := [Oa 8 (.mv (.c (.int .i64 0)))]
abbrev qbb1 : List SOper := [Oa 9 (.mv (.c (.int .i64 0)))]
abbrev qbb0 : List SOper := [Oa 17 (.mv (.t 9)), Oa 18 (.mv (.t 1)), Oa 19 (.len false (.t 18)), Oa 20 (.bin .lss (.t 17) (.t 19)), Oa 21 (.mv (.t 20)), Oe 22 (.mv (.t 0)) 21 true, Oe 23 (.nilc (.t 22)) 21 true, Oe 24 (.faddr 7 (.t 23)) 21 true, Oe 25 (.faddr 0 (.t 24)) 21 true, Oe 26 (.load (.t 25)) 21 true, Oe 27 (.bin .eql (.t 26) (.c (.int .i64 0))) 21 true, Oa 28 (.pick (.t 21) (.t 27) (.c (.bool false)))]
abbrev qbbz : List SOper := [Oa 31 (.mv (.t 1)), Oa 32 (.mv (.t 9)), Oa 33 (.iaddr 4 (.t 31) (.t 32)), Oa 34 (.faddr 0 (.t 33)), Oa 35 (.load (.t 34)), Oc 36 190 [(.t 35)], Oa 10 (.mv (.t 36))]
abbrev qbby : List SOper := [Oa 37 (.mv (.t 0)), Oa 38 (.mv (.t 10)), Oa 39 (.bin .lss (.t 38) (.c (.int .i64 0))), Oa 40 (.mv (.t 39)), Oe 41 (.mv (.t 8)) 40 false, Oe 42 (.mv (.t 10)) 40 false, Oe 43 (.bin .lss (.t 41) (.t 42)) 40 false, Oa 44 (.pick (.t 40) (.c (.bool true)) (.t 43)), Oa 45 (.mv (.t 3)), Oc 46 155 [(.t 37), (.t 44), (.c (.int .i64 13)), (.t 45)]]
abbrev qbbx : List SOper := [Oa 47 (.mv (.t 0)), Oa 48 (.mv (.t 1)), Oa 49 (.mv (.t 9)), Od 50 (.iaddr 4 (.t 48) (.t 49)) 6, Od 51 (.faddr 0 (.t 50)) 14, Od 52 (.load (.t 51)) 30, Od 53 (.bin .eql (.t 52) (.c (.int .i64 2))) 62, Od 54 (.mv (.t 53)) 126, Of 55 (.mv (.t 0)) 54 true 254, Of 56 (.nilc (.t 55)) 54 true 510, Of 57 (.faddr 0 (.t 56)) 54 true 1022, Of 58 (.loads 7 (.t 57)) 54 true 2046, Of 59 (.mv (.t 1)) 54 true 254, Of 60 (.mv (.t 9)) 54 true 254, Of 61 (.iaddr 4 (.t 59) (.t 60)) 54 true 12542, Of 62 (.faddr 1 (.t 61)) 54 true 28926, Of 63 (.loads 2 (.t 62)) 54 true 61694, Of 64 (.mv (.t 2)) 54 true 254, ⟨(some 65), .mv (.c .any), some ((.c (.fn (.func 66) [] [])), [(.t 58), (.t 63), (.t 64)]), (some (54, true)), 262142⟩, Of 66 (.bin .eql (.t 65) (.c (.int .i64 0))) 54 true 524286, Od 67 (.pick (.t 54) (.t 66) (.c (.bool false))) 1048574, Oa 68 (.mv (.t 3)), ⟨(some 69), .mv (.c .any), some ((.c (.fn (.func 155) [] [])), [(.t 47), (.t 67), (.c (.int .i64 1)), (.t 68)]), none, 4194303⟩]
abbrev qbbw : List SOper := [Oa 70 (.mv (.t 8)), Oa 71 (.mv (.t 10)), Oa 72 (.bin .sub (.c (.int .i64 1)) (.t 71)), Oa 73 (.bin .add (.t 70) (.t 72)), Oa 8 (.mv (.t 73))]
abbrev qbbv : List SOper := [Oa 29 (.mv (.t 9)), Oa 30 (.bin .add (.t 29) (.c (.int .i64 1))), Oa 9 (.mv (.t 30))]
def qamg : SCode := (.seq (.seq (.reg false qbb0 [0, 1, 2, 3, 8, 9, 28]) (.cond (.t 28) .skip (.exit 0))) (.seq (.block 1 (.seq (.reg false qbbz [0, 1, 2, 3, 8, 9, 10]) (.seq (.reg false qbby [0, 1, 2, 3, 8, 9, 10]) (.seq (.reg true qbbx [0, 1, 2, 3, 8, 9, 10]) (.reg false qbbw [0, 1, 2, 3, 8, 9]))))) (.reg false qbbv [0, 1, 2, 3, 8, 9])))
abbrev qa2r : List SOper := [Oa 74 (.mv (.t 0)), Oa 75 (.mv (.t 8)), Oa 76 (.bin .neq (.t 75) (.c (.int .i64 1))), Oa 77 (.mv (.t 3)), Oc 78 155 [(.t 74), (.t 76), (.c (.int .i64 13)), (.t 77)]]
def c_jtree : SCode := (.seq (.reg false qbb3 [0, 1, 2, 3]) (.seq (.reg false qbb2 [0, 1, 2, 3, 8]) (.seq (.seq (.reg false qbb1 [0, 1, 2, 3, 8, 9]) (.block 0 (.loop qamg))) (.reg false qa2r []))))
theorem qaot : comp Tryz.prog 79 ((Tryz.f180.body).getD .skip) = some c_jtree.erase := by kernel_rfl
abbrev qaro : List SOper := [Oa 4 (.box 66 (.t 1))]
abbrev qarn : List SOper := [Oa 6 (.mv (.t 0)), Oa 7 (.faddr 0 (.t 4)), Od 8 (.load (.t 7)) 2, Od 9 (.bin .lss (.t 8) (.c (.int .i64 (-1)))) 6, Od 10 (.mv (.t 9)) 14, Of 11 (.mv (.t 0)) 10 false 30, Of 12 (.nilc (.t 11)) 10 false 62, Of 13 (.faddr 0 (.t 12)) 10 false 126, Of 14 (.loads 7 (.t 13)) 10 false 254, Of 15 (.loads 2 (.t 4)) 10 false 30, ⟨(some 16), .mv (.c .any), some ((.c (.fn (.func 66) [] [])), [(.t 14), (.t 15), (.c .nilsl)]), (some (10, false)), 1022⟩, Of 17 (.bin .eql (.t 16) (.c (.int .i64 0))) 10 false 2046, Od 18 (.pick (.t 10) (.c (.bool true)) (.t 17)) 4094, Oa 19 (.mv (.t 2)), ⟨(some 20), .mv (.c .any), some ((.c (.fn (.func 155) [] [])), [(.t 6), (.t 18), (.c (.int .i64 1)), (.t 19)]), none, 16383⟩]
def c_jtarget : SCode := (.seq (.reg false qaro [0, 2, 4]) (.reg true qarn []))
theorem qaj9 : comp Tryz.prog 21 ((Tryz.f189.body).getD .skip) = some c_jtarget.erase := by kernel_rfl
abbrev qbcd : List SOper := [Oa 6 (.mv (.t 0)), Oa 7 (.mv (.t 1)), Oa 8 (.bin .lss (.t 7) (.c (.int .i64 0))), Oa 9 (.mv (.t 8)), Oe 10 (.mv (.t 1)) 9 false, Oe 11 (.mv (.t 0)) 9 false, Oe 12 (.nilc (.t 11)) 9 false, Oe 13 (.faddr 0 (.t 12)) 9 false, Oe 14 (.faddr 0 (.t 13)) 9 false, Oe 15 (.load (.t 14)) 9 false, Oe 16 (.len false (.t 15)) 9 false, Oe 17 (.bin .geq (.t 10) (.t 16)) 9 false, Oa 18 (.pick (.t 9) (.c (.bool true)) (.t 17)), Oa 19 (.mv (.t 2)), Oc 20 155 [(.t 6), (.t 18), (.c (.int .i64 1)), (.t 19)]]
def c_jhead : SCode := (.reg false qbcd [])
theorem qaov : comp Tryz.prog 21 ((Tryz.f160.body).getD .skip) = some c_jhead.erase := by kernel_rfl
abbrev qbky : List SOper := [Oa 5 (.box 75 (.t 1))]
abbrev qbkx : List SOper := [Oa 8 (.faddr 0 (.t 5)), Oa 9 (.load (.t 8))]
abbrev qbkw : List SOper := [Oa 14 (.bin .eql (.t 9) (.c (.int .i64 1))), Oa 13 (.mv (.t 14))]
abbrev qbkv : List SOper := [Oa 15 (.mv (.t 0)), Oa 16 (.faddr 1 (.t 5)), Oa 17 (.loads 2 (.t 16)), Oa 18 (.mv (.t 3)), Oc 19 189 [(.t 15), (.t 17), (.t 18)]]
abbrev qbku : List SOper := [Oa 20 (.mv (.t 0)), Oa 21 (.faddr 4 (.t 5)), Oa 22 (.load (.t 21)), Oa 23 (.mv (.t 2)), Oa 24 (.mv (.t 3)), Oc 25 180 [(.t 20), (.t 22), (.t 23), (.t 24)]]
abbrev qbkt : List SOper := [Oa 27 (.bin .eql (.t 9) (.c (.int .i64 2))), Oa 26 (.mv (.t 27))]
abbrev qbks : List SOper := [Oa 28 (.bin .eql (.t 9) (.c (.int .i64 3))), Oa 26 (.mv (.t 28))]
abbrev qbkr : List SOper := [Oa 29 (.mv (.t 0)), Oa 30 (.faddr 3 (.t 5)), Oa 31 (.load (.t 30)), Oa 32 (.mv (.t 3)), Oc 33 160 [(.t 29), (.t 31), (.t 32)]]
abbrev qbkq : List SOper := [Oa 35 (.bin .eql (.t 9) (.c (.int .i64 4))), Oa 34 (.mv (.t 35))]
abbrev qbgo : List SOper := [Oa 37 (.bin .eql (.t 9) (.c (.int .i64 5))), Oa 36 (.mv (.t 37))]
abbrev qbgn : List SOper := [Oa 38 (.mv (.t 0)), Oa 39 (.faddr 4 (.t 5)), Oa 40 (.load (.t 39)), Oa 41 (.mv (.t 2)), Oa 42 (.mv (.t 3)), Oc 43 180 [(.t 38), (.t 40), (.t 41), (.t 42)]]
abbrev qbgm : List SOper := [Oa 45 (.bin .eql (.t 9) (.c (.int .i64 6))), Oa 44 (.mv (.t 45))]
abbrev qbgl : List SOper := [Oa 46 (.mv (.t 0)), Oa 47 (.faddr 1 (.t 5)), Oa 48 (.loads 2 (.t 47)), Oa 49 (.mv (.t 3)), Oc 50 189 [(.t 46), (.t 48), (.t 49)]]
abbrev qbgk : List SOper := [Oa 51 (.mv (.t 0)), Oa 52 (.faddr 3 (.t 5)), Oa 53 (.load (.t 52)), Oa 54 (.mv (.t 3)), Oc 55 160 [(.t 51), (.t 53), (.t 54)]]
abbrev qbgj : List SOper := [Oa 10 (.mv (.t 0)), Oa 11 (.mv (.t 3)), Oc 12 155 [(.t 10), (.c (.bool true)), (.c (.int .i64 5)), (.t 11)]]
def c_jop : SCode := (.seq (.reg false qbky [0, 2, 3, 5]) (.seq (.reg false qbkx [0, 2, 3, 5, 9]) (.block 0 (.seq (.reg false qbkw [0, 2, 3, 5, 9, 13]) (.cond (.t 13) (.seq (.reg false qbkv [0, 2, 3, 5]) (.reg false qbku [])) (.seq (.seq (.reg false qbkt [0, 2, 3, 5, 9, 26]) (.cond (.t 26) .skip (.reg false qbks [0, 2, 3, 5, 9, 26]))) (.cond (.t 26) (.reg false qbkr []) (.seq (.reg false qbkq [0, 2, 3, 5, 9, 34]) (.cond (.t 34) .skip (.seq (.reg false qbgo [0, 2, 3, 5, 9, 36]) (.cond (.t 36) (.reg false qbgn []) (.seq (.reg false qbgm [0, 3, 5, 44]) (.cond (.t 44) (.seq (.reg false qbgl [0, 3, 5]) (.reg false qbgk [])) (.reg false qbgj []))))))))))))))
theorem qa6n : comp Tryz.prog 56 ((Tryz.f179.body).getD .skip) = some c_jop.erase := by kernel_rfl
abbrev qbco : List SOper := [Oa 8 (.mv (.t 0)), Oa 9 (.mv (.t 0)), Oa 10 (.nilc (.t 9)), Oa 11 (.faddr 0 (.t 10)), Oa 12 (.faddr 3 (.t 11)), Oa 13 (.load (.t 12)), Oa 14 (.len false (.t 13)), Oa 15 (.bin .gtr (.t 14) (.c (.int .i64 8))), Oc 16 155 [(.t 8), (.t 15), (.c (.int .i64 2)), (.c (.int .i64 (-4)))]]
abbrev qbcn : List SOper := [Oa 2 (.mv (.c (.int .i64 0)))]
abbrev qbcm : List SOper := [Oa 17 (.mv (.t 2)), Oa 18 (.mv (.t 0)), Oa 19 (.nilc (.t 18)), Oa 20 (.faddr 0 (.t 19)), Oa 21 (.faddr 3 (.t 20)), Oa 22 (.load (.t 21)), Oa 23 (.len false (.t 22)), Oa 24 (.bin .lss (.t 17) (.t 23)), Oa 25 (.mv (.t 24)), Oe 26 (.mv (.t 0)) 25 true, Oe 27 (.nilc (.t 26)) 25 true, Oe 28 (.faddr 7 (.t 27)) 25 true, Oe 29 (.faddr 0 (.t 28)) 25 true, Oe 30 (.load (.t 29)) 25 true, Oe 31 (.bin .eql (.t 30) (.c (.int .i64 0))) 25 true, Oa 32 (.pick (.t 25) (.t 31) (.c (.bool false)))]
abbrev qbcl : List SOper := [Oa 35 (.mv (.t 0)), Oa 36 (.nilc (.t 35)), Oa 37 (.faddr 0 (.t 36)), Oa 38 (.faddr 3 (.t 37)), Oa 39 (.load (.t 38)), Oa 40 (.mv (.t 2)), Oa 41 (.iaddr 2 (.t 39) (.t 40)), Oa 42 (.loads 2 (.t 41)), Oa 3 (.alloc 72 [.nilsl, .nilsl]), Ob (.store 2 (.t 3) (.t 42))]
abbrev qbck : List SOper := [Oa 43 (.mv (.t 2)), Oa 44 (.bin .add (.c (.int .i64 4000)) (.t 43)), Oa 4 (.mv (.t 44))]
abbrev qbcj : List SOper := [Oa 45 (.mv (.t 0)), Oa 46 (.faddr 0 (.t 3)), Oa 47 (.load (.t 46)), Oa 48 (.len false (.t 47)), Oa 49 (.bin .gtr (.t 48) (.c (.int .i64 3))), Oa 50 (.mv (.t 49)), Oe 51 (.faddr 1 (.t 3)) 50 false, Oe 52 (.load (.t 51)) 50 false, Oe 53 (.len false (.t 52)) 50 false, Oe 54 (.bin .gtr (.t 53) (.c (.int .i64 5))) 50 false, Oa 55 (.pick (.t 50) (.c (.bool true)) (.t 54)), Oa 56 (.mv (.t 4)), Oc 57 155 [(.t 45), (.t 55), (.c (.int .i64 2)), (.t 56)]]
abbrev qbci : List SOper := [Oa 58 (.faddr 0 (.t 3)), Oa 59 (.load (.t 58)), Oa 60 (.len false (.t 59)), Oa 61 (.mv (.c (.int .i64 0)))]
abbrev qbch : List SOper := [Oa 62 (.bin .lss (.t 61) (.t 60))]
abbrev qbcg : List SOper := [Oa 63 (.iaddr 1 (.t 59) (.t 61)), Oa 64 (.load (.t 63)), Oa 6 (.mv (.t 64))]
abbrev qa28 : List SOper := [Oa 65 (.mv (.t 0)), Oa 66 (.mv (.t 6)), Oa 67 (.bin .lss (.t 66) (.c (.int .i64 1))), Oa 68 (.mv (.t 67)), Oe 69 (.mv (.t 6)) 68 false, Oe 70 (.bin .gtr (.t 69) (.c (.int .i64 48))) 68 false, Oa 71 (.pick (.t 68) (.c (.bool true)) (.t 70)), Oa 72 (.mv (.t 4)), Oc 73 155 [(.t 65), (.t 71), (.c (.int .i64 6)), (.t 72)]]
abbrev qa27 : List SOper := [Oa 74 (.bin .add (.t 61) (.c (.int .i64 1))), Oa 61 (.mv (.t 74))]
def qams : SCode := (.seq (.reg false qbch [0, 2, 3, 4, 59, 60, 61, 62]) (.seq (.cond (.t 62) .skip (.exit 2)) (.seq (.block 3 (.seq (.reg false qbcg [0, 2, 3, 4, 6, 59, 60, 61]) (.reg false qa28 [0, 2, 3, 4, 59, 60, 61]))) (.reg false qa27 [0, 2, 3, 4, 59, 60, 61]))))
abbrev qa26 : List SOper := [Oa 7 (.mv (.c (.int .i64 0)))]
abbrev qa25 : List SOper := [Oa 75 (.mv (.t 7)), Oa 76 (.faddr 1 (.t 3)), Oa 77 (.load (.t 76)), Oa 78 (.len false (.t 77)), Oa 79 (.bin .lss (.t 75) (.t 78)), Oa 80 (.mv (.t 79)), Oe 81 (.mv (.t 0)) 80 true, Oe 82 (.nilc (.t 81)) 80 true, Oe 83 (.faddr 7 (.t 82)) 80 true, Oe 84 (.faddr 0 (.t 83)) 80 true, Oe 85 (.load (.t 84)) 80 true, Oe 86 (.bin .eql (.t 85) (.c (.int .i64 0))) 80 true, Oa 87 (.pick (.t 80) (.t 86) (.c (.bool false)))]
abbrev qa24 : List SOper := [Oa 90 (.mv (.t 0)), Oa 91 (.faddr 1 (.t 3)), Od 92 (.load (.t 91)) 2, Oa 93 (.mv (.t 7)), Od 94 (.iaddr 5 (.t 92) (.t 93)) 14, Od 95 (.loads 5 (.t 94)) 30, Oa 96 (.faddr 0 (.t 3)), Od 97 (.load (.t 96)) 64, Oa 98 (.mv (.t 4)), ⟨(some 99), .mv (.c .any), some ((.c (.fn (.func 179) [] [])), [(.t 90), (.t 95), (.t 97), (.t 98)]), none, 511⟩]
abbrev qa23 : List SOper := [Oa 88 (.mv (.t 7)), Oa 89 (.bin .add (.t 88) (.c (.int .i64 1))), Oa 7 (.mv (.t 89))]
def qamr : SCode := (.seq (.seq (.reg false qa25 [0, 2, 3, 4, 7, 87]) (.cond (.t 87) .skip (.exit 4))) (.seq (.block 5 (.reg true qa24 [0, 2, 3, 4, 7])) (.reg false qa23 [0, 2, 3, 4, 7])))
abbrev qa22 : List SOper := [Oa 33 (.mv (.t 2)), Oa 34 (.bin .add (.t 33) (.c (.int .i64 1))), Oa 2 (.mv (.t 34))]
def qamq : SCode := (.seq (.seq (.reg false qbcm [0, 2, 32]) (.cond (.t 32) .skip (.exit 0))) (.seq (.block 1 (.seq (.reg false qbcl [0, 2, 3]) (.seq (.reg false qbck [0, 2, 3, 4]) (.seq (.reg false qbcj [0, 2, 3, 4]) (.seq (.seq (.reg false qbci [0, 2, 3, 4, 59, 60, 61]) (.block 2 (.loop qams))) (.seq (.reg false qa26 [0, 2, 3, 4, 7]) (.block 4 (.loop qamr)))))))) (.reg false qa22 [0, 2])))
def c_jacts : SCode := (.seq (.reg false qbco [0]) (.seq (.reg false qbcn [0, 2]) (.block 0 (.loop qamq))))
theorem qaox : comp Tryz.prog 100 ((Tryz.f157.body).getD .skip) = some c_jacts.erase := by kernel_rfl
abbrev qbkp : List SOper := [Oa 6 (.mv (.t 2)), Oa 7 (.bin .eql (.t 6) (.c (.int .i64 1000))), Oa 8 (.mv (.t 7)), Oe 9 (.mv (.t 2)) 8 false, Oe 10 (.bin .eql (.t 9) (.c (.int .i64 1001))) 8 false, Oa 11 (.pick (.t 8) (.c (.bool true)) (.t 10))]
abbrev qbko : List SOper := [Oa 12 (.mv (.t 0)), Oa 13 (.mv (.t 2)), Oa 14 (.bin .lss (.t 13) (.c (.int .i64 0))), Oa 15 (.mv (.t 14)), Oe 16 (.mv (.t 2)) 15 false, Oe 17 (.mv (.t 0)) 15 false, Oe 18 (.nilc (.t 17)) 15 false, Oe 19 (.faddr 0 (.t 18)) 15 false, Oe 20 (.faddr 2 (.t 19)) 15 false, Oe 21 (.load (.t 20)) 15 false, Oe 22 (.len false (.t 21)) 15 false, Oe 23 (.bin .geq (.t 16) (.t 22)) 15 false, Oa 24 (.pick (.t 15) (.c (.bool true)) (.t 23)), Oa 25 (.mv (.t 1)), Oa 26 (.bin .add (.c (.int .i64 3000)) (.t 25)), Oc 27 155 [(.t 12), (.t 24), (.c (.int .i64 1)), (.t 26)]]
abbrev qbkn : List SOper := [Oa 28 (.mv (.t 0)), Oa 29 (.mv (.t 2)), Oa 30 (.mv (.t 1)), Oa 31 (.bin .leq (.t 29) (.t 30)), Oa 32 (.mv (.t 1)), Oa 33 (.bin .add (.c (.int .i64 3000)) (.t 32)), Oc 34 155 [(.t 28), (.t 31), (.c (.int .i64 11)), (.t 33)]]
def c_jto : SCode := (.seq (.seq (.reg false qbkp [0, 1, 2, 11]) (.cond (.t 11) .ret .skip)) (.seq (.reg false qbko [0, 1, 2]) (.reg false qbkn [])))
theorem qa6m : comp Tryz.prog 35 ((Tryz.f178.body).getD .skip) = some c_jto.erase := by kernel_rfl
abbrev qarx : List SOper := [Oa 8 (.mv (.t 0)), Oa 9 (.mv (.t 0)), Oa 10 (.nilc (.t 9)), Oa 11 (.faddr 0 (.t 10)), Oa 12 (.faddr 2 (.t 11)), Oa 13 (.load (.t 12)), Oa 14 (.len false (.t 13)), Oa 15 (.bin .eql (.t 14) (.c (.int .i64 0))), Oa 16 (.mv (.t 15)), Oe 17 (.mv (.t 0)) 16 false, Oe 18 (.nilc (.t 17)) 16 false, Oe 19 (.faddr 0 (.t 18)) 16 false, Oe 20 (.faddr 2 (.t 19)) 16 false, Oe 21 (.load (.t 20)) 16 false, Oe 22 (.len false (.t 21)) 16 false, Oe 23 (.bin .gtr (.t 22) (.c (.int .i64 8))) 16 false, Oa 24 (.pick (.t 16) (.c (.bool true)) (.t 23)), Oc 25 155 [(.t 8), (.t 24), (.c (.int .i64 2)), (.c (.int .i64 (-3)))]]
abbrev qarw : List SOper := [Oa 2 (.mv (.c (.int .i64 0)))]
abbrev qarv : List SOper := [Oa 26 (.mv (.t 2)), Oa 27 (.mv (.t 0)), Oa 28 (.nilc (.t 27)), Oa 29 (.faddr 0 (.t 28)), Oa 30 (.faddr 2 (.t 29)), Oa 31 (.load (.t 30)), Oa 32 (.len false (.t 31)), Oa 33 (.bin .lss (.t 26) (.t 32)), Oa 34 (.mv (.t 33)), Oe 35 (.mv (.t 0)) 34 true, Oe 36 (.nilc (.t 35)) 34 true, Oe 37 (.faddr 7 (.t 36)) 34 true, Oe 38 (.faddr 0 (.t 37)) 34 true, Oe 39 (.load (.t 38)) 34 true, Oe 40 (.bin .eql (.t 39) (.c (.int .i64 0))) 34 true, Oa 41 (.pick (.t 34) (.t 40) (.c (.bool false)))]
abbrev qaru : List SOper := [Oa 44 (.mv (.t 0)), Oa 45 (.nilc (.t 44)), Oa 46 (.faddr 0 (.t 45)), Oa 47 (.faddr 2 (.t 46)), Oa 48 (.load (.t 47)), Oa 49 (.mv (.t 2)), Oa 50 (.iaddr 5 (.t 48) (.t 49)), Oa 51 (.loads 5 (.t 50)), Oa 3 (.alloc 69 [(.int .i64 0), (.int .i64 0), (.int .i64 0), .nilsl, (.int .i64 0)]), Ob (.store 5 (.t 3) (.t 51))]
abbrev qart : List SOper := [Oa 52 (.mv (.t 2)), Oa 53 (.bin .add (.c (.int .i64 3000)) (.t 52)), Oa 4 (.mv (.t 53))]
abbrev qars : List SOper := [Oa 54 (.mv (.t 0)), Oa 55 (.faddr 0 (.t 3)), Od 56 (.load (.t 55)) 2, Od 57 (.bin .lss (.t 56) (.c (.int .i64 (-1)))) 6, Od 58 (.mv (.t 57)) 14, Of 59 (.faddr 0 (.t 3)) 58 false 30, Of 60 (.load (.t 59)) 58 false 62, Of 61 (.mv (.t 0)) 58 false 30, Of 62 (.nilc (.t 61)) 58 false 158, Of 63 (.faddr 0 (.t 62)) 58 false 414, Of 64 (.faddr 0 (.t 63)) 58 false 926, Of 65 (.load (.t 64)) 58 false 1950, Of 66 (.len false (.t 65)) 58 false 3998, Of 67 (.bin .geq (.t 60) (.t 66)) 58 false 8190, Od 68 (.pick (.t 58) (.c (.bool true)) (.t 67)) 16382, Oa 69 (.mv (.t 4)), ⟨(some 70), .mv (.c .any), some ((.c (.fn (.func 155) [] [])), [(.t 54), (.t 68), (.c (.int .i64 1)), (.t 69)]), none, 65535⟩]
abbrev qarr : List SOper := [Oa 71 (.mv (.t 0)), Oa 72 (.faddr 3 (.t 3)), Oa 73 (.load (.t 72)), Oa 74 (.len false (.t 73)), Oa 75 (.bin .gtr (.t 74) (.c (.int .i64 4))), Oa 76 (.mv (.t 4)), Oc 77 155 [(.t 71), (.t 75), (.c (.int .i64 2)), (.t 76)]]
abbrev qarq : List SOper := [Oa 78 (.mv (.t 0)), Od 79 (.nilc (.t 78)) 1, Od 80 (.faddr 0 (.t 79)) 3, Od 81 (.loads 7 (.t 80)) 7, Oa 82 (.faddr 1 (.t 3)), Od 83 (.loads 2 (.t 82)) 16, ⟨(some 84), .mv (.c .any), some ((.c (.fn (.func 66) [] [])), [(.t 81), (.t 83), (.c .nilsl)]), none, 63⟩, Od 5 (.mv (.t 84)) 127]
abbrev qarp : List SOper := [Oa 85 (.mv (.t 0)), Oa 86 (.faddr 3 (.t 3)), Oa 87 (.load (.t 86)), Oa 88 (.len false (.t 87)), Oa 89 (.bin .gtr (.t 88) (.c (.int .i64 0))), Oa 90 (.mv (.t 89)), Oe 91 (.mv (.t 5)) 90 true, Oe 92 (.bin .eql (.t 91) (.c (.int .i64 0))) 90 true, Oa 93 (.pick (.t 90) (.t 92) (.c (.bool false))), Oa 94 (.mv (.t 4)), Oc 95 155 [(.t 85), (.t 93), (.c (.int .i64 1)), (.t 94)]]
abbrev qamp : List SOper := [Oa 96 (.faddr 3 (.t 3)), Oa 97 (.load (.t 96)), Oa 98 (.len false (.t 97)), Oa 99 (.mv (.c (.int .i64 0)))]
abbrev qamo : List SOper := [Oa 100 (.bin .lss (.t 99) (.t 98))]
abbrev qamn : List SOper := [Oa 101 (.iaddr 3 (.t 97) (.t 99)), Oa 102 (.loads 3 (.t 101)), Oa 7 (.alloc 145 [(.int .u64 0), (.int .u64 0), (.int .i64 0)]), Ob (.store 3 (.t 7) (.t 102))]
abbrev qamm : List SOper := [Oa 103 (.mv (.t 0)), Oa 104 (.faddr 1 (.t 7)), Od 105 (.load (.t 104)) 2, Oa 106 (.mv (.t 5)), ⟨(some 107), .mv (.c .any), some ((.c (.fn (.func 75) [] [])), [(.t 106)]), none, 8⟩, Od 108 (.bin .gtr (.t 105) (.t 107)) 30, Od 109 (.mv (.t 108)) 62, Of 110 (.faddr 0 (.t 7)) 109 false 126, Of 111 (.load (.t 110)) 109 false 254, Of 112 (.faddr 1 (.t 7)) 109 false 126, Of 113 (.load (.t 112)) 109 false 638, Of 114 (.bin .andNot (.t 111) (.t 113)) 109 false 2046, Of 115 (.bin .neq (.t 114) (.c (.int .u64 0))) 109 false 4094, Od 116 (.pick (.t 109) (.c (.bool true)) (.t 115)) 8190, Oa 117 (.mv (.t 4)), ⟨(some 118), .mv (.c .any), some ((.c (.fn (.func 155) [] [])), [(.t 103), (.t 116), (.c (.int .i64 6)), (.t 117)]), none, 32767⟩]
abbrev qaml : List SOper := [Oa 119 (.mv (.t 0)), Oa 120 (.mv (.t 2)), Oa 121 (.faddr 2 (.t 7)), Oa 122 (.load (.t 121)), Oc 123 178 [(.t 119), (.t 120), (.t 122)]]
abbrev qamk : List SOper := [Oa 124 (.bin .add (.t 99) (.c (.int .i64 1))), Oa 99 (.mv (.t 124))]
def qaic : SCode := (.seq (.reg false qamo [0, 2, 3, 4, 5, 97, 98, 99, 100]) (.seq (.cond (.t 100) .skip (.exit 2)) (.seq (.block 3 (.seq (.reg false qamn [0, 2, 3, 4, 5, 7, 97, 98, 99]) (.seq (.reg true qamm [0, 2, 3, 4, 5, 7, 97, 98, 99]) (.reg false qaml [0, 2, 3, 4, 5, 97, 98, 99])))) (.reg false qamk [0, 2, 3, 4, 5, 97, 98, 99]))))
abbrev qamj : List SOper := [Oa 125 (.mv (.t 0)), Oa 126 (.mv (.t 2)), Oa 127 (.faddr 4 (.t 3)), Oa 128 (.load (.t 127)), Oc 129 178 [(.t 125), (.t 126), (.t 128)]]
abbrev qami : List SOper := [Oa 42 (.mv (.t 2)), Oa 43 (.bin .add (.t 42) (.c (.int .i64 1))), Oa 2 (.mv (.t 43))]
def c_jstates_l2 : SCode := (.seq (.seq (.reg false qarv [0, 2, 41]) (.cond (.t 41) .skip (.exit 0))) (.seq (.block 1 (.seq (.reg false qaru [0, 2, 3]) (.seq (.reg false qart [0, 2, 3, 4]) (.seq (.reg true qars [0, 2, 3, 4]) (.seq (.reg false qarr [0, 2, 3, 4]) (.seq (.reg true qarq [0, 2, 3, 4, 5]) (.seq (.reg false qarp [0, 2, 3, 4, 5]) (.seq (.seq (.reg false qamp [0, 2, 3, 4, 5, 97, 98, 99]) (.block 2 (.loop qaic))) (.reg false qamj [0, 2]))))))))) (.reg false qami [0, 2])))
def c_jstates : SCode := (.seq (.reg false qarx [0]) (.seq (.reg false qarw [0, 2]) (.block 0 (.loop c_jstates_l2))))
theorem qaka : comp Tryz.prog 130 ((Tryz.f156.body).getD .skip) = some c_jstates.erase := by kernel_rfl
abbrev qbcc : List SOper := [Oa 6 (.mv (.t 0)), Oa 7 (.mv (.t 0)), Oa 8 (.nilc (.t 7)), Oa 9 (.faddr 0 (.t 8)), Oa 10 (.faddr 4 (.t 9)), Oa 11 (.load (.t 10)), Oa 12 (.len false (.t 11)), Oa 13 (.bin .gtr (.t 12) (.c (.int .i64 5))), Oc 14 155 [(.t 6), (.t 13), (.c (.int .i64 2)), (.c (.int .i64 (-5)))]]
abbrev qbcb : List SOper := [Oa 2 (.mv (.c (.int .i64 0)))]
abbrev qbca : List SOper := [Oa 15 (.mv (.t 2)), Oa 16 (.mv (.t 0)), Oa 17 (.nilc (.t 16)), Oa 18 (.faddr 0 (.t 17)), Oa 19 (.faddr 4 (.t 18)), Oa 20 (.load (.t 19)), Oa 21 (.len false (.t 20)), Oa 22 (.bin .lss (.t 15) (.t 21)), Oa 23 (.mv (.t 22)), Oe 24 (.mv (.t 0)) 23 true, Oe 25 (.nilc (.t 24)) 23 true, Oe 26 (.faddr 7 (.t 25)) 23 true, Oe 27 (.faddr 0 (.t 26)) 23 true, Oe 28 (.load (.t 27)) 23 true, Oe 29 (.bin .eql (.t 28) (.c (.int .i64 0))) 23 true, Oa 30 (.pick (.t 23) (.t 29) (.c (.bool false)))]
abbrev qbb9 : List SOper := [Oa 33 (.mv (.t 0)), Oa 34 (.nilc (.t 33)), Oa 35 (.faddr 0 (.t 34)), Oa 36 (.faddr 4 (.t 35)), Oa 37 (.load (.t 36)), Oa 38 (.mv (.t 2)), Oa 39 (.iaddr 6 (.t 37) (.t 38)), Oa 40 (.loads 6 (.t 39)), Oa 3 (.alloc 78 [(.int .i64 0), .nilsl, .nilsl, (.int .i64 0), (.int .i64 0), .nilsl]), Ob (.store 6 (.t 3) (.t 40))]
abbrev qbb8 : List SOper := [Oa 41 (.mv (.t 0)), Oa 42 (.faddr 1 (.t 3)), Oa 43 (.load (.t 42)), Oa 44 (.len false (.t 43)), Oa 45 (.bin .gtr (.t 44) (.c (.int .i64 3))), Oa 46 (.mv (.t 2)), Oa 47 (.bin .add (.c (.int .i64 5000)) (.t 46)), Oc 48 155 [(.t 41), (.t 45), (.c (.int .i64 2)), (.t 47)]]
abbrev qbb7 : List SOper := [Oa 49 (.mv (.t 0)), Od 50 (.nilc (.t 49)) 1, Od 51 (.faddr 0 (.t 50)) 3, Od 52 (.loads 7 (.t 51)) 7, Oa 53 (.loads 6 (.t 3)), ⟨(some 54), .mv (.c .any), some ((.c (.fn (.func 31) [] [])), [(.t 52), (.t 53)]), none, 31⟩, Od 4 (.mv (.t 54)) 63]
abbrev qbb6 : List SOper := [Oa 55 (.mv (.t 0)), Oa 56 (.mv (.t 4)), Oc 57 144 [(.t 56), (.c (.int .i64 0))], Oa 58 (.mv (.t 2)), Oa 59 (.bin .add (.c (.int .i64 5000)) (.t 58)), Oc 60 155 [(.t 55), (.t 57), (.c (.int .i64 1)), (.t 59)]]
abbrev qbb5 : List SOper := [Oa 61 (.loads 6 (.t 3)), Oa 62 (.mv (.t 4)), Oa 63 (.mv (.t 0)), Od 64 (.nilc (.t 63)) 4, Od 65 (.faddr 0 (.t 64)) 12, Od 66 (.faddr 3 (.t 65)) 28, Od 67 (.load (.t 66)) 60, ⟨(some 68), .mv (.c .any), some ((.c (.fn (.func 62) [] [])), [(.t 61), (.t 62), (.t 67)]), none, 127⟩, Od 5 (.mv (.t 68)) 255]
abbrev qbb4 : List SOper := [Oa 69 (.mv (.t 0)), Oa 70 (.mv (.t 5)), Oa 71 (.bin .neq (.t 70) (.c (.int .i64 0))), Oa 72 (.mv (.t 5)), Oa 73 (.mv (.t 2)), Oa 74 (.bin .add (.c (.int .i64 5000)) (.t 73)), Oc 75 155 [(.t 69), (.t 71), (.t 72), (.t 74)]]
abbrev qa2s : List SOper := [Oa 31 (.mv (.t 2)), Oa 32 (.bin .add (.t 31) (.c (.int .i64 1))), Oa 2 (.mv (.t 32))]
def qamh : SCode := (.seq (.seq (.reg false qbca [0, 2, 30]) (.cond (.t 30) .skip (.exit 0))) (.seq (.block 1 (.seq (.reg false qbb9 [0, 2, 3]) (.seq (.reg false qbb8 [0, 2, 3]) (.seq (.reg true qbb7 [0, 2, 3, 4]) (.seq (.reg false qbb6 [0, 2, 3, 4]) (.seq (.reg true qbb5 [0, 2, 5]) (.reg false qbb4 [0, 2]))))))) (.reg false qa2s [0, 2])))
def c_jtabs : SCode := (.seq (.reg false qbcc [0]) (.seq (.reg false qbcb [0, 2]) (.block 0 (.loop qamh))))
theorem qaou : comp Tryz.prog 76 ((Tryz.f158.body).getD .skip) = some c_jtabs.erase := by kernel_rfl
abbrev qa21 : List SOper := [Oa 8 (.mv (.t 0)), Oa 9 (.mv (.t 0)), Oa 10 (.nilc (.t 9)), Oa 11 (.faddr 0 (.t 10)), Oa 12 (.faddr 5 (.t 11)), Oa 13 (.load (.t 12)), Oa 14 (.len false (.t 13)), Oa 15 (.bin .gtr (.t 14) (.c (.int .i64 10))), Oc 16 155 [(.t 8), (.t 15), (.c (.int .i64 2)), (.c (.int .i64 (-6)))]]
abbrev qa20 : List SOper := [Oa 2 (.mv (.c (.int .i64 0)))]
abbrev qa2z : List SOper := [Oa 17 (.mv (.t 2)), Oa 18 (.mv (.t 0)), Oa 19 (.nilc (.t 18)), Oa 20 (.faddr 0 (.t 19)), Oa 21 (.faddr 5 (.t 20)), Oa 22 (.load (.t 21)), Oa 23 (.len false (.t 22)), Oa 24 (.bin .lss (.t 17) (.t 23)), Oa 25 (.mv (.t 24)), Oe 26 (.mv (.t 0)) 25 true, Oe 27 (.nilc (.t 26)) 25 true, Oe 28 (.faddr 7 (.t 27)) 25 true, Oe 29 (.faddr 0 (.t 28)) 25 true, Oe 30 (.load (.t 29)) 25 true, Oe 31 (.bin .eql (.t 30) (.c (.int .i64 0))) 25 true, Oa 32 (.pick (.t 25) (.t 31) (.c (.bool false)))]
abbrev qa2y : List SOper := [Oa 35 (.mv (.t 0)), Oa 36 (.nilc (.t 35)), Oa 37 (.faddr 0 (.t 36)), Oa 38 (.faddr 5 (.t 37)), Oa 39 (.load (.t 38)), Oa 40 (.mv (.t 2)), Oa 41 (.iaddr 5 (.t 39) (.t 40)), Oa 42 (.loads 5 (.t 41)), Oa 3 (.alloc 80 [(.int .i64 0), (.int .i64 0), .nilsl, (.int .i64 0), (.int .i64 0)]), Ob (.store 5 (.t 3) (.t 42))]
abbrev qa2x : List SOper := [Oa 43 (.mv (.t 2)), Oa 44 (.bin .add (.c (.int .i64 6000)) (.t 43)), Oa 4 (.mv (.t 44))]
abbrev qa2w : List SOper := [Oa 45 (.faddr 3 (.t 3)), Oa 46 (.load (.t 45)), Oa 47 (.faddr 4 (.t 3)), Oa 48 (.load (.t 47)), Oa 49 (.mkrow 3 1 2 [(.int .i64 0)] [(0, (.t 46)), (1, (.t 48))]), Oa 5 (.mv (.t 49))]
abbrev qa2v : List SOper := [Oa 50 (.faddr 0 (.t 3)), Oa 51 (.load (.t 50))]
abbrev qa2u : List SOper := [Oa 56 (.bin .eql (.t 51) (.c (.int .i64 1))), Oa 55 (.mv (.t 56))]
abbrev qa2t : List SOper := [Oa 57 (.mv (.t 0)), Oa 58 (.faddr 1 (.t 3)), Od 59 (.load (.t 58)) 2, Od 60 (.bin .lss (.t 59) (.c (.int .i64 0))) 6, Od 61 (.mv (.t 60)) 14, Of 62 (.faddr 1 (.t 3)) 61 false 30, Of 63 (.load (.t 62)) 61 false 62, Of 64 (.mv (.t 0)) 61 false 30, Of 65 (.nilc (.t 64)) 61 false 158, Of 66 (.faddr 0 (.t 65)) 61 false 414, Of 67 (.faddr 4 (.t 66)) 61 false 926, Of 68 (.load (.t 67)) 61 false 1950, Of 69 (.len false (.t 68)) 61 false 3998, Of 70 (.bin .geq (.t 63) (.t 69)) 61 false 8190, Od 71 (.pick (.t 61) (.c (.bool true)) (.t 70)) 16382, Oa 72 (.mv (.t 4)), ⟨(some 73), .mv (.c .any), some ((.c (.fn (.func 155) [] [])), [(.t 57), (.t 71), (.c (.int .i64 1)), (.t 72)]), none, 65535⟩]
abbrev qase : List SOper := [Oa 74 (.mv (.t 5)), Oa 75 (.slice 1 (.t 74) none (some (.c (.int .i64 1)))), Oa 5 (.mv (.t 75))]
abbrev qasd : List SOper := [Oa 77 (.bin .eql (.t 51) (.c (.int .i64 2))), Oa 76 (.mv (.t 77))]
abbrev qasc : List SOper := [Oa 78 (.mv (.t 0)), Oa 79 (.faddr 1 (.t 3)), Od 80 (.load (.t 79)) 2, Od 81 (.bin .lss (.t 80) (.c (.int .i64 0))) 6, Od 82 (.mv (.t 81)) 14, Of 83 (.faddr 1 (.t 3)) 82 false 30, Of 84 (.load (.t 83)) 82 false 62, Of 85 (.mv (.t 0)) 82 false 30, Of 86 (.nilc (.t 85)) 82 false 158, Of 87 (.faddr 0 (.t 86)) 82 false 414, Of 88 (.faddr 3 (.t 87)) 82 false 926, Of 89 (.load (.t 88)) 82 false 1950, Of 90 (.len false (.t 89)) 82 false 3998, Of 91 (.bin .geq (.t 84) (.t 90)) 82 false 8190, Od 92 (.pick (.t 82) (.c (.bool true)) (.t 91)) 16382, Oa 93 (.mv (.t 4)), ⟨(some 94), .mv (.c .any), some ((.c (.fn (.func 155) [] [])), [(.t 78), (.t 92), (.c (.int .i64 1)), (.t 93)]), none, 65535⟩]
abbrev qasb : List SOper := [Oa 95 (.mv (.t 0)), Oa 96 (.mv (.t 0)), Od 97 (.nilc (.t 96)) 2, Od 98 (.faddr 7 (.t 97)) 6, Od 99 (.faddr 0 (.t 98)) 14, Od 100 (.load (.t 99)) 30, Od 101 (.bin .eql (.t 100) (.c (.int .i64 0))) 62, Od 102 (.mv (.t 101)) 126, Of 103 (.mv (.t 0)) 102 true 254, Of 104 (.nilc (.t 103)) 102 true 510, Of 105 (.faddr 0 (.t 104)) 102 true 1022, Of 106 (.faddr 3 (.t 105)) 102 true 2046, Of 107 (.load (.t 106)) 102 true 4094, Of 108 (.faddr 1 (.t 3)) 102 true 254, Of 109 (.load (.t 108)) 102 true 8446, Of 110 (.iaddr 2 (.t 107) (.t 109)) 102 true 32766, Of 111 (.faddr 0 (.t 110)) 102 true 65534, Of 112 (.load (.t 111)) 102 true 131070, Of 113 (.len false (.t 112)) 102 true 262142, Of 114 (.bin .gtr (.t 113) (.c (.int .i64 0))) 102 true 524286, Od 115 (.pick (.t 102) (.t 114) (.c (.bool false))) 1048574, Oa 116 (.mv (.t 4)), ⟨(some 117), .mv (.c .any), some ((.c (.fn (.func 155) [] [])), [(.t 95), (.t 115), (.c (.int .i64 2)), (.t 116)]), none, 4194303⟩]
abbrev qasa : List SOper := [Oa 118 (.mv (.t 5)), Oa 119 (.slice 1 (.t 118) none (some (.c (.int .i64 1)))), Oa 5 (.mv (.t 119))]
abbrev qar9 : List SOper := [Oa 121 (.bin .eql (.t 51) (.c (.int .i64 3))), Oa 120 (.mv (.t 121))]
abbrev qar8 : List SOper := [Oa 122 (.mv (.t 0)), Oa 123 (.faddr 2 (.t 3)), Oa 124 (.load (.t 123)), Oa 125 (.mv (.t 4)), Oc 126 180 [(.t 122), (.t 124), (.c .nilsl), (.t 125)]]
abbrev qar7 : List SOper := [Oa 128 (.bin .eql (.t 51) (.c (.int .i64 4))), Oa 127 (.mv (.t 128))]
abbrev qar6 : List SOper := [Oa 129 (.mv (.t 0)), Oa 130 (.faddr 1 (.t 3)), Oa 131 (.load (.t 130)), Oa 132 (.mv (.t 4)), Oc 133 160 [(.t 129), (.t 131), (.t 132)]]
abbrev qar5 : List SOper := [Oa 52 (.mv (.t 0)), Oa 53 (.mv (.t 4)), Oc 54 155 [(.t 52), (.c (.bool true)), (.c (.int .i64 5)), (.t 53)]]
abbrev qar4 : List SOper := [Oa 134 (.mv (.t 5)), Oa 135 (.len false (.t 134)), Oa 136 (.mv (.c (.int .i64 0)))]
abbrev qar3 : List SOper := [Oa 137 (.bin .lss (.t 136) (.t 135))]
abbrev qar2 : List SOper := [Oa 138 (.iaddr 1 (.t 134) (.t 136)), Oa 139 (.load (.t 138)), Oa 7 (.mv (.t 139))]
abbrev qar1 : List SOper := [Oa 140 (.mv (.t 0)), Oa 141 (.mv (.t 7)), Oa 142 (.bin .lss (.t 141) (.c (.int .i64 0))), Oa 143 (.mv (.t 142)), Oe 144 (.mv (.t 7)) 143 false, Oe 145 (.mv (.t 0)) 143 false, Oe 146 (.nilc (.t 145)) 143 false, Oe 147 (.faddr 0 (.t 146)) 143 false, Oe 148 (.faddr 5 (.t 147)) 143 false, Oe 149 (.load (.t 148)) 143 false, Oe 150 (.len false (.t 149)) 143 false, Oe 151 (.bin .gtr (.t 144) (.t 150)) 143 false, Oa 152 (.pick (.t 143) (.c (.bool true)) (.t 151)), Oa 153 (.mv (.t 4)), Oc 154 155 [(.t 140), (.t 152), (.c (.int .i64 1)), (.t 153)]]
abbrev qar0 : List SOper := [Oa 155 (.mv (.t 0)), Oa 156 (.mv (.t 7)), Oa 157 (.mv (.t 2)), Oa 158 (.bin .leq (.t 156) (.t 157)), Oa 159 (.mv (.t 4)), Oc 160 155 [(.t 155), (.t 158), (.c (.int .i64 11)), (.t 159)]]
abbrev qarz : List SOper := [Oa 161 (.bin .add (.t 136) (.c (.int .i64 1))), Oa 136 (.mv (.t 161))]
def qadc : SCode := (.seq (.reg false qar3 [0, 2, 4, 134, 135, 136, 137]) (.seq (.cond (.t 137) .skip (.exit 3)) (.seq (.block 4 (.seq (.reg false qar2 [0, 2, 4, 7, 134, 135, 136]) (.seq (.reg false qar1 [0, 2, 4, 7, 134, 135, 136]) (.reg false qar0 [0, 2, 4, 134, 135, 136])))) (.reg false qarz [0, 2, 4, 134, 135, 136]))))
abbrev qary : List SOper := [Oa 33 (.mv (.t 2)), Oa 34 (.bin .add (.t 33) (.c (.int .i64 1))), Oa 2 (.mv (.t 34))]
def qajm : SCode := (.seq (.seq (.reg false qa2z [0, 2, 32]) (.cond (.t 32) .skip (.exit 0))) (.seq (.block 1 (.seq (.reg false qa2y [0, 2, 3]) (.seq (.reg false qa2x [0, 2, 3, 4]) (.seq (.reg false qa2w [0, 2, 3, 4, 5]) (.seq (.seq (.reg false qa2v [0, 2, 3, 4, 5, 51]) (.block 2 (.seq (.reg false qa2u [0, 2, 3, 4, 5, 51, 55]) (.cond (.t 55) (.seq (.reg true qa2t [0, 2, 4, 5]) (.reg false qase [0, 2, 4, 5])) (.seq (.reg false qasd [0, 2, 3, 4, 5, 51, 76]) (.cond (.t 76) (.seq (.reg true qasc [0, 2, 3, 4, 5]) (.seq (.reg true qasb [0, 2, 4, 5]) (.reg false qasa [0, 2, 4, 5]))) (.seq (.reg false qar9 [0, 2, 3, 4, 5, 51, 120]) (.cond (.t 120) (.reg false qar8 [0, 2, 4, 5]) (.seq (.reg false qar7 [0, 2, 3, 4, 5, 127]) (.cond (.t 127) (.reg false qar6 [0, 2, 4, 5]) (.reg false qar5 [0, 2, 4, 5]))))))))))) (.seq (.reg false qar4 [0, 2, 4, 134, 135, 136]) (.block 3 (.loop qadc)))))))) (.reg false qary [0, 2])))
def c_jnodes : SCode := (.seq (.reg false qa21 [0]) (.seq (.reg false qa20 [0, 2]) (.block 0 (.loop qajm))))
theorem qalh : comp Tryz.prog 162 ((Tryz.f159.body).getD .skip) = some c_jnodes.erase := by kernel_rfl
abbrev qa1u : List SOper := [Oa 1 (.box 33 (.t 0)), Oa 2 (.alloc 37 [(.int .i64 0), (.int .i64 0)])]
abbrev qa1t : List SOper := [Oa 10 (.loads 7 (.t 1)), Oa 11 (.build [.nilsl, .nilsl, .nilsl, .nilsl, .nilsl, .nilsl, .nilsl, (.int .i64 0), (.int .i64 0)] [(0, 7, (.t 10))]), Oa 12 (.box 261 (.t 11)), Oa 3 (.mv (.t 12))]
abbrev qa1s : List SOper := [Oa 13 (.mv (.t 3)), Oa 14 (.faddr 0 (.t 1)), Oa 15 (.load (.t 14)), Oa 16 (.len false (.t 15)), Oa 17 (.bin .gtr (.t 16) (.c (.int .i64 6))), Oc 18 155 [(.t 13), (.t 17), (.c (.int .i64 2)), (.c (.int .i64 (-1)))]]
abbrev qa1r : List SOper := [Oa 4 (.mv (.c (.int .i64 0)))]
abbrev qa1q : List SOper := [Oa 19 (.mv (.t 4)), Oa 20 (.faddr 0 (.t 1)), Oa 21 (.load (.t 20)), Oa 22 (.len false (.t 21)), Oa 23 (.bin .lss (.t 19) (.t 22)), Oa 24 (.mv (.t 23)), Oe 25 (.mv (.t 3)) 24 true, Oe 26 (.nilc (.t 25)) 24 true, Oe 27 (.faddr 7 (.t 26)) 24 true, Oe 28 (.faddr 0 (.t 27)) 24 true, Oe 29 (.load (.t 28)) 24 true, Oe 30 (.bin .eql (.t 29) (.c (.int .i64 0))) 24 true, Oa 31 (.pick (.t 24) (.t 30) (.c (.bool false)))]
abbrev qa1p : List SOper := [Oa 35 (.faddr 0 (.t 1)), Oa 36 (.load (.t 35)), Oa 37 (.mv (.t 4)), Oa 38 (.iaddr 1 (.t 36) (.t 37)), Oa 39 (.loads 1 (.t 38)), Oc 40 68 [(.t 39)], Oa 34 (.mv (.t 40)), Oa 41 (.extr (.t 34) 0), Oa 42 (.extr (.t 34) 1), Oa 6 (.alloc 37 [(.int .i64 0), (.int .i64 0)]), Oa 5 (.mv (.t 41)), Ob (.store 2 (.t 6) (.t 42))]
abbrev qa1o : List SOper := [Oa 43 (.mv (.t 3)), Oa 44 (.faddr 0 (.t 6)), Oa 45 (.load (.t 44)), Oa 46 (.bin .neq (.t 45) (.c (.int .i64 0))), Oa 47 (.faddr 0 (.t 6)), Oa 48 (.load (.t 47)), Oa 49 (.mv (.t 4)), Oa 50 (.bin .add (.c (.int .i64 1000)) (.t 49)), Oc 51 155 [(.t 43), (.t 46), (.t 48), (.t 50)]]
abbrev qa1n : List SOper := [Oa 32 (.mv (.t 4)), Oa 33 (.bin .add (.t 32) (.c (.int .i64 1))), Oa 4 (.mv (.t 33))]
def qaji : SCode := (.seq (.seq (.reg false qa1q [1, 2, 3, 4, 31]) (.cond (.t 31) .skip (.exit 0))) (.seq (.block 1 (.seq (.reg false qa1p [1, 2, 3, 4, 6]) (.reg false qa1o [1, 2, 3, 4]))) (.reg false qa1n [1, 2, 3, 4])))
abbrev qajh : List SOper := [Oa 52 (.mv (.t 3)), Oa 53 (.faddr 1 (.t 1)), Oa 54 (.load (.t 53)), Oa 55 (.len false (.t 54)), Oa 56 (.bin .gtr (.t 55) (.c (.int .i64 4))), Oc 57 155 [(.t 52), (.t 56), (.c (.int .i64 2)), (.c (.int .i64 (-2)))]]
abbrev qaia : List SOper := [Oa 58 (.faddr 1 (.t 1)), Oa 59 (.load (.t 58)), Oa 60 (.len false (.t 59)), Oa 61 (.mv (.c (.int .i64 0)))]
abbrev qari : List SOper := [Oa 62 (.bin .lss (.t 61) (.t 60))]
abbrev qarh : List SOper := [Oa 63 (.mv (.t 61)), Oa 64 (.iaddr 1 (.t 59) (.t 61)), Oa 65 (.load (.t 64)), Oa 7 (.mv (.t 63)), Oa 8 (.mv (.t 65))]
abbrev qarg : List SOper := [Oa 66 (.mv (.t 3)), Oa 67 (.mv (.t 8)), Oa 68 (.bin .lss (.t 67) (.c (.int .i64 1))), Oa 69 (.mv (.t 68)), Oe 70 (.mv (.t 8)) 69 false, Oe 71 (.bin .gtr (.t 70) (.c (.int .i64 48))) 69 false, Oa 72 (.pick (.t 69) (.c (.bool true)) (.t 71)), Oa 73 (.mv (.t 7)), Oa 74 (.bin .add (.c (.int .i64 2000)) (.t 73)), Oc 75 155 [(.t 66), (.t 72), (.c (.int .i64 6)), (.t 74)]]
abbrev qarf : List SOper := [Oa 76 (.bin .add (.t 61) (.c (.int .i64 1))), Oa 61 (.mv (.t 76))]
def qagy : SCode := (.seq (.reg false qari [1, 2, 3, 59, 60, 61, 62]) (.seq (.cond (.t 62) .skip (.exit 2)) (.seq (.block 3 (.seq (.reg false qarh [1, 2, 3, 7, 8, 59, 60, 61]) (.reg false qarg [1, 2, 3, 59, 60, 61]))) (.reg false qarf [1, 2, 3, 59, 60, 61]))))
abbrev qah9 : List SOper := [Oa 77 (.mv (.t 3)), Oa 78 (.nilc (.t 77)), Oa 79 (.faddr 7 (.t 78)), Oa 80 (.faddr 0 (.t 79)), Oa 81 (.load (.t 80)), Oa 82 (.bin .neq (.t 81) (.c (.int .i64 0)))]
abbrev qah8 : List SOper := [Oa 83 (.mv (.t 3)), Oa 84 (.nilc (.t 83)), Oa 85 (.faddr 7 (.t 84)), Oa 86 (.loads 2 (.t 85)), Ob (.store 2 (.t 2) (.t 86))]
abbrev qafz : List SOper := [Oa 87 (.mv (.t 3)), Oc 88 156 [(.t 87)]]
abbrev qafy : List SOper := [Oa 89 (.mv (.t 3)), Oc 90 157 [(.t 89)]]
abbrev qafx : List SOper := [Oa 91 (.mv (.t 3)), Oc 92 158 [(.t 91)]]
abbrev qafw : List SOper := [Oa 93 (.mv (.t 3)), Oc 94 159 [(.t 93)]]
abbrev qafv : List SOper := [Oa 95 (.mv (.t 3)), Oa 96 (.faddr 6 (.t 1)), Oa 97 (.load (.t 96)), Oa 98 (.len false (.t 97)), Oa 99 (.bin .gtr (.t 98) (.c (.int .i64 6))), Oc 100 155 [(.t 95), (.t 99), (.c (.int .i64 2)), (.c (.int .i64 (-7)))]]
abbrev qafu : List SOper := [Oa 9 (.mv (.c (.int .i64 0)))]
abbrev qare : List SOper := [Oa 101 (.mv (.t 9)), Oa 102 (.faddr 6 (.t 1)), Oa 103 (.load (.t 102)), Oa 104 (.len false (.t 103)), Oa 105 (.bin .lss (.t 101) (.t 104)), Oa 106 (.mv (.t 105)), Oe 107 (.mv (.t 3)) 106 true, Oe 108 (.nilc (.t 107)) 106 true, Oe 109 (.faddr 7 (.t 108)) 106 true, Oe 110 (.faddr 0 (.t 109)) 106 true, Oe 111 (.load (.t 110)) 106 true, Oe 112 (.bin .eql (.t 111) (.c (.int .i64 0))) 106 true, Oa 113 (.pick (.t 106) (.t 112) (.c (.bool false)))]
abbrev qard : List SOper := [Oa 116 (.mv (.t 3)), Oa 117 (.faddr 6 (.t 1)), Oa 118 (.load (.t 117)), Oa 119 (.mv (.t 9)), Oa 120 (.iaddr 1 (.t 118) (.t 119)), Oa 121 (.load (.t 120)), Oa 122 (.mv (.t 9)), Oa 123 (.bin .add (.c (.int .i64 7000)) (.t 122)), Oc 124 160 [(.t 116), (.t 121), (.t 123)]]
abbrev qarc : List SOper := [Oa 125 (.mv (.t 3)), Oa 126 (.faddr 6 (.t 1)), Od 127 (.load (.t 126)) 2, Oa 128 (.mv (.t 9)), Od 129 (.slice 1 (.t 127) none (some (.t 128))) 14, Oa 130 (.faddr 6 (.t 1)), Od 131 (.load (.t 130)) 32, Oa 132 (.mv (.t 9)), Od 133 (.iaddr 1 (.t 131) (.t 132)) 224, Od 134 (.load (.t 133)) 480, ⟨(some 135), .mv (.c .any), some ((.c (.fn (.func 144) [] [])), [(.t 129), (.t 134)]), none, 1022⟩, Oa 136 (.mv (.t 9)), Od 137 (.bin .add (.c (.int .i64 7000)) (.t 136)) 2048, ⟨(some 138), .mv (.c .any), some ((.c (.fn (.func 155) [] [])), [(.t 125), (.t 135), (.c (.int .i64 7)), (.t 137)]), none, 8191⟩]
abbrev qarb : List SOper := [Oa 114 (.mv (.t 9)), Oa 115 (.bin .add (.t 114) (.c (.int .i64 1))), Oa 9 (.mv (.t 115))]
def qafc : SCode := (.seq (.seq (.reg false qare [1, 2, 3, 9, 113]) (.cond (.t 113) .skip (.exit 4))) (.seq (.block 5 (.seq (.reg false qard [1, 2, 3, 9]) (.reg true qarc [1, 2, 3, 9]))) (.reg false qarb [1, 2, 3, 9])))
abbrev qaer : List SOper := [Oa 139 (.mv (.t 3)), Oa 140 (.nilc (.t 139)), Oa 141 (.faddr 7 (.t 140)), Oa 142 (.loads 2 (.t 141)), Ob (.store 2 (.t 2) (.t 142))]
def c_pcheck : SCode := (.seq (.reg false qa1u [1, 2]) (.seq (.reg false qa1t [1, 2, 3]) (.seq (.reg false qa1s [1, 2, 3]) (.seq (.seq (.reg false qa1r [1, 2, 3, 4]) (.block 0 (.loop qaji))) (.seq (.reg false qajh [1, 2, 3]) (.seq (.seq (.reg false qaia [1, 2, 3, 59, 60, 61]) (.block 2 (.loop qagy))) (.seq (.seq (.reg false qah9 [1, 2, 3, 82]) (.cond (.t 82) (.seq (.reg false qah8 [2]) .ret) .skip)) (.seq (.reg false qafz [1, 2, 3]) (.seq (.reg false qafy [1, 2, 3]) (.seq (.reg false qafx [1, 2, 3]) (.seq (.reg false qafw [1, 2, 3]) (.seq (.reg false qafv [1, 2, 3]) (.seq (.seq (.reg false qafu [1, 2, 3, 9]) (.block 4 (.loop qafc))) (.seq (.reg false qaer [2]) .ret))))))))))))))
theorem qalg : comp Tryz.prog 143 ((Tryz.f138.body).getD .skip) = some c_pcheck.erase := by kernel_rfl
abbrev qavl : List SOper := [Oa 3 (.box 78 (.t 0)), Oa 6 (.mv (.c (.int .i64 0)))]
abbrev qavk : List SOper := [Oa 12 (.faddr 0 (.t 3)), Oa 13 (.load (.t 12)), Oa 14 (.bin .neq (.t 13) (.c (.int .i64 1))), Oa 15 (.mv (.t 14)), Oe 16 (.faddr 0 (.t 3)) 15 true, Oe 17 (.load (.t 16)) 15 true, Oe 18 (.bin .neq (.t 17) (.c (.int .i64 2))) 15 true, Oa 19 (.pick (.t 15) (.t 18) (.c (.bool false))), Oa 20 (.mv (.t 19)), Oe 21 (.faddr 0 (.t 3)) 20 true, Oe 22 (.load (.t 21)) 20 true, Oe 23 (.bin .neq (.t 22) (.c (.int .i64 3))) 20 true, Oa 24 (.pick (.t 20) (.t 23) (.c (.bool false))), Oa 11 (.mv (.t 24))]
abbrev qavj : List SOper := [Oa 6 (.mv (.c (.int .i64 5)))]
abbrev qavi : List SOper := [Oa 26 (.mv (.t 1)), Oa 27 (.len false (.t 26)), Oa 28 (.bin .eql (.t 27) (.c (.int .i64 0))), Oa 29 (.mv (.t 28)), Oe 30 (.mv (.t 1)) 29 false, Oe 31 (.len false (.t 30)) 29 false, Oe 32 (.bin .gtr (.t 31) (.c (.int .i64 3))) 29 false, Oa 33 (.pick (.t 29) (.c (.bool true)) (.t 32)), Oa 34 (.mv (.t 33)), Oe 35 (.faddr 0 (.t 3)) 34 false, Oe 36 (.load (.t 35)) 34 false, Oe 37 (.bin .eql (.t 36) (.c (.int .i64 2))) 34 false, Oe 38 (.mv (.t 37)) 34 false, Oe 39 (.mv (.t 1)) 38 true, Oe 40 (.len false (.t 39)) 38 true, Oe 41 (.bin .neq (.t 40) (.c (.int .i64 1))) 38 true, Oe 42 (.pick (.t 38) (.t 41) (.c (.bool false))) 34 false, Oa 43 (.pick (.t 34) (.c (.bool true)) (.t 42)), Oa 44 (.mv (.t 43)), Oe 45 (.faddr 2 (.t 3)) 44 false, Oe 46 (.load (.t 45)) 44 false, Oe 47 (.len false (.t 46)) 44 false, Oe 48 (.bin .eql (.t 47) (.c (.int .i64 0))) 44 false, Oa 49 (.pick (.t 44) (.c (.bool true)) (.t 48)), Oa 50 (.mv (.t 49)), Oe 51 (.faddr 2 (.t 3)) 50 false, Oe 52 (.load (.t 51)) 50 false, Oe 53 (.len false (.t 52)) 50 false, Oe 54 (.bin .gtr (.t 53) (.c (.int .i64 4))) 50 false, Oa 55 (.pick (.t 50) (.c (.bool true)) (.t 54)), Oa 25 (.mv (.t 55))]
abbrev qavh : List SOper := [Oa 6 (.mv (.c (.int .i64 2)))]
abbrev qavg : List SOper := [Oa 57 (.faddr 3 (.t 3)), Oa 58 (.load (.t 57)), Oa 59 (.bin .lss (.t 58) (.c (.int .i64 0))), Oa 60 (.mv (.t 59)), Oe 61 (.faddr 3 (.t 3)) 60 false, Oe 62 (.load (.t 61)) 60 false, Oe 63 (.bin .gtr (.t 62) (.c (.int .i64 16))) 60 false, Oa 64 (.pick (.t 60) (.c (.bool true)) (.t 63)), Oa 56 (.mv (.t 64))]
abbrev qavf : List SOper := [Oa 6 (.mv (.c (.int .i64 1)))]
abbrev qave : List SOper := [Oa 65 (.mv (.t 1)), Oa 66 (.len false (.t 65)), Oa 67 (.mv (.c (.int .i64 0)))]
abbrev qavd : List SOper := [Oa 68 (.bin .lss (.t 67) (.t 66))]
abbrev qapj : List SOper := [Oa 69 (.iaddr 1 (.t 65) (.t 67)), Oa 70 (.load (.t 69)), Oa 8 (.mv (.t 70))]
abbrev qapi : List SOper := [Oa 71 (.mv (.t 8)), Oa 72 (.bin .lss (.t 71) (.c (.int .i64 1))), Oa 73 (.mv (.t 72)), Oe 74 (.mv (.t 8)) 73 false, Oe 75 (.bin .gtr (.t 74) (.c (.int .i64 48))) 73 false, Oa 76 (.pick (.t 73) (.c (.bool true)) (.t 75))]
abbrev qaph : List SOper := [Oa 6 (.mv (.c (.int .i64 6)))]
abbrev qapg : List SOper := [Oa 77 (.bin .add (.t 67) (.c (.int .i64 1))), Oa 67 (.mv (.t 77))]
def qai2 : SCode := (.seq (.reg false qavd [2, 3, 65, 66, 67, 68]) (.seq (.cond (.t 68) .skip (.exit 1)) (.seq (.block 2 (.seq (.reg false qapj [2, 3, 8, 65, 66, 67]) (.seq (.reg false qapi [2, 3, 65, 66, 67, 76]) (.cond (.t 76) (.seq (.reg false qaph [6]) .ret) .skip)))) (.reg false qapg [2, 3, 65, 66, 67]))))
abbrev qapf : List SOper := [Oa 78 (.faddr 2 (.t 3)), Oa 79 (.load (.t 78)), Oa 80 (.len false (.t 79)), Oa 81 (.mv (.c (.int .i64 0)))]
abbrev qape : List SOper := [Oa 82 (.bin .lss (.t 81) (.t 80))]
abbrev qapd : List SOper := [Oa 83 (.iaddr 1 (.t 79) (.t 81)), Oa 84 (.load (.t 83)), Oa 10 (.mv (.t 84))]
abbrev qapc : List SOper := [Oa 85 (.mv (.t 10)), Oa 86 (.bin .lss (.t 85) (.c (.int .i64 0))), Oa 87 (.mv (.t 86)), Oe 88 (.mv (.t 10)) 87 false, Oe 89 (.mv (.t 2)) 87 false, Oe 90 (.len false (.t 89)) 87 false, Oe 91 (.bin .geq (.t 88) (.t 90)) 87 false, Oa 92 (.pick (.t 87) (.c (.bool true)) (.t 91))]
abbrev qapb : List SOper := [Oa 6 (.mv (.c (.int .i64 1)))]
abbrev qapa : List SOper := [Oa 93 (.bin .add (.t 81) (.c (.int .i64 1))), Oa 81 (.mv (.t 93))]
def qai1 : SCode := (.seq (.reg false qape [2, 3, 79, 80, 81, 82]) (.seq (.cond (.t 82) .skip (.exit 3)) (.seq (.block 4 (.seq (.reg false qapd [2, 3, 10, 79, 80, 81]) (.seq (.reg false qapc [2, 3, 79, 80, 81, 92]) (.cond (.t 92) (.seq (.reg false qapb [6]) .ret) .skip)))) (.reg false qapa [2, 3, 79, 80, 81]))))
abbrev qao9 : List SOper := [Oa 94 (.loads 6 (.t 3)), Oa 95 (.mv (.t 2)), Oa 96 (.faddr 4 (.t 3)), Oa 97 (.load (.t 96)), Oa 98 (.faddr 5 (.t 3)), Oa 99 (.load (.t 98)), Oc 100 111 [(.t 94), (.t 95), (.t 97), (.t 99)], Oa 6 (.mv (.t 100))]
def c_tcheck : SCode := (.seq (.reg false qavl [1, 2, 3]) (.seq (.block 0 (.seq (.reg false qavk [1, 2, 3, 11]) (.cond (.t 11) (.seq (.reg false qavj [6]) .ret) (.seq (.reg false qavi [1, 2, 3, 25]) (.cond (.t 25) (.seq (.reg false qavh [6]) .ret) (.seq (.reg false qavg [1, 2, 3, 56]) (.cond (.t 56) (.seq (.reg false qavf [6]) .ret) .skip))))))) (.seq (.seq (.reg false qave [2, 3, 65, 66, 67]) (.block 1 (.loop qai2))) (.seq (.seq (.reg false qapf [2, 3, 79, 80, 81]) (.block 3 (.loop qai1))) (.seq (.reg false qao9 [6]) .ret)))))
theorem qak7 : comp Tryz.prog 101 ((Tryz.f62.body).getD .skip) = some c_tcheck.erase := by kernel_rfl
abbrev qbf5 : List SOper := [Oa 4 (.box 78 (.t 0)), Oa 8 (.mv (.c (.int .i64 0)))]
abbrev qbf4 : List SOper := [Oa 12 (.faddr 2 (.t 4)), Oa 13 (.load (.t 12)), Oa 14 (.mv (.t 2)), Oc 15 144 [(.t 13), (.t 14)], Oa 16 (.un .not (.t 15))]
abbrev qbf3 : List SOper := [Oa 8 (.mv (.c (.int .i64 5)))]
abbrev qbf2 : List SOper := [Oa 17 (.mv (.t 1)), Oa 18 (.mv (.t 2)), Oa 19 (.iaddr 2 (.t 17) (.t 18)), Oa 20 (.faddr 0 (.t 19)), Oa 21 (.load (.t 20)), Oa 9 (.mv (.t 21))]
abbrev qbf1 : List SOper := [Oa 22 (.mv (.t 3)), Oa 23 (.len false (.t 22)), Oa 24 (.mv (.t 9)), Oa 25 (.len false (.t 24)), Oa 26 (.bin .neq (.t 23) (.t 25))]
abbrev qbf0 : List SOper := [Oa 8 (.mv (.c (.int .i64 2)))]
abbrev qbfz : List SOper := [Oa 27 (.mv (.t 3)), Oa 28 (.len false (.t 27)), Oa 29 (.mv (.c (.int .i64 0)))]
abbrev qbfy : List SOper := [Oa 30 (.bin .lss (.t 29) (.t 28))]
abbrev qbfx : List SOper := [Oa 31 (.mv (.t 29)), Oa 32 (.iaddr 1 (.t 27) (.t 29)), Oa 33 (.load (.t 32)), Oa 10 (.mv (.t 31)), Oa 11 (.mv (.t 33))]
abbrev qa7o : List SOper := [Oa 34 (.mv (.t 11)), Oa 35 (.mv (.t 9)), Oa 36 (.mv (.t 10)), Oa 37 (.iaddr 1 (.t 35) (.t 36)), Oa 38 (.load (.t 37)), Oc 39 75 [(.t 38)], Oa 40 (.bin .gtr (.t 34) (.t 39))]
abbrev qa7n : List SOper := [Oa 8 (.mv (.c (.int .i64 6)))]
abbrev qa7m : List SOper := [Oa 41 (.bin .add (.t 29) (.c (.int .i64 1))), Oa 29 (.mv (.t 41))]
def qatl : SCode := (.seq (.reg false qbfy [9, 27, 28, 29, 30]) (.seq (.cond (.t 30) .skip (.exit 0)) (.seq (.block 1 (.seq (.reg false qbfx [9, 10, 11, 27, 28, 29]) (.seq (.reg false qa7o [9, 27, 28, 29, 40]) (.cond (.t 40) (.seq (.reg false qa7n [8]) .ret) .skip)))) (.reg false qa7m [9, 27, 28, 29]))))
abbrev qa7l : List SOper := [Oa 8 (.mv (.c (.int .i64 0)))]
def c_says : SCode := (.seq (.reg false qbf5 [1, 2, 3, 4]) (.seq (.seq (.reg false qbf4 [1, 2, 3, 16]) (.cond (.t 16) (.seq (.reg false qbf3 [8]) .ret) .skip)) (.seq (.reg false qbf2 [3, 9]) (.seq (.seq (.reg false qbf1 [3, 9, 26]) (.cond (.t 26) (.seq (.reg false qbf0 [8]) .ret) .skip)) (.seq (.seq (.reg false qbfz [9, 27, 28, 29]) (.block 0 (.loop qatl))) (.seq (.reg false qa7l [8]) .ret))))))
theorem qaug : comp Tryz.prog 42 ((Tryz.f111.body).getD .skip) = some c_says.erase := by kernel_rfl
abbrev qam7 : List SOper := [Oa 4 (.mv (.c (.bool false)))]
abbrev qam6 : List SOper := [Oa 5 (.mv (.t 0)), Oa 6 (.mv (.t 1)), Oc 7 165 [(.t 5), (.t 6)], Oa 8 (.bin .geq (.t 7) (.c (.int .i64 0))), Oa 4 (.mv (.t 8))]
def c_contains : SCode := (.seq (.reg false qam7 [0, 1]) (.seq (.reg false qam6 [4]) .ret))
theorem qaij : comp Tryz.prog 9 ((Tryz.f144.body).getD .skip) = some c_contains.erase := by kernel_rfl
abbrev qbcw : List SOper := [Oa 4 (.mv (.c (.int .i64 0)))]
abbrev qbcv : List SOper := [Oa 6 (.mv (.t 0)), Oa 7 (.len false (.t 6)), Oa 8 (.mv (.c (.int .i64 0)))]
abbrev qbcu : List SOper := [Oa 9 (.bin .lss (.t 8) (.t 7))]
abbrev qbct : List SOper := [Oa 10 (.mv (.t 8)), Oa 5 (.mv (.t 10))]
abbrev qbcs : List SOper := [Oa 11 (.mv (.t 1)), Oa 12 (.mv (.t 0)), Oa 13 (.mv (.t 5)), Oa 14 (.iaddr 1 (.t 12) (.t 13)), Oa 15 (.load (.t 14)), Oa 16 (.bin .eql (.t 11) (.t 15))]
abbrev qbcr : List SOper := [Oa 17 (.mv (.t 5)), Oa 4 (.mv (.t 17))]
abbrev qbcq : List SOper := [Oa 18 (.bin .add (.t 8) (.c (.int .i64 1))), Oa 8 (.mv (.t 18))]
def qamt : SCode := (.seq (.reg false qbcu [0, 1, 7, 8, 9]) (.seq (.cond (.t 9) .skip (.exit 0)) (.seq (.block 1 (.seq (.reg false qbct [0, 1, 5, 7, 8]) (.seq (.reg false qbcs [0, 1, 5, 7, 8, 16]) (.cond (.t 16) (.seq (.reg false qbcr [4]) .ret) .skip)))) (.reg false qbcq [0, 1, 7, 8]))))
abbrev qbcp : List SOper := [Oa 4 (.mv (.c (.int .i64 (-1))))]
def c_index : SCode := (.seq (.reg false qbcw [0, 1]) (.seq (.seq (.reg false qbcv [0, 1, 7, 8]) (.block 0 (.loop qamt))) (.seq (.reg false qbcp [4]) .ret)))
theorem qaoy : comp Tryz.prog 19 ((Tryz.f165.body).getD .skip) = some c_index.erase := by kernel_rfl
end Go.Proofs.YteoijlmgiemffaaGreat
namespace Go.Proofs.YteoijlmgiemffaaGreat
set_option linter.all false
open Go.RowKit
attribute [local simp] qabi qabh qaax qaa7 qaay qaa6 qabf qabg qaar qabr SOp.run SX.ev putd puts argS upds SOp.touch SSt.keep SSt.skip gets geth puth delh idOf SV.cells? setL qadh qadi sbin eq0 eq1 eqL qadf qab9 qaca qaap qabk qaag qabl qabs qaaj qaaq FrzOk qaba qaa1 qaa8 qaa9 qaat qaa0 qabm qaa2 qaav qabb qaau frzS frzH frz frz1 frz0 SlotsM ObjsM ObjM rn ren ren1 ren0 qabu qab7 qacf qabt qabn qacg qace CoL qabc qab3 dels adds idsH qabz
instance : PureF refc := ⟨fun _ _ => rfl, fun _ => rfl, fun _ => qab4 _ rfl⟩
instance : PureF qaes := ⟨fun _ _ => rfl, fun _ => rfl, fun _ => qab4 _ rfl⟩
instance : PureF qadt := ⟨fun _ _ => rfl, fun _ => rfl, fun _ => qab4 _ rfl⟩
instance : PureF qaei := ⟨fun _ _ => rfl, fun _ => rfl, fun _ => qab4 _ rfl⟩
instance : PureF qab8 := ⟨fun _ _ => rfl, fun _ => rfl, fun _ => qab4 _ rfl⟩
instance : PureF opc := ⟨fun _ _ => rfl, fun _ => rfl, fun _ => qab4 _ rfl⟩
instance : PureF actc := ⟨fun _ _ => rfl, fun _ => rfl, fun _ => qab4 _ rfl⟩
instance : PureF tabc := ⟨fun _ _ => rfl, fun _ => rfl, fun _ => qab4 _ rfl⟩
instance : PureF qaea := ⟨fun _ _ => rfl, fun _ => rfl, fun _ => qab4 _ rfl⟩
attribute [local simp] qadt refc qaes qaei qab8 opc actc tabc qaea qacm nums
theorem width_s (p : PlanD) (r : RefD) (args : List Int) : SCalls Tryz.prog 66 [.agg (qacm p), .agg (refc r), nums .i64 args] [] 0 (.int .i64 (qabw p r args)) [] := by
 refine qaas (N := 62) Tryz.func66 rfl rfl (by kernel_rfl) qan7 (by simp) (by repeat' (first | exact trivial | refine And.intro ?_ ?_ | rfl | decide | exact PureR.ren _)) (by repeat' (first | exact trivial | refine And.intro ?_ ?_ | rfl | decide | exact PureR.ren _)) ?_
 rintro X hP hN hm
 unfold c_width
 repeat' (first | (with_reducible first | refine zA ?_ | refine qaae ?_) | ((with_reducible refine qaac ?_); (try rw [hP]); simp -implicitDefEqProofs [*]) | ((with_reducible refine qaaf ?_); (try simp -implicitDefEqProofs [*])) | ((with_reducible refine qaam ?_); (try simp only [qaap, qaag, qaaj])) | ((with_reducible refine qaaa rfl (fun h => ?_) (fun h => ?_)) <;> have h' := h <;> (try simp at h') <;> (try subst h')) | ((with_reducible refine qaan (fun h => ?_) (fun h => ?_)) <;> have h' := h <;> (try simp at h') <;> (try subst h') <;> simp -implicitDefEqProofs [*]) | (with_reducible refine zM hm ?_) | fail)
 all_goals ((try simp only [qabw, qanm, qa4k, headW, el]); (repeat' split) <;> (first | omega | (simp_all; done) | (simp_all; omega)))
theorem takes_s (op : Int) : SCalls Tryz.prog 190 [.int .i64 op] [] 0 (.int .i64 (qab5 op)) [] := by
 refine qaas (N := 20) Tryz.func190 rfl rfl (by kernel_rfl) qan9 (by simp) (by repeat' (first | exact trivial | refine And.intro ?_ ?_ | rfl | decide | exact PureR.ren _)) (by repeat' (first | exact trivial | refine And.intro ?_ ?_ | rfl | decide | exact PureR.ren _)) ?_
 rintro X hP hN hm
 unfold c_takes
 repeat' (first | (with_reducible first | refine zA ?_ | refine qaae ?_) | ((with_reducible refine qaac ?_); (try rw [hP]); simp -implicitDefEqProofs [*]) | ((with_reducible refine qaaf ?_); (try simp -implicitDefEqProofs [*])) | ((with_reducible refine qaam ?_); (try simp only [qaap, qaag, qaaj])) | ((with_reducible refine qaaa rfl (fun h => ?_) (fun h => ?_)) <;> have h' := h <;> (try simp at h') <;> (try subst h')) | ((with_reducible refine qaan (fun h => ?_) (fun h => ?_)) <;> have h' := h <;> (try simp at h') <;> (try subst h') <;> simp -implicitDefEqProofs [*]) | (with_reducible refine zM hm ?_) | fail)
 all_goals (first | (simp [qab5, *]; done) | (simp_all [qab5]; done) | (simp_all [qab5]; omega))
def jc (p : PlanD) (a b : Int) : List SV := qacm p ++ [.int .i64 a, .int .i64 b]
def qab0 (a b : Int) (is : Bool) (code at_ : Int) : Int × Int := if is = true ∧ a = 0 then (code, at_) else (a, b)
attribute [local simp] jc
theorem jfail_s (p : PlanD) (a b : Int) (is : Bool) (code at_ : Int) : SCalls Tryz.prog 155 [.ptr 0 0, .bool is, .int .i64 code, .int .i64 at_] [(0, .cells 261 (jc p a b))] 1 (.tup []) [(0, .cells 261 (jc p (qab0 a b is code at_).1 (qab0 a b is code at_).2))] := by
 refine qaas (N := 23) Tryz.func155 rfl rfl (by kernel_rfl) qaow (by simp) (by repeat' (first | exact trivial | refine And.intro ?_ ?_ | rfl | decide | exact PureR.ren _)) (by repeat' (first | exact trivial | refine And.intro ?_ ?_ | rfl | decide | exact PureR.ren _)) ?_
 rintro X hP hN hm
 unfold c_jfail
 repeat' (first | (with_reducible refine zA ?_) | ((with_reducible refine qaac ?_); (try rw [hP]); simp -implicitDefEqProofs [*]) | ((with_reducible refine qaaf ?_); (try simp -implicitDefEqProofs [*])) | ((with_reducible refine qaaa rfl (fun h => ?_) (fun h => ?_)) <;> have h' := h <;> (try simp at h') <;> (try subst h')) | ((with_reducible refine qaan (fun h => ?_) (fun h => ?_)) <;> have h' := h <;> (try simp at h') <;> (try subst h') <;> simp -implicitDefEqProofs [*]) | (refine qact hm rfl ?_ (fun σ => rfl)) | fail)
 all_goals (first | (simp [qab0, *]; done) | (simp_all [qab0]; done) | (simp_all [qab0]; omega))
theorem qabd (p : PlanD) (a b : Int) (is : Bool) (code at_ : Int) (id q : Nat) (h : id < q) : SCalls Tryz.prog 155 [.ptr id 0, .bool is, .int .i64 code, .int .i64 at_] [(id, .cells 261 (jc p a b))] q (.tup []) [(id, .cells 261 (jc p (qab0 a b is code at_).1 (qab0 a b is code at_).2))] :=
 qac9 (jfail_s p a b is code at_) (fun _ => rfl) (fun _ => rfl) (fun _ => rfl) rfl (fun _ => rfl) rfl id q h
theorem qalm (p : PlanD) (r : RefD) (args : List Int) (q : Nat) : SCalls Tryz.prog 66 [.agg (qacm p), .agg (refc r), nums .i64 args] [] q (.int .i64 (qabw p r args)) [] := qabj (width_s p r args) (fun _ => rfl) (fun _ => rfl) rfl q
theorem qagw (p : PlanD) (r : RefD) (q : Nat) : SCalls Tryz.prog 66 [.agg (qacm p), .agg (refc r), .nilsl] [] q (.int .i64 (qabw p r [])) [] := qahc (qalm p r [] q) ⟨Co.refl _, Co.refl _, Co.nilsl _, trivial⟩
theorem qa6p (op : Int) (q : Nat) : SCalls Tryz.prog 190 [.int .i64 op] [] q (.int .i64 (qab5 op)) [] := qabj (takes_s op) (fun _ => rfl) (fun _ => rfl) rfl q
theorem qbfa (p : PlanD) (a b : Int) (r : RefD) (at_ : Int) : SCalls Tryz.prog 189 [.ptr 0 0, .agg (refc r), .int .i64 at_] [(0, .cells 261 (jc p a b))] 1 (.tup []) [(0, .cells 261 (jc p (qab0 a b (!(decide (-1 ≤ r.h)) || qabw p r [] == 0) 1 at_).1 (qab0 a b (!(decide (-1 ≤ r.h)) || qabw p r [] == 0) 1 at_).2))] := by
 refine qaas (N := 21) Tryz.func189 rfl rfl (by kernel_rfl) qaj9 (by simp) (by repeat' (first | exact trivial | refine And.intro ?_ ?_ | rfl | decide | exact PureR.ren _)) (by repeat' (first | exact trivial | refine And.intro ?_ ?_ | rfl | decide | exact PureR.ren _)) ?_
 rintro X hP hN hm
 unfold c_jtarget
 repeat' (first | (with_reducible first | refine zA ?_ | refine zK ?_) | ((with_reducible first | refine qaac ?_ | refine qaaz (by rw [hP]; exact qacz) ?_); (try rw [hP]); simp -implicitDefEqProofs [*]) | ((with_reducible refine qaan (fun h => ?_) (fun h => ?_)) <;> have h' := h <;> (try simp at h') <;> (try subst h') <;> simp -implicitDefEqProofs [*]) | ((first | refine qaaw (qagw p r _) ?_ | refine qabv (qabd p a b _ _ _ _ _ (by simp)) ⟨rfl, trivial⟩ ⟨rfl, trivial⟩ ?_); simp -implicitDefEqProofs [*]) | (refine qact hm rfl ?_ (fun σ => rfl)) | fail)
 all_goals (first | (simp [qab0, *]; done) | (simp_all [qab0]; done) | (simp_all [qab0]; omega))
theorem jhead_s (p : PlanD) (a b : Int) (hh at_ : Int) : SCalls Tryz.prog 160 [.ptr 0 0, .int .i64 hh, .int .i64 at_] [(0, .cells 261 (jc p a b))] 1 (.tup []) [(0, .cells 261 (jc p (qab0 a b (!qac0 p hh) 1 at_).1 (qab0 a b (!qac0 p hh) 1 at_).2))] := by
 refine qaas (N := 21) Tryz.func160 rfl rfl (by kernel_rfl) qaov (by simp) (by repeat' (first | exact trivial | refine And.intro ?_ ?_ | rfl | decide | exact PureR.ren _)) (by repeat' (first | exact trivial | refine And.intro ?_ ?_ | rfl | decide | exact PureR.ren _)) ?_
 rintro X hP hN hm
 unfold c_jhead
 repeat' (first | ((with_reducible refine qaac ?_); (try rw [hP]); simp -implicitDefEqProofs [*]) | ((with_reducible refine qaan (fun h => ?_) (fun h => ?_)) <;> have h' := h <;> (try simp at h') <;> (try subst h') <;> simp -implicitDefEqProofs [*]) | (refine qabv (qabd p a b _ _ _ _ _ (by simp)) ⟨rfl, trivial⟩ ⟨rfl, trivial⟩ ?_; simp -implicitDefEqProofs [*]) | (refine qact hm rfl ?_ (fun σ => rfl)) | fail)
 all_goals (first | (simp [qab0, qac0, *]; done) | (simp_all [qab0, qac0]; done) | (simp_all [qab0, qac0]; omega))
theorem qao3 (p : PlanD) (a b : Int) (r : RefD) (at_ : Int) (id q : Nat) (h : id < q) : SCalls Tryz.prog 189 [.ptr id 0, .agg (refc r), .int .i64 at_] [(id, .cells 261 (jc p a b))] q (.tup []) [(id, .cells 261 (jc p (qab0 a b (!(decide (-1 ≤ r.h)) || qabw p r [] == 0) 1 at_).1 (qab0 a b (!(decide (-1 ≤ r.h)) || qabw p r [] == 0) 1 at_).2))] :=
 qac9 (qbfa p a b r at_) (fun _ => rfl) (fun _ => rfl) (fun _ => rfl) rfl (fun _ => rfl) rfl id q h
theorem qah1 (p : PlanD) (a b : Int) (hh at_ : Int) (id q : Nat) (h : id < q) : SCalls Tryz.prog 160 [.ptr id 0, .int .i64 hh, .int .i64 at_] [(id, .cells 261 (jc p a b))] q (.tup []) [(id, .cells 261 (jc p (qab0 a b (!qac0 p hh) 1 at_).1 (qab0 a b (!qac0 p hh) 1 at_).2))] :=
 qac9 (jhead_s p a b hh at_) (fun _ => rfl) (fun _ => rfl) (fun _ => rfl) rfl (fun _ => rfl) rfl id q h
def qad6 (a b : Int) (code at_ : Int) : Int × Int := qab0 a b (decide (code ≠ 0)) code at_
theorem qbea (g : Int) (b1 b2 : Bool) (E at_ : Int) : qad6 0 g (if b1 = true then 13 else if b2 = true then 1 else E) at_ = qad6 (qab0 (qab0 0 g b1 13 at_).1 (qab0 0 g b1 13 at_).2 b2 1 at_).1 (qab0 (qab0 0 g b1 13 at_).1 (qab0 0 g b1 13 at_).2 b2 1 at_).2 E at_ := by
 cases b1 <;> cases b2 <;> simp [qad6, qab0]
set_option maxHeartbeats 2000000 in
theorem jtree_s (p : PlanD) (a b : Int) (l : List PushD) (args : List Int) (at_ : Int) (hl : l.length ≤ 1000000) : SCalls Tryz.prog 180 [.ptr 0 0, qab2 l, nums .i64 args, .int .i64 at_] [(0, .cells 261 (jc p a b))] 1 (.tup []) [(0, .cells 261 (jc p (qad6 a b (qafi p l args) at_).1 (qad6 a b (qafi p l args) at_).2))] := by
 refine qaas (N := 79) Tryz.func180 rfl rfl (by kernel_rfl) qaot (by simp) (by repeat' (first | exact trivial | refine And.intro ?_ ?_ | rfl | decide | exact PureR.ren _)) (by repeat' (first | exact trivial | refine And.intro ?_ ?_ | rfl | decide | exact PureR.ren _)) ?_
 rintro X hP hN hm
 unfold c_jtree
 have hz : ∀ c, qad6 a b (qafi p l args) at_ = qad6 (qab0 a b (decide (8 < (l.length : Int))) 2 at_).1 (qab0 a b (decide (8 < (l.length : Int))) 2 at_).2 c at_ ∨ l.length ≤ 8 := fun c => by
  by_cases h8 : l.length ≤ 8
  ·exact .inr h8
  ·left
   have e1 : qafi p l args = 2 := by unfold qafi; rw [if_pos (by omega)]
   have e2 : decide (8 < (l.length : Int)) = true := by simp; omega
   rw [e1, e2]
   unfold qad6 qab0
   by_cases ha : a = 0 <;> simp [ha]
 have hz2 : qad6 a b (qafi p l args) at_ = qad6 (qab0 a b (decide (8 < (l.length : Int))) 2 at_).1 (qab0 a b (decide (8 < (l.length : Int))) 2 at_).2 (qags p args l 0) at_ := by
  rcases hz (qags p args l 0) with h | h
  ·exact h
  ·have e2 : decide (8 < (l.length : Int)) = false := by simp; omega
   have e1 : qafi p l args = qags p args l 0 := by unfold qafi; rw [if_neg (by omega)]
   rw [e1, e2]; rfl
 clear hz
 have hfin : ∃ F, F = qad6 a b (qafi p l args) at_ := ⟨_, rfl⟩
 obtain ⟨F, hF⟩ := hfin
 rw [← hF] at hz2 ⊢
 clear hF
 have hz3 := Lib.hid hz2
 clear hz2
 repeat' (first | (with_reducible refine zA ?_) | ((with_reducible refine qaac ?_); (try rw [hP]); simp -implicitDefEqProofs [qab2, *]) | (refine qabv (qabd p a b _ _ _ _ _ (by simp)) ⟨rfl, trivial⟩ ⟨rfl, trivial⟩ ?_; simp -implicitDefEqProofs [qab2, *]) | fail)
 refine qaal (qaa5 (fun s (x : Nat × Int × Int × Int) => s.turn [(9, .int .i64 x.1), (8, .int .i64 x.2.1)] [(0, .cells 261 (jc p x.2.2.1 x.2.2.2))]) (fun x => x.1 ≤ l.length ∧ (-(x.1 : Int) ≤ x.2.1 ∧ x.2.1 ≤ 2 * x.1) ∧ F = qad6 x.2.2.1 x.2.2.2 (qags p args (l.drop x.1) x.2.1) at_) (fun x => l.length - x.1) (0, 0, _, _) ?_ ⟨by simp, by simp, hz3⟩ ?_)
 ·repeat' (first | ((with_reducible refine qaah [] hm ?_ ?_ ?_ ?_) <;> (try simp only [zT, puth, Nat.reduceEqDiff, reduceIte, Nat.reduceAdd])) | (with_reducible first | refine za ?_ ?_ | refine zb ?_ ?_ ?_ ?_) | (with_reducible first | exact qaab | exact qaad) | ((with_reducible first | refine zga ?_ | refine zgb ?_); rfl) | ((with_reducible refine zgd ?_); (first | omega | (simp; done))) | (exact Co.refl _) | (exact CoL.refl _) | fail)
 rintro J hJ ⟨i, n, e, g⟩ ⟨h1, h2, h3⟩
 unfold qamg
 simp only [zT, puth, Nat.reduceEqDiff, reduceIte, Nat.reduceAdd] at h1 h2 h3 ⊢
 rcases Nat.lt_or_ge i l.length with hi | hi
 ·have hd : l.drop i = l[i] :: l.drop (i + 1) := List.drop_eq_getElem_cons hi
  rw [hd, qagr] at h3
  clear hd
  have tk : ∀ o, -1 ≤ qab5 o ∧ qab5 o ≤ 2 := fun o => by unfold qab5; repeat' split <;> omega
  have tw : ∀ o, IntKind.i64.wrap (1 - qab5 o) = 1 - qab5 o := fun o => by have := tk o; exact IntWalk.i64_in _ ⟨by omega, by omega⟩
  have tn : ∀ o, IntKind.i64.wrap (n + (1 - qab5 o)) = n + (1 - qab5 o) := fun o => by have := tk o; exact qaao (by omega) (by omega)
  have wi : IntKind.i64.wrap ((i : Int) + 1) = (i : Int) + 1 := qaao (by omega) (by omega)
  generalize hxx : l[i] = x at h3
  have tkx := tk x.op
  replace tk := Lib.hid tk
  replace h3 := Lib.hid h3
  by_cases he : e = 0
  ·subst he
   repeat' (first | (with_reducible first | refine zA ?_ | refine qaae ?_ | refine zK ?_) | ((with_reducible first | refine qaac ?_ | refine qaaz (by rw [hP]; exact qacz) ?_); (try rw [hP]); simp -implicitDefEqProofs [*]) | ((with_reducible refine qaaf ?_); (try simp -implicitDefEqProofs [*])) | ((with_reducible refine qaaa rfl (fun h => ?_) (fun h => ?_)) <;> have h' := h <;> (try simp at h') <;> (try subst h')) | ((with_reducible refine qaan (fun h => ?_) (fun h => ?_)) <;> have h' := h <;> (try simp at h') <;> (try subst h') <;> simp -implicitDefEqProofs [*]) | ((first | refine qabv (qabd p _ _ _ _ _ _ _ (by simp)) ⟨rfl, trivial⟩ ⟨rfl, trivial⟩ ?_ | refine qaaw (qa6p _ _) ?_ | refine qaaw (qalm p x.r args _) ?_); simp -implicitDefEqProofs [*]) | (with_reducible first | refine za ?_ ?_ | refine zb ?_ ?_ ?_ ?_) | (with_reducible first | exact qaab | exact qaad) | ((with_reducible first | refine zga ?_ | refine zgb ?_); rfl) | ((with_reducible first | refine zgd ?_ | refine zge ?_); (first | omega | (simp; done))) | (exact Co.refl _) | (exact CoL.refl _) | (refine qab7 ?_; first | omega | (simp_all; done)) | ((refine qaai hJ (i + 1, n + (1 - qab5 x.op), ?_, ?_) ?_ ?_ ?_; rotate_left 2; (with_reducible refine qaah [] hm ?_ ?_ ?_ ?_) <;> (try simp only [zT, puth, Nat.reduceEqDiff, reduceIte, Nat.reduceAdd]))) | fail)
   all_goals (try dsimp only)
   all_goals (refine ⟨by omega, ⟨by omega, by omega⟩, ?_⟩; rw [h3.out])
   all_goals (refine (congrArg (fun c => qad6 0 g c at_) ?_).trans (qbea g _ _ _ at_); generalize qags p args (l.drop (i + 1)) (n + (1 - qab5 x.op)) = E; clear tw tn; first | (simp [*]; done) | (clear h3; simp_all; done) | (clear h3; simp_all; omega) | (clear h3; simp_all; (repeat' split) <;> omega))
  ·have ke : (e == 0) = false := by simpa using he
   repeat' (first | (with_reducible refine zA ?_) | ((with_reducible refine qaac ?_); (try rw [hP]); simp -implicitDefEqProofs [*]) | ((with_reducible refine qaak ?_); (try simp -implicitDefEqProofs [*])) | ((with_reducible refine qaaa rfl (fun h => ?_) (fun h => ?_)) <;> have h' := h <;> (try simp at h') <;> (try subst h')) | (refine qabv (qabd p _ _ _ _ _ _ _ (by simp)) ⟨rfl, trivial⟩ ⟨rfl, trivial⟩ ?_; simp -implicitDefEqProofs [*]) | (refine qact hm rfl ?_ (fun σ => rfl)) | fail)
   rw [h3.out]
   simp [qad6, qab0, he]
 ·obtain rfl : i = l.length := by omega
  rw [List.drop_length] at h3
  replace h3 := Lib.hid h3
  repeat' (first | (with_reducible refine zA ?_) | ((with_reducible refine qaac ?_); (try rw [hP]); simp -implicitDefEqProofs [*]) | ((with_reducible refine qaak ?_); (try simp -implicitDefEqProofs [*])) | ((with_reducible refine qaaa rfl (fun h => ?_) (fun h => ?_)) <;> have h' := h <;> (try simp at h') <;> (try subst h')) | (refine qabv (qabd p _ _ _ _ _ _ _ (by simp)) ⟨rfl, trivial⟩ ⟨rfl, trivial⟩ ?_; simp -implicitDefEqProofs [*]) | (refine qact hm rfl ?_ (fun σ => rfl)) | fail)
  rw [h3.out, qakz]
  unfold qad6 qab0
  by_cases hn : n = 1 <;> simp [hn]
end Go.Proofs.YteoijlmgiemffaaGreat
