/-
  Texts joined: XExaY XCoLL XExaZ XCter XTerA XTerB XShMt XTerC XTerD XTerE XTerF XTerG XTerH XTerI XTerJ XTerO XTerK XTerL XTerM XTrow XTerP XTerN XBv XTerR XTerV. No condition.
-/
import Derived.WalkSpells
import Derived.RegionTactic
import Derived.BigRegion
import Derived.Deep.RegionLaw
import Derived.Test.YtalejfkholifpaaGreatProg
import Derived.Test.YtalejfkholifpaaGreatStoreDoesK4
set_option linter.all false
namespace Go.Proofs.YtalejfkholifpaaGreat
open Go.RowKit
theorem qbnh {k m wd : Int} {S : XTab} {L : List Entry} (h : RelX k m S L) (e : Entry) (he : e.keys.length ≤ 1000000 ∧ e.args.length ≤ 1000000) : RelX k m (chgX k S ⟨e.keys, e.act, e.args⟩) (chgL 1 k wd L e) := by
 unfold chgX chgL;rw [qai7 h e];by_cases h0 : qaig k S e.keys = 0
 ·rw [if_pos h0, if_pos h0];have hp : (qacj S e.keys).2 = true := by
   unfold qaig at h0;split at h0
   ·cases h0
   ·split at h0
    ·assumption
    ·cases h0
  obtain ⟨s, hs, hk⟩ := qadz _ _ hp;have hj : S[(qacj S e.keys).1]? = some (some s) := hs;have hjl := qacs hj;obtain ⟨hi, hik⟩ := qbky ((qajp h e).2 hp);have hsL : entE s ∈ L := (h.mem _).1 ⟨s, qab6.2 ⟨_, hj⟩, rfl⟩;have hLi : L[atN 1 L e] = entE s := qaq6 h (List.getElem_mem hi) hsL (by rw [hik, ← hk]; rfl);generalize atN 1 L e = i at hi hik hLi;have hpm := qaqk L i hi (qais 1 e);have hno : ∀ x ∈ L.eraseIdx i, x.keys ≠ e.keys := fun x hx hxk => by
   obtain ⟨i', hi', hne, rfl⟩ := List.mem_eraseIdx_iff_getElem.1 hx;have := qaq6 h (List.getElem_mem hi') (List.getElem_mem hi) (by rw [hxk, hik]);exact hne ((List.getElem_inj h.nodup).1 this)
  refine qazw (qa1x h.inv he hj hk.symm) (hpm.nodup_iff.2 (List.nodup_cons.2 ⟨fun hx => hno _ hx rfl, h.nodup.sublist (List.eraseIdx_sublist ..)⟩)) fun x => ?_
  rw [hpm.mem_iff, List.mem_cons];constructor
  ·rintro ⟨t, ht, rfl⟩;obtain ⟨j, hjt⟩ := qab6.1 ht;rw [qack hjl] at hjt;split at hjt
   ·cases hjt; exact .inl rfl
   ·rename_i hne;right
    obtain ⟨i', hi', e1⟩ := List.mem_iff_getElem.1 ((h.mem _).1 ⟨t, qab6.2 ⟨j, hjt⟩, rfl⟩);rw [List.mem_eraseIdx_iff_getElem];refine ⟨i', hi', fun e2 => ?_, e1⟩;subst e2;rw [hLi] at e1;have := qahu h.inv (qab6.2 ⟨_, hj⟩) (qab6.2 ⟨j, hjt⟩) (congrArg Entry.keys e1);subst this;exact hne (h.inv.pinv.uniq j _ s s (by have := qacs hjt; omega) (by omega) hjt hj rfl)
  ·rintro (rfl | hx)
   ·exact ⟨_, qab6.2 ⟨_, by rw [qack hjl, if_pos rfl]⟩, rfl⟩
   ·have hxk := hno x hx;obtain ⟨i', hi', hne, rfl⟩ := List.mem_eraseIdx_iff_getElem.1 hx;obtain ⟨t, ht, e1⟩ := (h.mem _).2 (List.getElem_mem hi');obtain ⟨j, hjt⟩ := qab6.1 ht;refine ⟨t, qab6.2 ⟨j, ?_⟩, e1⟩;rw [qack hjl, if_neg fun e2 => ?_]
    ·exact hjt
    ·subst e2;rw [hj] at hjt;obtain rfl := Option.some.inj (Option.some.inj hjt);rw [← e1] at hxk;exact hxk hk
 ·rw [if_neg h0, if_neg h0]; exact h
theorem coL_at : ∀ {xs ys : List SV} {j : Nat} {y : SV}, CoL xs ys → ys[j]? = some y → ∃ x, xs[j]? = some x ∧ Co x y
 | x :: xs, y :: ys, 0, _, h, hy => by cases hy; exact ⟨x, rfl, h.1⟩
 | x :: xs, y :: ys, j + 1, _, h, hy => coL_at (xs := xs) (ys := ys) (j := j) h.2 (by simpa using hy)
 | [], [], _, _, _, hy => by simp at hy
 | [], _ :: _, _, _, h, _ => h.elim
 | _ :: _, [], _, _, h, _ => h.elim
theorem qbjy : ∀ {xs ys : List (List SV)} {j : Nat} {y : List SV}, CoLL xs ys → ys[j]? = some y → ∃ x, xs[j]? = some x ∧ CoL x y
 | x :: xs, y :: ys, 0, _, h, hy => by cases hy; exact ⟨x, rfl, h.1⟩
 | x :: xs, y :: ys, j + 1, _, h, hy => qbjy (xs := xs) (ys := ys) (j := j) h.2 (by simpa using hy)
 | [], [], _, _, _, hy => by simp at hy
 | [], _ :: _, _, _, h, _ => h.elim
 | _ :: _, [], _, _, h, _ => h.elim
theorem qarj {z : Nat} {xs ys : List (List SV)} (h : CoLL xs ys) : Co (.view z xs) (.view z ys) := fun w A ρ v hv => by
 cases hv with
 | view0 hc ha =>
  have : ys = [] := List.eq_nil_of_length_eq_zero (by rw [← h.length]; rfl);subst this; exact .view0 hc ha
 | view cv hn hc hm hA hb hs h1 h2 ho =>
  refine .view cv (by rw [← h.length]; exact hn) hc hm hA hb (h.sizes hs) (fun i e j x he hx => ?_) (fun i e j x he hx => ?_) (fun i e j x he hx => ?_)
  all_goals
   obtain ⟨e', he', hl⟩ := qbjy h he;obtain ⟨x', hx', hc'⟩ := coL_at hl hx
  ·exact h1 i e' j x' he' hx'
  ·exact hc' _ _ _ _ (h2 i e' j x' he' hx')
  ·exact ho i e' j x' he' hx'
theorem fitsB1 (wd : Int) (e : Entry) (xs : List Int) : qak2 1 wd e xs = decide (e.keys = xs) := by
 unfold qak2;rw [if_pos rfl]
theorem qap3 (wd : Int) (L : List Entry) (xs : List Int) : ∀ i, i ≤ L.length → (qail 1 wd L xs i = -1 ∧ ∀ j (hj : j < L.length), j < i → L[j].keys ≠ xs) ∨ ∃ (b : Nat) (hb : b < L.length), qail 1 wd L xs i = b ∧ L[b].keys = xs
 | 0, _ => .inl ⟨rfl, fun j _ hj => absurd hj (by omega)⟩
 | i + 1, h => by
  have ih := qap3 wd L xs i (by omega);have hi : i < L.length := by omega
  have e : qail 1 wd L xs (i + 1) = qbi2 1 wd L xs i (qail 1 wd L xs i) := rfl;rw [qajh hi, fitsB1] at e;by_cases hx : L[i].keys = xs
  ·rcases ih with ⟨h1, h2⟩ | ⟨b, hb, h1, h2⟩
   ·rw [h1, decide_eq_true hx, Bool.true_and, if_pos (by simp [qafh])] at e;exact .inr ⟨i, hi, e, hx⟩
   ·by_cases hc : (decide (L[i].keys = xs) && qafh L[i] L (qail 1 wd L xs i)) = true
    ·rw [if_pos hc] at e; exact .inr ⟨i, hi, e, hx⟩
    ·rw [if_neg hc] at e; exact .inr ⟨b, hb, e.trans h1, h2⟩
  ·rw [decide_eq_false hx, Bool.false_and, if_neg (by decide)] at e;rcases ih with ⟨h1, h2⟩ | ⟨b, hb, h1, h2⟩
   ·refine .inl ⟨e.trans h1, fun j hj hji => ?_⟩;rcases Nat.lt_or_ge j i with h3 | h3
    ·exact h2 j hj h3
    ·obtain rfl : j = i := by omega
     exact hx
   ·exact .inr ⟨b, hb, e.trans h1, h2⟩
theorem qbba {k m wd : Int} {S : XTab} {L : List Entry} (h : RelX k m S L) (xs : List Int) : qag9 1 k wd L xs = (qaib k S xs).map entE := by
 unfold qag9 qbjs;have hfo : qaia 1 k wd xs = decide ((xs.length : Int) = k) := by simp [qaia]
 rw [hfo];by_cases hx : (xs.length : Int) = k
 ·rw [decide_eq_true hx, if_pos rfl];rcases qap3 wd L xs L.length (Nat.le_refl _) with ⟨h1, h2⟩ | ⟨b, hb, h1, h2⟩
  ·rw [h1, if_neg (by decide), qavb h.inv fun s hs e => ?_]
   ·rfl
   ·obtain ⟨j, hj, e2⟩ := List.mem_iff_getElem.1 ((h.mem _).1 ⟨s, hs, rfl⟩);exact h2 j hj hj (by rw [e2]; exact e)
  ·rw [h1, if_pos (by omega), Int.toNat_natCast, List.getElem?_eq_getElem hb];obtain ⟨s, hs, e2⟩ := (h.mem _).2 (List.getElem_mem hb);have e3 : s.keys = xs := by rw [← h2, ← e2]; rfl
   rw [← e3, qava h.inv hs, ← e2]; rfl
 ·rw [decide_eq_false hx, if_neg (show ¬ (0 ≤ if false = true then qail 1 wd L xs L.length else -1) by simp)];unfold qaib;rw [if_pos (show (xs.length : Int) ≠ k from hx)]; rfl
theorem qbpz {k m : Int} {S : XTab} {L : List Entry} (h : RelX k m S L) : ((qal4 S).map entE).Perm L := ((qaeo S).map _).trans h.perm
theorem qazf {P : Program} {f : FuncId} {args : List SV} {h1 h2 : Hp} {q : Nat} {r r' : SV} (h : SCalls P f args h1 q r h2) (hc : Co r r') : SCalls P f args h1 q r' h2 :=
 ⟨h.1, fun O ρ fp w vs hok hargs hfr => (h.2 O ρ fp w vs hok hargs hfr).mono fun e w' hh => by
  obtain ⟨v, ρ', fp', e1, q1, q2, q3⟩ := hh;exact ⟨v, ρ', fp', e1, q1, hc _ _ _ _ q2, q3⟩⟩
theorem qa1u : ∀ l : List XSlot, CoLL (l.map xec) ((l.map entE).map qaaa)
 | [] => trivial
 | s :: l => ⟨⟨Co.refl _, Co.nilsl 1, Co.refl _, Co.refl _, Co.refl _, Co.refl _, trivial⟩, qa1u l⟩
theorem co_xecs (l : List XSlot) : Co (.view 6 (l.map xec)) (ents (l.map entE)) := qarj (qa1u l)
theorem xall_c (k m : Int) (hm : m ≤ 1000) (S : XTab) (h : XInv k m S) (id q : Nat) : SCalls Tryz.prog 84 [.ptr id 0] [(id, .abs (xA k m S))] q (ents ((qal4 S).map entE)) [(id, .abs (xA k m S))] :=
 qazf (xall_b k m hm S h id q) (co_xecs _)
abbrev qbih : List SOper := [Ka 4 0]
abbrev qbig : List SOper := [Ma 7 0, Qc 8 162 [7], Ma 5 8]
abbrev qbif : List SOper := [Ma 9 1, Qc 10 162 [9], Ma 6 10]
abbrev qbie : List SOper := [Ma 11 5]
abbrev qbid : List SOper := [Ma 12 6]
abbrev qbic : List SOper := [Ka 4 0]
abbrev qbib : List SOper := [Oa 4 (.mv (.c (.int .i64 (-1))))]
abbrev qbia : List SOper := [Ma 13 6]
abbrev qbh9 : List SOper := [Ka 4 1]
abbrev qa8z : List SOper := [Ma 14 0, Ma 15 1, Ba 16 .lss 14 15]
abbrev qa8y : List SOper := [Oa 4 (.mv (.c (.int .i64 (-1))))]
abbrev qa8x : List SOper := [Ma 17 0, Ma 18 1, Ba 19 .gtr 17 18]
abbrev qa8w : List SOper := [Ka 4 1]
abbrev qa8v : List SOper := [Ka 4 0]
def c_cmpi : SCode := (Sf qbih [0, 1] (Sf qbig [0, 1, 5] (Sf qbif [0, 1, 5, 6] (.seq (Sf qbie [0, 1, 6, 11] (Cn 11 (.seq (Sf qbid [12] (Cn 12 (Sf qbic [4] .ret) .skip)) (Sf qbib [4] .ret)) .skip)) (.seq (Sf qbia [0, 1, 13] (Cn 13 (Sf qbh9 [4] .ret) .skip)) (.seq (Sf qa8z [0, 1, 16] (Cn 16 (Sf qa8y [4] .ret) .skip)) (.seq (Sf qa8x [19] (Cn 19 (Sf qa8w [4] .ret) .skip)) (Sf qa8v [4] .ret))))))))
abbrev qbh8 : List SOper := [Ka 4 0]
abbrev qbh7 : List SOper := [Ma 7 0, Qc 8 108 [7], Ma 5 8]
abbrev qbh6 : List SOper := [Ma 9 1, Qc 10 108 [9], Ma 6 10]
abbrev qbh5 : List SOper := [Ma 11 5]
abbrev qbh4 : List SOper := [Ma 12 6]
abbrev qbh3 : List SOper := [Ka 4 0]
abbrev qbh2 : List SOper := [Oa 4 (.mv (.c (.int .i64 (-1))))]
abbrev qbh1 : List SOper := [Ma 13 6]
abbrev qbh0 : List SOper := [Ka 4 1]
abbrev qa8l : List SOper := [Ma 14 0, Ma 15 1, Ba 16 .lss 14 15]
abbrev qa8k : List SOper := [Oa 4 (.mv (.c (.int .i64 (-1))))]
abbrev qa8j : List SOper := [Ma 17 0, Ma 18 1, Ba 19 .gtr 17 18]
abbrev qa8i : List SOper := [Ka 4 1]
abbrev qa8h : List SOper := [Ka 4 0]
def c_cmpu : SCode := (Sf qbh8 [0, 1] (Sf qbh7 [0, 1, 5] (Sf qbh6 [0, 1, 5, 6] (.seq (Sf qbh5 [0, 1, 6, 11] (Cn 11 (.seq (Sf qbh4 [12] (Cn 12 (Sf qbh3 [4] .ret) .skip)) (Sf qbh2 [4] .ret)) .skip)) (.seq (Sf qbh1 [0, 1, 13] (Cn 13 (Sf qbh0 [4] .ret) .skip)) (.seq (Sf qa8l [0, 1, 16] (Cn 16 (Sf qa8k [4] .ret) .skip)) (.seq (Sf qa8j [19] (Cn 19 (Sf qa8i [4] .ret) .skip)) (Sf qa8h [4] .ret))))))))
abbrev qa4b : List SOper := [Ka 4 0]
abbrev qa4a : List SOper := [Ma 9 0, Na 10 9, Ka 11 0]
abbrev qa39 : List SOper := [Ba 12 .lss 11 10]
abbrev qa38 : List SOper := [Ma 13 11, Ia 14 1 9 11, La 15 14, Ma 5 13, Ma 6 15]
abbrev qa37 : List SOper := [Ma 16 5, Ma 17 1, Na 18 17, Ba 19 .geq 16 18]
abbrev qa36 : List SOper := [Ka 4 1]
abbrev qa35 : List SOper := [Ma 20 1, Ma 21 5, Ia 22 1 20 21, La 23 22, Ma 7 23]
abbrev qa34 : List SOper := [Ma 24 6, Ma 25 7, Qc 26 97 [24, 25], Ma 8 26]
abbrev qa33 : List SOper := [Ma 27 8, Ca 28 .neq 27 0]
abbrev qaw5 : List SOper := [Ma 29 8, Ma 4 29]
abbrev qaw4 : List SOper := [Ca 30 .add 11 1, Ma 11 30]
def qaoy : SCode := (Sf qa39 [0, 1, 9, 10, 11, 12] (.seq (Ce 12 0) (.seq (.block 1 (Sf qa38 [0, 1, 5, 6, 9, 10, 11] (.seq (Sf qa37 [0, 1, 5, 6, 9, 10, 11, 19] (Cn 19 (Sf qa36 [4] .ret) .skip)) (Sf qa35 [0, 1, 6, 7, 9, 10, 11] (Sf qa34 [0, 1, 8, 9, 10, 11] (Sf qa33 [0, 1, 8, 9, 10, 11, 28] (Cn 28 (Sf qaw5 [4] .ret) .skip))))))) (Rf qaw4 [0, 1, 9, 10, 11]))))
abbrev qaw3 : List SOper := [Ma 31 0, Na 32 31, Ma 33 1, Na 34 33, Ba 35 .lss 32 34]
abbrev qaw2 : List SOper := [Oa 4 (.mv (.c (.int .i64 (-1))))]
abbrev qaw1 : List SOper := [Ka 4 0]
def qbj9 : SCode := (Sf qa4b [0, 1] (.seq (Sf qa4a [0, 1, 9, 10, 11] (Bl 0 qaoy)) (.seq (Sf qaw3 [35] (Cn 35 (Sf qaw2 [4] .ret) .skip)) (Sf qaw1 [4] .ret))))
abbrev qa8u : List SOper := [Ka 2 0]
abbrev qa8t : List SOper := [Ka 3 0]
abbrev qa8s : List SOper := [Ma 6 0, Na 7 6, Ka 8 0]
abbrev qa8r : List SOper := [Ba 9 .lss 8 7]
abbrev qa8q : List SOper := [Ia 10 1 6 8, La 11 10, Ma 5 11]
abbrev qa8p : List SOper := [Ma 12 5, Ma 13 3, Ba 14 .neq 12 13]
abbrev qa8o : List SOper := [Ma 15 5, Ma 2 15]
abbrev qa8n : List SOper := [Ca 16 .add 8 1, Ma 8 16]
def qap2 : SCode := (Sf qa8r [3, 6, 7, 8, 9] (.seq (Ce 9 0) (.seq (.block 1 (Sf qa8q [3, 5, 6, 7, 8] (Sf qa8p [3, 5, 6, 7, 8, 14] (Cn 14 (Sf qa8o [2] .ret) .skip)))) (Rf qa8n [3, 6, 7, 8]))))
abbrev qa8m : List SOper := [Ma 17 3, Ma 2 17]
def qbks : SCode := (Sf qa8u [0] (Sf qa8t [0, 3] (.seq (Sf qa8s [3, 6, 7, 8] (Bl 0 qap2)) (Sf qa8m [2] .ret))))
abbrev qbgm : List SOper := [Oa 2 (.mv (.c (.bool false)))]
abbrev qbgl : List SOper := [Ma 3 0, Ma 4 0, Ba 5 .neq 3 4, Ma 2 5]
def c_nani : SCode := (Sf qbgm [0] (Sf qbgl [2] .ret))
abbrev qbgk : List SOper := [Oa 2 (.mv (.c (.bool false)))]
abbrev qbgj : List SOper := [Ma 3 0, Ma 4 0, Ba 5 .neq 3 4, Ma 2 5]
def c_nanu : SCode := (Sf qbgk [0] (Sf qbgj [2] .ret))
abbrev qbhl : List SOper := [Ka 4 0]
abbrev qbhk : List SOper := [Ma 6 0, Na 7 6, Ka 8 0]
abbrev qbhj : List SOper := [Ba 9 .lss 8 7]
abbrev qbhi : List SOper := [Ma 10 8, Ma 5 10]
abbrev qbhh : List SOper := [Ma 11 1, Ma 12 0, Ma 13 5, Ia 14 6 12 13, Sa 15 6 14, ⟨(some 16), .mv (.c .any), some ((.t 11), [(.t 15)]), none, 0⟩]
abbrev qbhg : List SOper := [Ma 17 5, Ma 4 17]
abbrev qbhf : List SOper := [Ca 18 .add 8 1, Ma 8 18]
def qat7 : SCode := (Sf qbhj [0, 1, 7, 8, 9] (.seq (Ce 9 0) (.seq (.block 1 (Sf qbhi [0, 1, 5, 7, 8] (Sf qbhh [0, 1, 5, 7, 8, 16] (Cn 16 (Sf qbhg [4] .ret) .skip)))) (Rf qbhf [0, 1, 7, 8]))))
abbrev qbhe : List SOper := [Oa 4 (.mv (.c (.int .i64 (-1))))]
def c_idxf : SCode := (Sf qbhl [0, 1] (.seq (Sf qbhk [0, 1, 7, 8] (Bl 0 qat7)) (Sf qbhe [4] .ret)))
abbrev qbhz : List SOper := [Oa 4 (.mv (.c (.bool false)))]
abbrev qbhy : List SOper := [Ma 5 0, Ma 6 1, Qc 7 154 [5, 6], Ca 8 .geq 7 0, Ma 4 8]
def c_conf : SCode := (Sf qbhz [0, 1] (Sf qbhy [4] .ret))
abbrev qbpu : List SOper := [Oa 2 (.box 38 (.t 0)), Oa 3 (.mv (.c (.bool false)))]
abbrev qbpt : List SOper := [Sa 4 6 2, Sa 5 6 1, Qc 6 156 [4, 5], Ma 3 6]
def c_at1 : SCode := (Sf qbpu [1, 2] (Sf qbpt [3] .ret))
abbrev qbpw : List SOper := [Oa 2 (.box 38 (.t 0)), Oa 3 (.mv (.c (.bool false)))]
abbrev qbpv : List SOper := [Fa 4 3 2, La 5 4, Fa 6 3 1, La 7 6, Ba 8 .eql 5 7, Ma 9 8, Oe 10 (Ps 6 2) 9 true, Oe 11 (Ps 6 1) 9 true, Qi 12 148 [10, 11] 9 true 0, Ua 13 9 12, Ma 3 13]
def c_ad1 : SCode := (Sf qbpw [1, 2] (Sf qbpv [3] .ret))
abbrev qa83 : List SOper := [Oa 2 (.mv (.c .nilsl))]
abbrev qa82 : List SOper := [Ma 3 0, Oa 4 (.eq 2 false (.t 3) (.c .nilsl))]
abbrev qa81 : List SOper := [Oa 2 (.mv (.c .nilsl))]
abbrev qa80 : List SOper := [Oa 5 (.mkrow 38 6 0 [.nilsl, .nilsl, (.int .i64 0), (.int .i64 0), (.int .i64 0), .nilsl] []), Ma 6 0, Oa 7 (.app 38 6 96 (.t 5) (.t 6)), Ma 2 7]
def qat8 : SCode := (Sf qa83 [0] (.seq (Sf qa82 [0, 4] (Cn 4 (Sf qa81 [2] .ret) .skip)) (Sf qa80 [2] .ret)))
abbrev qbpk : List SOper := [Oa 2 (.mv (.c .nilsl))]
abbrev qbpj : List SOper := [Ma 3 0, Oa 4 (.eq 2 false (.t 3) (.c .nilsl))]
abbrev qbpi : List SOper := [Oa 2 (.mv (.c .nilsl))]
abbrev qbph : List SOper := [Oa 5 (.mkrow 70 1 0 [(.int .u64 0)] []), Ma 6 0, Oa 7 (.app 70 1 8 (.t 5) (.t 6)), Ma 2 7]
def qbqd : SCode := (Sf qbpk [0] (.seq (Sf qbpj [0, 4] (Cn 4 (Sf qbpi [2] .ret) .skip)) (Sf qbph [2] .ret)))
abbrev qavy : List SOper := [Oa 2 (.box 38 (.t 0)), Oa 3 (.box 38 (.t 1)), Ka 4 0]
abbrev qavx : List SOper := [Fa 5 3 2, Od 6 (Pa 5) 1, Fa 7 3 3, Od 8 (Pa 7) 4, Qh 9 161 [6, 8] 15, Fa 10 0 2, Od 11 (Pa 10) 32, Fa 12 0 3, Od 13 (Pa 12) 128, Qh 14 92 [11, 13] 511, Fa 15 1 2, Od 16 (Pa 15) 1024, Fa 17 1 3, Od 18 (Pa 17) 4096, Qh 19 92 [16, 18] 16383, Od 20 (.mkrow 3 1 3 [(.int .i64 0)] [(0, (.t 9)), (1, (.t 14)), (2, (.t 19))]) 32767, Qh 21 160 [20] 65535, Od 4 (Pm 21) 131071]
def qa2u : SCode := (Sf qavy [2, 3] (.seq (Rt qavx [4]) .ret))
abbrev qa2t : List SOper := [Oa 2 (.box 38 (.t 0)), Oa 3 (.box 38 (.t 1)), Oa 4 (.mv (.c (.bool false)))]
abbrev qa2s : List SOper := [Sa 5 6 2, Sa 6 6 3, Qc 7 159 [5, 6], Ca 8 .eql 7 0, Ma 4 8]
def qbj3 : SCode := (Sf qa2t [2, 3] (Sf qa2s [4] .ret))
abbrev qav6 : List SOper := [Oa 2 (.box 38 (.t 0)), Oa 3 (.box 38 (.t 1)), Oa 4 (.mv (.c (.bool false)))]
abbrev qav5 : List SOper := [Fa 6 0 2, La 7 6, Na 8 7, Ka 9 0]
abbrev qav4 : List SOper := [Ba 10 .lss 9 8]
abbrev qav3 : List SOper := [Ma 11 9, Ma 5 11]
abbrev qav2 : List SOper := [Fa 12 0 2, Od 13 (Pa 12) 1, Ma 14 5, Od 15 (Pi 1 13 14) 7, Od 16 (Pa 15) 15, Fa 17 0 3, Od 18 (Pa 17) 32, Ma 19 5, Od 20 (Pi 1 18 19) 224, Od 21 (Pa 20) 480, Od 22 (Pb .xor 16 21) 1023, Fa 23 1 2, Od 24 (Pa 23) 2048, Ma 25 5, Od 26 (Pi 1 24 25) 14336, Od 27 (Pa 26) 30720, Od 28 (Pb .and 22 27) 65535, Fa 29 1 3, Od 30 (Pa 29) 131072, Ma 31 5, Od 32 (Pi 1 30 31) 917504, Od 33 (Pa 32) 1966080, Od 34 (Pb .and 28 33) 4194303, Od 35 (.bin .neq (.t 34) (.c (.int .u64 0))) 8388607]
abbrev qav1 : List SOper := [Oa 4 (.mv (.c (.bool false)))]
abbrev qav0 : List SOper := [Ca 36 .add 9 1, Ma 9 36]
def qalb : SCode := (Sf qav4 [2, 3, 8, 9, 10] (.seq (Ce 10 0) (.seq (.block 1 (Sf qav3 [2, 3, 5, 8, 9] (.seq (Rt qav2 [2, 3, 8, 9, 35]) (Cn 35 (Sf qav1 [4] .ret) .skip)))) (Rf qav0 [2, 3, 8, 9]))))
abbrev qavz : List SOper := [Oa 4 (.mv (.c (.bool true)))]
def qa2v : SCode := (Sf qav6 [2, 3] (.seq (Sf qav5 [2, 3, 8, 9] (Bl 0 qalb)) (Sf qavz [4] .ret)))
abbrev qbcx : List SOper := [Oa 1 (.box 38 (.t 0)), Oa 2 (.alloc 38 [.nilsl, .nilsl, (.int .i64 0), (.int .i64 0), (.int .i64 0), .nilsl])]
abbrev qbcw : List SOper := [Fa 3 0 1, Od 4 (Pa 3) 1, Qh 5 32 [4] 3, Fa 6 1 1, Od 7 (Pa 6) 8, Qh 8 32 [7] 31, Fa 9 3 1, Od 10 (Pa 9) 64, Fa 11 4 1, Od 12 (Pa 11) 256, Fa 13 5 1, Od 14 (Pa 13) 1024, Qh 15 32 [14] 3135, Od 16 (.build [.nilsl, .nilsl, (.int .i64 0), (.int .i64 0), (.int .i64 0), .nilsl] [(0, 1, (.t 5)), (1, 1, (.t 8)), (3, 1, (.t 10)), (4, 1, (.t 12)), (5, 1, (.t 15))]) 8191, Og (.store 6 (.t 2) (.t 16)) 16383]
def c_town : SCode := (Sf qbcx [1, 2] (.seq (Rt qbcw [2]) .ret))
abbrev qa25 : List SOper := [Oa 3 (.box 38 (.t 1)), Oa 4 (.mv (.c (.bool false)))]
abbrev qa24 : List SOper := [Fa 7 0 3, Od 8 (Pa 7) 1, Od 9 (Pn 8) 3, Ma 10 0, Od 11 (.nilc (.t 10)) 8, Od 12 (Pf 0 11) 24, Od 13 (Pa 12) 56, Od 14 (Pb .neq 9 13) 127, Od 15 (Pm 14) 255, Of 16 (Pf 1 3) 15 false 511, Of 17 (Pa 16) 15 false 1023, Of 18 (Pn 17) 15 false 2047, Of 19 (Pm 0) 15 false 511, Of 20 (.nilc (.t 19)) 15 false 4607, Of 21 (Pf 0 20) 15 false 12799, Of 22 (Pa 21) 15 false 29183, Of 23 (Pb .neq 18 22) 15 false 65535, Od 24 (Pt 15 23) 131071]
abbrev qa23 : List SOper := [Oa 4 (.mv (.c (.bool false)))]
abbrev qa22 : List SOper := [Fa 25 0 3, La 26 25, Na 27 26, Ka 28 0]
abbrev qa21 : List SOper := [Ba 29 .lss 28 27]
abbrev qa20 : List SOper := [Ma 30 28, Ia 31 1 26 28, La 32 31, Ma 5 30, Ma 6 32]
abbrev qa2z : List SOper := [Ma 33 6, Fa 34 1 3, La 35 34, Ma 36 5, Ia 37 1 35 36, La 38 37, Ba 39 .andNot 33 38, Oa 40 (.bin .neq (.t 39) (.c (.int .u64 0)))]
abbrev qa2y : List SOper := [Oa 4 (.mv (.c (.bool false)))]
abbrev qa2x : List SOper := [Ca 41 .add 28 1, Ma 28 41]
def qaoj : SCode := (Sf qa21 [3, 26, 27, 28, 29] (.seq (Ce 29 0) (.seq (.block 1 (Sf qa20 [3, 5, 6, 26, 27, 28] (Sf qa2z [3, 26, 27, 28, 40] (Cn 40 (Sf qa2y [4] .ret) .skip)))) (Rf qa2x [3, 26, 27, 28]))))
abbrev qawg : List SOper := [Fa 42 3 3, La 43 42, Ca 44 .geq 43 0, Ma 45 44, Oe 46 (Pf 3 3) 45 true, Oe 47 (Pa 46) 45 true, Oe 48 (Pc .leq 47 1000) 45 true, Ua 49 45 48, Ma 4 49]
def qbj4 : SCode := (Sf qa25 [0, 3] (.seq (.seq (Rt qa24 [3, 24]) (Cn 24 (Sf qa23 [4] .ret) .skip)) (.seq (Sf qa22 [3, 26, 27, 28] (Bl 0 qaoj)) (Sf qawg [4] .ret))))
abbrev qbnn : List SOper := [Oa 3 (.box 38 (.t 1)), Ka 4 0]
abbrev qbnm : List SOper := [Ma 5 0, Oa 6 (.nilc (.t 5)), Fa 7 2 6, La 8 7, Oa 9 (.mkfn (.func 155) [] [(.t 3)]), Qc 10 154 [8, 9], Ma 4 10]
def c_tat : SCode := (Sf qbnn [0, 3] (Sf qbnm [4] .ret))
abbrev qbdp : List SOper := [Oa 3 (.box 38 (.t 1)), Ka 4 0]
abbrev qbdo : List SOper := [Ma 6 0, Sa 7 6 3, Qc 8 144 [6, 7], Oa 9 (.un .not (.t 8)), Ma 5 9]
abbrev qbdn : List SOper := [Ka 4 6]
abbrev qbdm : List SOper := [Ma 11 0, Sa 12 6 3, Qc 13 145 [11, 12], Ca 14 .geq 13 0, Ma 10 14]
abbrev qbdl : List SOper := [Ka 4 7]
abbrev qbdk : List SOper := [Ma 16 0, Oa 17 (.nilc (.t 16)), Fa 18 2 17, La 19 18, Oa 20 (.mkfn (.func 147) [] [(.t 3)]), Qc 21 146 [19, 20], Ma 15 21]
abbrev qbdj : List SOper := [Ka 4 8]
abbrev qbdi : List SOper := [Ma 23 0, Od 24 (.nilc (.t 23)) 1, Od 25 (Pf 2 24) 3, Od 26 (Pa 25) 7, Od 27 (Pn 26) 15, Ma 28 0, Od 29 (.nilc (.t 28)) 32, Od 30 (Pf 1 29) 96, Od 31 (Pa 30) 224, Od 32 (Pb .geq 27 31) 511, Od 22 (Pm 32) 1023]
abbrev qbdh : List SOper := [Ka 4 10]
abbrev qaom : List SOper := [Ma 33 0, Od 34 (.nilc (.t 33)) 1, Od 35 (Pf 2 34) 3, Od 36 (.mkifc 176 (.t 35)) 7, Sa 37 6 3, Qh 38 150 [37] 16, Od 39 (.mkifc 38 (.t 38)) 48, Qh 40 149 [36, 39] 127]
abbrev qa3o : List SOper := [Ka 4 0]
def c_tadd : SCode := (Sf qbdp [0, 3] (.seq (.block 0 (Sf qbdo [0, 3, 5] (Cn 5 (Sf qbdn [4] .ret) (Sf qbdm [0, 3, 10] (Cn 10 (Sf qbdl [4] .ret) (Sf qbdk [0, 3, 15] (Cn 15 (Sf qbdj [4] .ret) (.seq (Rt qbdi [0, 3, 22]) (Cn 22 (Sf qbdh [4] .ret) .skip))))))))) (.seq (Rt qaom []) (Sf qa3o [4] .ret))))
abbrev qbc9 : List SOper := [Oa 3 (.box 38 (.t 1)), Ka 4 0]
abbrev qbc8 : List SOper := [Ma 6 0, Sa 7 6 3, Qc 8 144 [6, 7], Oa 9 (.un .not (.t 8))]
abbrev qbc7 : List SOper := [Ka 4 6]
abbrev qbc6 : List SOper := [Ma 10 0, Sa 11 6 3, Qc 12 145 [10, 11], Ma 5 12]
abbrev qbc5 : List SOper := [Ma 13 5, Ca 14 .lss 13 0]
abbrev qbc4 : List SOper := [Ka 4 9]
abbrev qbc3 : List SOper := [Ma 15 0, Od 16 (.nilc (.t 15)) 1, Od 17 (Pf 2 16) 3, Od 18 (Pa 17) 7, Ma 19 5, Sa 20 6 3, Qh 21 150 [20] 32, Od 22 (Pi 6 18 19) 127, Og (.store 6 (.t 22) (.t 21)) 255]
abbrev qbc2 : List SOper := [Ka 4 0]
def c_tchg : SCode := (Sf qbc9 [0, 3] (.seq (Sf qbc8 [0, 3, 9] (Cn 9 (Sf qbc7 [4] .ret) .skip)) (Sf qbc6 [0, 3, 5] (.seq (Sf qbc5 [0, 3, 5, 14] (Cn 14 (Sf qbc4 [4] .ret) .skip)) (.seq (Rt qbc3 []) (Sf qbc2 [4] .ret))))))
abbrev qa3m : List SOper := [Oa 3 (.box 38 (.t 1)), Ka 4 0]
abbrev qa3l : List SOper := [Ma 6 0, Sa 7 6 3, Qc 8 144 [6, 7], Oa 9 (.un .not (.t 8))]
abbrev qa3k : List SOper := [Ka 4 6]
abbrev qa3j : List SOper := [Ma 10 0, Sa 11 6 3, Qc 12 145 [10, 11], Ma 5 12]
abbrev qa3i : List SOper := [Ma 13 5, Ca 14 .lss 13 0]
abbrev qa3h : List SOper := [Ka 4 9]
abbrev qa3g : List SOper := [Ma 15 0, Oa 16 (.nilc (.t 15)), Fa 17 2 16, Oa 18 (.mkifc 176 (.t 17)), Ma 19 5, Qc 20 153 [18, 19]]
abbrev qa3f : List SOper := [Ka 4 0]
def qbj6 : SCode := (Sf qa3m [0, 3] (.seq (Sf qa3l [0, 3, 9] (Cn 9 (Sf qa3k [4] .ret) .skip)) (Sf qa3j [0, 5] (.seq (Sf qa3i [0, 5, 14] (Cn 14 (Sf qa3h [4] .ret) .skip)) (Sf qa3g [] (Sf qa3f [4] .ret))))))
abbrev qa3e : List SOper := [Oa 4 (.alloc 46 [(.int .i64 0), .nilsl]), Oa 5 (.mv (.c (.bool false)))]
abbrev qa3d : List SOper := [Ma 11 1, Na 12 11, Ma 13 0, Oa 14 (.nilc (.t 13)), Fa 15 0 14, La 16 15, Ba 17 .neq 12 16]
abbrev qa3c : List SOper := [Oa 18 (.build [(.int .i64 0), .nilsl] []), Va 2 4 18, Oa 5 (.mv (.c (.bool false)))]
abbrev qa3b : List SOper := [Ma 19 0, Qc 20 140 [19], Na 21 20, Ka 22 0]
abbrev qa3a : List SOper := [Ba 23 .lss 22 21]
abbrev qa29 : List SOper := [Ia 24 6 20 22, Sa 25 6 24, Oa 7 (.alloc 38 [.nilsl, .nilsl, (.int .i64 0), (.int .i64 0), (.int .i64 0), .nilsl]), Va 6 7 25]
abbrev qa28 : List SOper := [Oa 8 (.mv (.c (.bool true)))]
abbrev qa27 : List SOper := [Ma 26 1, Na 27 26, Ka 28 0]
abbrev qa26 : List SOper := [Ba 29 .lss 28 27]
abbrev qawn : List SOper := [Ma 30 28, Ia 31 1 26 28, La 32 31, Ma 9 30, Ma 10 32]
abbrev qawm : List SOper := [Ma 33 8, Od 34 (Pm 33) 1, Of 35 (Pm 10) 34 true 3, Of 36 (Pf 1 7) 34 true 3, Of 37 (Pa 36) 34 true 11, Of 38 (Pm 9) 34 true 3, Of 39 (Pi 1 37 38) 34 true 59, Of 40 (Pa 39) 34 true 123, Of 41 (Pb .and 35 40) 34 true 255, Of 42 (Pf 0 7) 34 true 3, Of 43 (Pa 42) 34 true 515, Of 44 (Pm 9) 34 true 3, Of 45 (Pi 1 43 44) 34 true 3587, Of 46 (Pa 45) 34 true 7683, Of 47 (Pb .eql 41 46) 34 true 16383, Od 48 (Pu 34 47) 32767, Od 8 (Pm 48) 65535]
abbrev qawl : List SOper := [Ca 49 .add 28 1, Ma 28 49]
def qaol : SCode := (Sf qa26 [1, 4, 7, 8, 20, 21, 22, 26, 27, 28, 29] (.seq (Ce 29 2) (.seq (.block 3 (Sf qawn [1, 4, 7, 8, 9, 10, 20, 21, 22, 26, 27, 28] (Rt qawm [1, 4, 7, 8, 20, 21, 22, 26, 27, 28]))) (Rf qawl [1, 4, 7, 8, 20, 21, 22, 26, 27, 28]))))
abbrev qawk : List SOper := [Ma 50 8]
abbrev qawj : List SOper := [Fa 51 4 7, La 52 51, Fa 53 5 7, La 54 53, Oa 55 (.build [(.int .i64 0), .nilsl] [(0, 1, (.t 52)), (1, 1, (.t 54))]), Va 2 4 55, Oa 5 (.mv (.c (.bool true)))]
abbrev qawi : List SOper := [Ca 56 .add 22 1, Ma 22 56]
def qaok : SCode := (Sf qa3a [1, 4, 20, 21, 22, 23] (.seq (Ce 23 0) (.seq (.block 1 (Sf qa29 [1, 4, 7, 20, 21, 22] (Sf qa28 [1, 4, 7, 8, 20, 21, 22] (.seq (Sf qa27 [1, 4, 7, 8, 20, 21, 22, 26, 27, 28] (Bl 2 qaol)) (Sf qawk [1, 4, 7, 20, 21, 22, 50] (Cn 50 (Sf qawj [4, 5] .ret) .skip)))))) (Rf qawi [1, 4, 20, 21, 22]))))
abbrev qawh : List SOper := [Oa 57 (.build [(.int .i64 0), .nilsl] []), Va 2 4 57, Oa 5 (.mv (.c (.bool false)))]
def qbj5 : SCode := (Sf qa3e [0, 1, 4] (.seq (Sf qa3d [0, 1, 4, 17] (Cn 17 (Sf qa3c [4, 5] .ret) .skip)) (.seq (Sf qa3b [1, 4, 20, 21, 22] (Bl 0 qaok)) (Sf qawh [4, 5] .ret))))
abbrev qbc1 : List SOper := [Ka 2 0]
abbrev qbc0 : List SOper := [Ma 3 0, Oa 4 (.nilc (.t 3)), Fa 5 2 4, La 6 5, Na 7 6, Ma 2 7]
def c_tlen : SCode := (Sf qbc1 [0] (Sf qbc0 [2] .ret))
abbrev qbdg : List SOper := [Oa 2 (.mv (.c .nilsl))]
abbrev qbdf : List SOper := [Ma 7 0, Oa 8 (.nilc (.t 7)), Fa 9 2 8, La 10 9, Qc 11 151 [10], Oa 3 (.alloc 106 [.nilsl]), Va 1 3 11]
abbrev qbde : List SOper := [Oa 4 (.mv (.c .nilsl))]
abbrev qbdd : List SOper := [La 12 3, Na 13 12, Ca 14 .gtr 13 0]
abbrev qbdc : List SOper := [Oa 16 (.mkifc 176 (.t 3)), Qc 17 152 [16], Oa 18 (.asrt 38 (.agg [.nilsl, .nilsl, (.int .i64 0), (.int .i64 0), (.int .i64 0), .nilsl]) (.t 17)), Ma 15 18, Oa 19 (.extr (.t 15) 0), Oa 20 (.extr (.t 15) 1), Oa 5 (.alloc 38 [.nilsl, .nilsl, (.int .i64 0), (.int .i64 0), (.int .i64 0), .nilsl]), Va 6 5 19, Ma 6 20]
abbrev qbdb : List SOper := [Ma 21 6]
abbrev qbda : List SOper := [Ma 22 4, Sa 23 6 5, Qc 24 150 [23], Oa 25 (.mkrow 38 6 1 [.nilsl, .nilsl, (.int .i64 0), (.int .i64 0), (.int .i64 0), .nilsl] [(0, (.t 24))]), Oa 26 (.app 38 6 96 (.t 22) (.t 25)), Ma 4 26]
def qatj : SCode := (.seq (Sf qbdd [3, 4, 14] (Ce 14 0)) (.block 1 (Sf qbdc [3, 4, 5, 6] (Sf qbdb [3, 4, 5, 21] (Cn 21 (Rf qbda [3, 4]) .skip)))))
abbrev qati : List SOper := [Ma 27 4, Ma 2 27]
def c_tall : SCode := (Sf qbdg [0] (Sf qbdf [3] (Sf qbde [3, 4] (.seq (Bl 0 qatj) (Sf qati [2] .ret)))))
abbrev qbcz : List SOper := [Oa 4 (.mv (.c .nil))]
abbrev qbcy : List SOper := [Ma 5 0, Ma 6 1, Oa 7 (.build [(.int .i64 0), (.int .i64 0), .nilsl] [(0, 1, (.t 5)), (1, 1, (.t 6))]), Oa 8 (.box 108 (.t 7)), Ma 4 8]
def c_tnew : SCode := (Sf qbcz [0, 1] (Sf qbcy [4] .ret))
abbrev qa77 : List SOper := [Ma 4 0, Ma 5 1, ⟨(some 6), .mv (.c .any), some ((.c (.fn (.method "Push") [] [])), [(.t 4), (.t 5)]), none, 0⟩]
abbrev qapp : List SOper := [Ma 7 0, Ma 8 0, ⟨(some 9), .mv (.c .any), some ((.c (.fn (.method "Len") [] [])), [(.t 8)]), none, 0⟩, Ca 10 .sub 9 1, Qc 11 157 [7, 10]]
def qbko : SCode := (Sf qa77 [0] (Rf qapp []))
abbrev qbhx : List SOper := [Oa 2 (.mv (.c .niliface))]
abbrev qbhw : List SOper := [Ma 4 0, ⟨(some 5), .mv (.c .any), some ((.c (.fn (.method "Len") [] [])), [(.t 4)]), none, 0⟩, Ca 6 .sub 5 1, Ma 3 6]
abbrev qbhv : List SOper := [Ma 7 0, Ma 8 3, ⟨(some 9), .mv (.c .any), some ((.c (.fn (.method "Swap") [] [])), [(.t 7), (.c (.int .i64 0)), (.t 8)]), none, 0⟩]
abbrev qbhu : List SOper := [Ma 10 0, Ma 11 3, Oc 12 158 [(.t 10), (.c (.int .i64 0)), (.t 11)]]
abbrev qbht : List SOper := [Ma 13 0, ⟨(some 14), .mv (.c .any), some ((.c (.fn (.method "Pop") [] [])), [(.t 13)]), none, 0⟩, Ma 2 14]
def c_hpop : SCode := (Sf qbhx [0] (Sf qbhw [0, 3] (Sf qbhv [0, 3] (Sf qbhu [0] (Sf qbht [2] .ret)))))
abbrev qbhs : List SOper := [Oa 4 (.mv (.c .niliface))]
abbrev qbhr : List SOper := [Ma 6 0, ⟨(some 7), .mv (.c .any), some ((.c (.fn (.method "Len") [] [])), [(.t 6)]), none, 0⟩, Ca 8 .sub 7 1, Ma 5 8]
abbrev qbhq : List SOper := [Ma 9 5, Ma 10 1, Ba 11 .neq 9 10]
abbrev qbhp : List SOper := [Ma 12 0, Ma 13 1, Ma 14 5, ⟨(some 15), .mv (.c .any), some ((.c (.fn (.method "Swap") [] [])), [(.t 12), (.t 13), (.t 14)]), none, 0⟩]
abbrev qbho : List SOper := [Ma 16 0, Ma 17 1, Ma 18 5, Qc 19 158 [16, 17, 18], Oa 20 (.un .not (.t 19))]
abbrev qbhn : List SOper := [Ma 21 0, Ma 22 1, Qc 23 157 [21, 22]]
abbrev qbhm : List SOper := [Ma 24 0, ⟨(some 25), .mv (.c .any), some ((.c (.fn (.method "Pop") [] [])), [(.t 24)]), none, 0⟩, Ma 4 25]
def qayf : SCode := (Sf qbhs [0, 1] (Sf qbhr [0, 1, 5] (.seq (Sf qbhq [0, 1, 5, 11] (Cn 11 (Sf qbhp [0, 1, 5] (Sf qbho [0, 1, 20] (Cn 20 (Rf qbhn [0]) .skip))) .skip)) (Sf qbhm [4] .ret))))
abbrev qbpg : List SOper := [Ma 5 1, Ca 6 .sub 5 1, Ca 7 .quo 6 2, Ma 4 7]
abbrev qbpf : List SOper := [Ma 8 4, Ma 9 1, Ba 10 .eql 8 9, Ma 11 10, Oe 12 (Pm 0) 11 false, Oe 13 (Pm 1) 11 false, Oe 14 (Pm 4) 11 false, ⟨(some 15), .mv (.c .any), some ((.c (.fn (.method "Less") [] [])), [(.t 12), (.t 13), (.t 14)]), (some (11, false)), 0⟩, Oe 16 (.un .not (.t 15)) 11 false, Ta 17 11 16]
abbrev qbpe : List SOper := [Ma 18 0, Ma 19 4, Ma 20 1, ⟨(some 21), .mv (.c .any), some ((.c (.fn (.method "Swap") [] [])), [(.t 18), (.t 19), (.t 20)]), none, 0⟩]
abbrev qbpd : List SOper := [Ma 22 4, Ma 1 22]
def qar6 : SCode := (.block 1 (Sf qbpg [0, 1, 4] (.seq (Sf qbpf [0, 1, 4, 17] (Cn 17 (.exit 0) .skip)) (Sf qbpe [0, 4] (Rf qbpd [0, 1])))))
def c_hup : SCode := (Bl 0 qar6)
abbrev qa8g : List SOper := [Oa 6 (.mv (.c (.bool false)))]
abbrev qa8f : List SOper := [Ma 11 1, Ma 7 11]
abbrev qa8e : List SOper := [Ma 12 7, Oa 13 (.bin .mul (.c (.int .i64 2)) (.t 12)), Ca 14 .add 13 1, Ma 8 14]
abbrev qa8d : List SOper := [Ma 15 8, Ma 16 2, Ba 17 .geq 15 16, Ma 18 17, Oe 19 (Pm 8) 18 false, Oe 20 (Pc .lss 19 0) 18 false, Ta 21 18 20]
abbrev qa8c : List SOper := [Ma 22 8, Ma 9 22]
abbrev qa8b : List SOper := [Ma 23 8, Ca 24 .add 23 1, Ma 10 24]
abbrev qa8a : List SOper := [Ma 25 10, Ma 26 2, Ba 27 .lss 25 26, Ma 28 27, Oe 29 (Pm 0) 28 true, Oe 30 (Pm 10) 28 true, Oe 31 (Pm 8) 28 true, ⟨(some 32), .mv (.c .any), some ((.c (.fn (.method "Less") [] [])), [(.t 29), (.t 30), (.t 31)]), (some (28, true)), 0⟩, Ua 33 28 32]
abbrev qa79 : List SOper := [Ma 34 10, Ma 9 34]
abbrev qa78 : List SOper := [Ma 35 0, Ma 36 9, Ma 37 7, ⟨(some 38), .mv (.c .any), some ((.c (.fn (.method "Less") [] [])), [(.t 35), (.t 36), (.t 37)]), none, 0⟩, Oa 39 (.un .not (.t 38))]
abbrev qayi : List SOper := [Ma 40 0, Ma 41 7, Ma 42 9, ⟨(some 43), .mv (.c .any), some ((.c (.fn (.method "Swap") [] [])), [(.t 40), (.t 41), (.t 42)]), none, 0⟩]
abbrev qayh : List SOper := [Ma 44 9, Ma 7 44]
def qaps : SCode := (.block 1 (Sf qa8e [0, 1, 2, 7, 8] (.seq (Sf qa8d [0, 1, 2, 7, 8, 21] (Cn 21 (.exit 0) .skip)) (Sf qa8c [0, 1, 2, 7, 8, 9] (.seq (Sf qa8b [0, 1, 2, 7, 8, 9, 10] (Sf qa8a [0, 1, 2, 7, 9, 10, 33] (Cn 33 (Rf qa79 [0, 1, 2, 7, 9]) .skip))) (.seq (Sf qa78 [0, 1, 2, 7, 9, 39] (Cn 39 (.exit 0) .skip)) (Sf qayi [0, 1, 2, 9] (Rf qayh [0, 1, 2, 7]))))))))
abbrev qayg : List SOper := [Ma 45 7, Ma 46 1, Ba 47 .gtr 45 46, Ma 6 47]
def qbkq : SCode := (Sf qa8g [0, 1, 2] (Sf qa8f [0, 1, 2, 7] (.seq (Bl 0 qaps) (Sf qayg [6] .ret))))
abbrev qa5q : List SOper := [Ka 2 0]
abbrev qa5p : List SOper := [Ma 3 0, Na 4 3, Ma 2 4]
def qbkh : SCode := (Sf qa5q [0] (Sf qa5p [2] .ret))
abbrev qaxr : List SOper := [Oa 6 (.mv (.c (.bool false)))]
abbrev qaxq : List SOper := [Ma 7 0, Ma 8 1, Od 9 (Pi 6 7 8) 3, Od 10 (Ps 6 9) 7, Ma 11 0, Ma 12 2, Od 13 (Pi 6 11 12) 48, Od 14 (Ps 6 13) 112, Qh 15 159 [10, 14] 255, Od 16 (Pc .lss 15 0) 511, Od 6 (Pm 16) 1023]
def qa5o : SCode := (Sf qaxr [0, 1, 2] (.seq (Rt qaxq [6]) .ret))
abbrev qaxm : List SOper := [Ma 6 0, Ma 7 1, Ma 8 0, Ma 9 2, Ma 10 0, Ma 11 2, Od 12 (Pi 6 10 11) 48, Od 13 (Ps 6 12) 112, Ma 14 0, Ma 15 1, Od 16 (Pi 6 14 15) 768, Od 17 (Ps 6 16) 1792, Od 18 (Pi 6 6 7) 4083, Og (.store 6 (.t 18) (.t 13)) 8179, Od 19 (Pi 6 8 9) 16383, Og (.store 6 (.t 19) (.t 17)) 32767]
def qa5h : SCode := (Rt qaxm [])
abbrev qaxp : List SOper := [Ma 7 1, Oa 8 (.asrt 38 (.agg [.nilsl, .nilsl, (.int .i64 0), (.int .i64 0), (.int .i64 0), .nilsl]) (.t 7)), Ma 6 8, Oa 9 (.extr (.t 6) 0), Oa 10 (.extr (.t 6) 1), Oa 4 (.alloc 38 [.nilsl, .nilsl, (.int .i64 0), (.int .i64 0), (.int .i64 0), .nilsl]), Va 6 4 9, Ma 5 10]
abbrev qaxo : List SOper := [Ma 11 5]
abbrev qaxn : List SOper := [Ma 12 0, Ma 13 0, Od 14 (.nilc (.t 13)) 2, Od 15 (Pa 14) 6, Sa 16 6 4, Od 17 (.mkrow 38 6 1 [.nilsl, .nilsl, (.int .i64 0), (.int .i64 0), (.int .i64 0), .nilsl] [(0, (.t 16))]) 16, Od 18 (.app 38 6 96 (.t 15) (.t 17)) 62, Od 19 (.nilc (.t 12)) 127, Og (.store 1 (.t 19) (.t 18)) 255]
def qa5i : SCode := (Sf qaxp [0, 4, 5] (Sf qaxo [0, 4, 11] (Cn 11 (Rt qaxn []) .skip)))
abbrev qa5n : List SOper := [Oa 2 (.mv (.c .niliface))]
abbrev qa5m : List SOper := [Ma 5 0, Oa 6 (.nilc (.t 5)), La 7 6, Na 8 7, Ca 9 .sub 8 1, Ma 3 9]
abbrev qa5l : List SOper := [Ma 10 0, Oa 11 (.nilc (.t 10)), La 12 11, Ma 13 3, Ia 14 6 12 13, Sa 15 6 14, Oa 4 (.alloc 38 [.nilsl, .nilsl, (.int .i64 0), (.int .i64 0), (.int .i64 0), .nilsl]), Va 6 4 15]
abbrev qa5k : List SOper := [Ma 16 0, Ma 17 0, Oa 18 (.nilc (.t 17)), La 19 18, Ma 20 3, Oa 21 (.slice 6 (.t 19) none (some (.t 20))), Oa 22 (.nilc (.t 16)), Va 1 22 21]
abbrev qa5j : List SOper := [Sa 23 6 4, Oa 24 (.mkifc 38 (.t 23)), Ma 2 24]
def qbkg : SCode := (Sf qa5n [0] (Sf qa5m [0, 3] (Sf qa5l [0, 3, 4] (Sf qa5k [4] (Sf qa5j [2] .ret)))))
section
attribute [local simp] qaa6 qaa5 qaak qaas qaal qaar qaa3 qaa4 qaae qabh SOp.run SX.ev putd puts argS upds SOp.touch SSt.keep SSt.skip gets geth puth delh idOf SV.cells? setL qac5 qac6 sbin eq0 eq1 eqL qac2 qaby qab0 qaa2 qaa1 qaac qaa7 qabi qaaj qaad FrzOk qaav qaan qaat qaau qaaf qaam qaa8 qaao qaah qaaw qaag frzS frzH frz frz1 frz0 SlotsM ObjsM ObjM rn ren ren1 ren0 qabk qabw qabz qabj qaa9 qabx qab1 CoL qaax qabr dels adds idsH qabc
def orL : List Int → Int
 | [] => 0
 | a :: xs => if a ≠ 0 then a else orL xs
def ordE (a b : Entry) : Int := orL [cmpI a.prio b.prio, cmpL a.keys b.keys, cmpL a.masks b.masks]
theorem nani_s (n : Int) (q : Nat) : SCalls Tryz.prog 162 [.int .i64 n] [] q (.bool false) [] := by
 refine qabt ?_ (fun _ => rfl) (fun _ => rfl) rfl q;refine yF (N := 6) Tryz.func162 c_nani ?_;rintro X hP hN hm;unfold c_nani;repeat' (first | refine yA ?_ | exact trivial)
 all_goals simp
theorem nanu_s (n : Int) (q : Nat) : SCalls Tryz.prog 108 [.int .u64 n] [] q (.bool false) [] := by
 refine qabt ?_ (fun _ => rfl) (fun _ => rfl) rfl q;refine yF (N := 6) Tryz.func108 c_nanu ?_;rintro X hP hN hm;unfold c_nanu;repeat' (first | refine yA ?_ | exact trivial)
 all_goals simp
theorem cmpi_s (a b : Int) (q : Nat) : SCalls Tryz.prog 161 [.int .i64 a, .int .i64 b] [] q (.int .i64 (cmpI a b)) [] := by
 refine qabt ?_ (fun _ => rfl) (fun _ => rfl) rfl q;refine yF (N := 20) Tryz.func161 c_cmpi ?_;rintro X hP hN hm;obtain ⟨F, hF⟩ : ∃ F, F = cmpI a b := ⟨_, rfl⟩
 rw [← hF];replace hF := Lib.hid hF;unfold c_cmpi;repeat' (first | refine yA ?_ | with_reducible refine yB ?_ ?_ | ((with_reducible refine yC fun h => ?_); have h' := h; (try simp at h'); (try subst h')) | refine qabe (nani_s _ _) ?_ | exact trivial)
 all_goals (rw [hF.out]; unfold cmpI; first | (rw [if_pos (by omega)]) | (rw [if_neg (by omega), if_pos (by omega)]) | (rw [if_neg (by omega), if_neg (by omega)]))
theorem cmpu_s (a b : Int) (q : Nat) : SCalls Tryz.prog 97 [.int .u64 a, .int .u64 b] [] q (.int .i64 (cmpI a b)) [] := by
 refine qabt ?_ (fun _ => rfl) (fun _ => rfl) rfl q;refine yF (N := 20) Tryz.func97 c_cmpu ?_;rintro X hP hN hm;obtain ⟨F, hF⟩ : ∃ F, F = cmpI a b := ⟨_, rfl⟩
 rw [← hF];replace hF := Lib.hid hF;unfold c_cmpu;repeat' (first | refine yA ?_ | with_reducible refine yB ?_ ?_ | ((with_reducible refine yC fun h => ?_); have h' := h; (try simp at h'); (try subst h')) | refine qabe (nanu_s _ _) ?_ | exact trivial)
 all_goals (rw [hF.out]; unfold cmpI; first | (rw [if_pos (by omega)]) | (rw [if_neg (by omega), if_pos (by omega)]) | (rw [if_neg (by omega), if_neg (by omega)]))
theorem qbbr (xa xb : List Int) (i : Nat) (h : i < xa.length) (g : i < xb.length) : cmpL (xa.drop i) (xb.drop i) = if cmpI xa[i] xb[i] ≠ 0 then cmpI xa[i] xb[i] else cmpL (xa.drop (i + 1)) (xb.drop (i + 1)) := by
 rw [List.drop_eq_getElem_cons h, List.drop_eq_getElem_cons g]; rfl
theorem qbi3 (xa xb : List Int) (ha : xa.length ≤ 1000000) (hb : xb.length ≤ 1000000) (q : Nat) : SCalls Tryz.prog 92 [nums .u64 xa, nums .u64 xb] [] q (.int .i64 (cmpL xa xb)) [] := by
 refine qabt ?_ (fun _ => rfl) (fun _ => rfl) rfl q;refine yF (N := 36) Tryz.func92 qbj9 ?_;rintro X hP hN hm;obtain ⟨F, hF⟩ : ∃ F, F = cmpL xa xb := ⟨_, rfl⟩
 rw [← hF];replace hF := Lib.hid hF;unfold qbj9 nums;repeat' (first | refine yA ?_ | exact trivial)
 refine qabf (qaco (fun s (i : Nat) => s.turn [(11, .int .i64 i)] []) (fun i => i ≤ xa.length ∧ i ≤ xb.length ∧ F = cmpL (xa.drop i) (xb.drop i)) (fun i => xa.length - i) 0 ?_ ⟨by simp, by simp, hF.out⟩ ?_)
 ·repeat' (first | exact yD | refine yE ?_ | with_reducible refine yB ?_ ?_ | exact trivial)
 rintro J hJ i ⟨h1, h2, h3⟩;unfold qaoy;simp only [zT, puth, Nat.reduceEqDiff, reduceIte, Nat.reduceAdd] at h1 h2 h3 ⊢;replace h3 := Lib.hid h3;rcases Nat.lt_or_ge i xa.length with hi | hi
 ·rcases Nat.lt_or_ge i xb.length with hj | hj
  ·have h4 := h3.out;rw [qbbr xa xb i hi hj] at h4;generalize hx : cmpI xa[i] xb[i] = x at h4;have hc : ∀ q, SCalls Tryz.prog 97 [.int .u64 xa[i], .int .u64 xb[i]] [] q (.int .i64 x) [] := fun q => by rw [← hx]; exact cmpu_s _ _ q
   have wi : IntKind.i64.wrap ((i : Int) + 1) = (i : Int) + 1 := qabo (by omega) (by omega);replace h4 := Lib.hid h4;repeat' (first | ((with_reducible refine qaab ?_); (try rw [hP]); simp -implicitDefEqProofs [wi, List.getElem?_eq_getElem hi, List.getElem?_eq_getElem hj, *]) | ((with_reducible refine qaai ?_); (try simp -implicitDefEqProofs [wi, List.getElem?_eq_getElem hi, List.getElem?_eq_getElem hj, *])) | refine yA ?_ | with_reducible refine yB ?_ ?_ | ((with_reducible refine yC fun h => ?_); have h' := h; (try simp at h'); (try subst h')) | (refine qabe (hc _) ?_; simp -implicitDefEqProofs [wi, List.getElem?_eq_getElem hi, List.getElem?_eq_getElem hj, *]) | exact yD | refine yE ?_ | ((refine qabs hJ (i + 1) ?_ ?_ ?_; (with_reducible refine qabd [] hm ?_ ?_ ?_ ?_) <;> (try simp only [zT, puth, Nat.reduceEqDiff, reduceIte, Nat.reduceAdd]))) | exact trivial)
   all_goals first | (exfalso; omega) | (rw [h4.out, if_pos ‹_›]; done) | (refine ⟨by omega, by omega, ?_⟩; rw [h4.out, if_neg (by omega)]) | omega | trace_state
  ·repeat' (first | ((with_reducible refine qaab ?_); (try rw [hP]); simp -implicitDefEqProofs [List.getElem?_eq_getElem hi, *]) | ((with_reducible refine qaai ?_); (try simp -implicitDefEqProofs [List.getElem?_eq_getElem hi, *])) | refine yA ?_ | with_reducible refine yB ?_ ?_ | ((with_reducible refine yC fun h => ?_); have h' := h; (try simp at h'); (try subst h')) | exact trivial)
   all_goals first | (exfalso; omega) | (rw [h3.out, List.drop_eq_nil_of_le hj, List.drop_eq_getElem_cons hi]; rfl) | trace_state
 ·have hn : ¬ (i < xa.length) := by omega
  repeat' (first | refine yA ?_ | with_reducible refine yB ?_ ?_ | ((with_reducible refine yC fun h => ?_); have h' := h; (try simp at h'); (try subst h')) | exact trivial)
  all_goals first | (exfalso; omega) | (rw [h3.out, List.drop_eq_nil_of_le hi, List.drop_eq_getElem_cons (by omega)]; rfl) | (rw [h3.out, List.drop_eq_nil_of_le hi, List.drop_eq_nil_of_le (by omega)]; rfl) | trace_state
theorem cmpor_s (xa : List Int) (ha : xa.length ≤ 1000000) (q : Nat) : SCalls Tryz.prog 160 [nums .i64 xa] [] q (.int .i64 (orL xa)) [] := by
 refine qabt ?_ (fun _ => rfl) (fun _ => rfl) rfl q;refine yF (N := 18) Tryz.func160 qbks ?_;rintro X hP hN hm;obtain ⟨F, hF⟩ : ∃ F, F = orL xa := ⟨_, rfl⟩
 rw [← hF];replace hF := Lib.hid hF;unfold qbks nums;repeat' (first | refine yA ?_ | exact trivial)
 refine qabf (qaco (fun s (i : Nat) => s.turn [(8, .int .i64 i)] []) (fun i => i ≤ xa.length ∧ F = orL (xa.drop i)) (fun i => xa.length - i) 0 ?_ ⟨by simp, hF.out⟩ ?_)
 ·repeat' (first | exact yD | refine yE ?_ | with_reducible refine yB ?_ ?_ | exact trivial)
 rintro J hJ i ⟨h1, h3⟩;unfold qap2;simp only [zT, puth, Nat.reduceEqDiff, reduceIte, Nat.reduceAdd] at h1 h3 ⊢;replace h3 := Lib.hid h3;rcases Nat.lt_or_ge i xa.length with hi | hi
 ·have h4 : F = if xa[i] ≠ 0 then xa[i] else orL (xa.drop (i + 1)) := by rw [h3.out, List.drop_eq_getElem_cons hi]; rfl
  have wi : IntKind.i64.wrap ((i : Int) + 1) = (i : Int) + 1 := qabo (by omega) (by omega);replace h4 := Lib.hid h4;repeat' (first | ((with_reducible refine qaab ?_); (try rw [hP]); simp -implicitDefEqProofs [wi, List.getElem?_eq_getElem hi, *]) | ((with_reducible refine qaai ?_); (try simp -implicitDefEqProofs [wi, List.getElem?_eq_getElem hi, *])) | refine yA ?_ | with_reducible refine yB ?_ ?_ | ((with_reducible refine yC fun h => ?_); have h' := h; (try simp at h'); (try subst h')) | exact yD | refine yE ?_ | ((refine qabs hJ (i + 1) ?_ ?_ ?_; (with_reducible refine qabd [] hm ?_ ?_ ?_ ?_) <;> (try simp only [zT, puth, Nat.reduceEqDiff, reduceIte, Nat.reduceAdd]))) | exact trivial)
  all_goals first | (exfalso; omega) | (rw [h4.out, if_pos ‹_›]; done) | (refine ⟨by omega, ?_⟩; rw [h4.out, if_neg (by omega)]) | omega | trace_state
 ·repeat' (first | refine yA ?_ | with_reducible refine yB ?_ ?_ | ((with_reducible refine yC fun h => ?_); have h' := h; (try simp at h'); (try subst h')) | exact trivial)
  all_goals first | (exfalso; omega) | (rw [h3.out, List.drop_eq_nil_of_le hi]; rfl) | trace_state
theorem qbbq (a b c : Int) (id q : Nat) : SCalls Tryz.prog 160 [.own id 3] [(id, .row 3 1 [[.int .i64 a], [.int .i64 b], [.int .i64 c]])] q (.int .i64 (orL [a, b, c])) [(id, .row 3 1 [[.int .i64 a], [.int .i64 b], [.int .i64 c]])] := by
 have hl : Lent [(id, .row 3 1 [[.int .i64 a], [.int .i64 b], [.int .i64 c]])] (.own id 3) (.view 1 [[.int .i64 a], [.int .i64 b], [.int .i64 c]]) :=
  qaj0 (e := 3) (by simp [geth]) (fun e he x hx => by
   simp only [List.mem_cons, List.not_mem_nil, or_false] at he;rcases he with rfl | rfl | rfl <;> (simp only [List.mem_cons, List.not_mem_nil, or_false] at hx; subst hx; exact qafp _ _)) rfl
 exact qada (cmpor_s [a, b, c] (by simp) q) ⟨hl, trivial⟩ (qafu _ _)
theorem qbjc (a b : Entry) (ha : qacd a) (hb : qacd b) (q : Nat) : SCalls Tryz.prog 159 [.agg (qaaa a), .agg (qaaa b)] [] q (.int .i64 (ordE a b)) [] := by
 refine qabt ?_ (fun _ => rfl) (fun _ => rfl) rfl q;refine yF (N := 22) Tryz.func159 qa2u ?_;rintro X hP hN hm;have k1 := fun q => qbi3 a.keys b.keys ha.1 hb.1 q
 have k2 := fun q => qbi3 a.masks b.masks ha.2.1 hb.2.1 q
 unfold qa2u qaaa;repeat' (first | refine yA ?_ | refine qabe (cmpi_s _ _ _) ?_ | refine qabe (k1 _) ?_ | refine qabe (k2 _) ?_ | refine yR (qbbq _ _ _ _ _) ?_ | exact trivial)
 all_goals rfl
theorem same_s (a b : Entry) (ha : qacd a) (hb : qacd b) (q : Nat) : SCalls Tryz.prog 156 [.agg (qaaa a), .agg (qaaa b)] [] q (.bool (ordE a b == 0)) [] := by
 refine qabt ?_ (fun _ => rfl) (fun _ => rfl) rfl q;refine yF (N := 9) Tryz.func156 qbj3 ?_;rintro X hP hN hm;have k1 := fun q => qbjc a b ha hb q
 unfold qaaa at k1;unfold qbj3 qaaa;repeat' (first | refine yA ?_ | refine qabe (k1 _) ?_ | exact trivial)
 all_goals rfl
theorem tnums (xs : List Int) (h : xs.length ≤ 1000000) (q : Nat) : SCalls Tryz.prog 32 [nums .u64 xs] [] q (nums .u64 xs) [] := by
 unfold nums;rcases xs with _ | ⟨x, xs⟩
 ·refine qag1 (qabt ?_ (fun _ => rfl) (fun _ => rfl) rfl q) (qabt ?_ (fun _ => rfl) (fun _ => rfl) rfl q)
  ·refine yF (N := 8) Tryz.func32 qbqd ?_;rintro X hP hN hm;unfold qbqd;repeat' (first | refine yA ?_ | with_reducible refine yB ?_ ?_ | ((with_reducible refine yC fun h => ?_); have h' := h; (try simp at h'); (try subst h')) | (refine qbm7 hm rfl (Co.nilsl _) (qaqy _ _)) | exact trivial)
  ·refine yF (N := 8) Tryz.func32 qbqd ?_;rintro X hP hN hm;unfold qbqd;repeat' (first | refine yA ?_ | with_reducible refine yB ?_ ?_ | ((with_reducible refine yC fun h => ?_); have h' := h; (try simp at h'); (try subst h')) | (refine qak4 (es := []) hm rfl rfl ?_ rfl) | exact trivial)
   all_goals rfl
 ·refine qabt ?_ (fun _ => rfl) (fun _ => rfl) rfl q;refine yF (N := 8) Tryz.func32 qbqd ?_;rintro X hP hN hm;have hb : (x :: xs).length ≤ maxLen := by unfold maxLen; omega
  simp only [List.length_cons] at h hb;unfold qbqd;repeat' (first | refine yA ?_ | with_reducible refine yB ?_ ?_ | ((with_reducible refine yC fun h => ?_); have h' := h; (try simp at h'); (try subst h')) | (refine qak4 (es := (x :: xs).map fun x => [.int .u64 x]) hm rfl rfl ?_ rfl) | exact trivial)
  all_goals simp
def towE (e : Entry) : Entry := { e with len := 0 }
theorem qbk6 (e : Entry) (h : qacd e) (q : Nat) : SCalls Tryz.prog 150 [.agg (qaaa e)] [] q (.agg (qaaa (towE e))) [] := by
 refine qabt ?_ (fun _ => rfl) (fun _ => rfl) rfl q;refine yF (N := 17) Tryz.func150 c_town ?_;rintro X hP hN hm;obtain ⟨h1, h2, h3⟩ := h;have k1 := fun q => tnums e.keys h1 q
 have k2 := fun q => tnums e.masks h2 q
 have k3 := fun q => tnums e.args h3 q
 unfold nums at k1 k2 k3;unfold c_town qaaa nums towE;repeat' (first | refine yA ?_ | refine qabe (k1 _) ?_ | refine qabe (k2 _) ?_ | refine qabe (k3 _) ?_ | ((refine qare hm rfl ?_ ?_ rfl (CoL.refl _) rfl ?_)) | exact trivial)
 all_goals first | (rw [hP]; with_reducible exact qai8) | (rw [hP]; exact qahc) | (intro σ; rfl) | trace_state
def qasw : List Int → List Int → List Int → List Int → Bool
 | a :: xa, b :: xb, m :: xm, n :: xn => if bits .and .u64 (bits .and .u64 (bits .xor .u64 a b) m) n ≠ 0 then false else qasw xa xb xm xn
 | _, _, _, _ => true
def qam2 (a b : Entry) : Bool := qasw a.keys b.keys a.masks b.masks
theorem qa0m (xa xb xm xn : List Int) (i : Nat) (h : i < xa.length) (g : i < xb.length) (hm : i < xm.length) (hn : i < xn.length) : qasw (xa.drop i) (xb.drop i) (xm.drop i) (xn.drop i) = if bits .and .u64 (bits .and .u64 (bits .xor .u64 xa[i] xb[i]) xm[i]) xn[i] ≠ 0 then false else qasw (xa.drop (i + 1)) (xb.drop (i + 1)) (xm.drop (i + 1)) (xn.drop (i + 1)) := by
 rw [List.drop_eq_getElem_cons h, List.drop_eq_getElem_cons g, List.drop_eq_getElem_cons hm, List.drop_eq_getElem_cons hn, qasw]
theorem meets_s (a b : Entry) (ha : qacd a) (hb : qacd b) (h1 : b.keys.length = a.keys.length) (h2 : a.masks.length = a.keys.length) (h3 : b.masks.length = a.keys.length) (q : Nat) : SCalls Tryz.prog 148 [.agg (qaaa a), .agg (qaaa b)] [] q (.bool (qam2 a b)) [] := by
 refine qabt ?_ (fun _ => rfl) (fun _ => rfl) rfl q;refine yF (N := 37) Tryz.func148 qa2v ?_;rintro X hP hN hm;obtain ⟨h4, -, -⟩ := ha;obtain ⟨ka, ma, la, pa, aa, ra⟩ := a;obtain ⟨kb, mb, lb, pb, ab, rb⟩ := b;dsimp only at h1 h2 h3 h4;obtain ⟨F, hF⟩ : ∃ F, F = qam2 ⟨ka, ma, la, pa, aa, ra⟩ ⟨kb, mb, lb, pb, ab, rb⟩ := ⟨_, rfl⟩
 rw [← hF];replace hF := Lib.hid hF;replace h1 := Lib.hid h1;replace h2 := Lib.hid h2;replace h3 := Lib.hid h3;unfold qa2v qaaa nums;repeat' (first | refine yA ?_ | exact trivial)
 refine qabf (qaco (fun s (i : Nat) => s.turn [(9, .int .i64 i)] []) (fun i => i ≤ ka.length ∧ F = qasw (ka.drop i) (kb.drop i) (ma.drop i) (mb.drop i)) (fun i => ka.length - i) 0 ?_ ⟨by simp, hF.out⟩ ?_)
 ·repeat' (first | exact yD | refine yE ?_ | with_reducible refine yB ?_ ?_ | exact trivial)
 rintro J hJ i ⟨h5, h6⟩;unfold qalb;simp only [zT, puth, Nat.reduceEqDiff, reduceIte, Nat.reduceAdd] at h5 h6 ⊢;replace h6 := Lib.hid h6;rcases Nat.lt_or_ge i ka.length with hi | hi
 ·have i1 : i < kb.length := by rw [h1.out]; exact hi
  have i2 : i < ma.length := by rw [h2.out]; exact hi
  have i3 : i < mb.length := by rw [h3.out]; exact hi
  have h7 := h6.out;rw [qa0m ka kb ma mb i hi i1 i2 i3] at h7;have wi : IntKind.i64.wrap ((i : Int) + 1) = (i : Int) + 1 := qabo (by omega) (by omega);generalize hx : bits .and .u64 (bits .and .u64 (bits .xor .u64 ka[i] kb[i]) ma[i]) mb[i] = x at h7;replace h7 := Lib.hid h7;repeat' (first | ((with_reducible first | refine qaab ?_ | refine qaaz (by rw [hP]; exact mixed) ?_); (try rw [hP]); simp -implicitDefEqProofs [wi, List.getElem?_eq_getElem hi, List.getElem?_eq_getElem i1, List.getElem?_eq_getElem i2, List.getElem?_eq_getElem i3, hx, *]) | ((with_reducible refine qaai ?_); (try simp -implicitDefEqProofs [wi, List.getElem?_eq_getElem hi, List.getElem?_eq_getElem i1, List.getElem?_eq_getElem i2, List.getElem?_eq_getElem i3, hx, *])) | refine yA ?_ | with_reducible refine yB ?_ ?_ | ((with_reducible refine yC fun h => ?_); have h' := h; (try simp at h'); (try subst h')) | exact yD | refine yE ?_ | ((refine qabs hJ (i + 1) ?_ ?_ ?_; (with_reducible refine qabd [] hm ?_ ?_ ?_ ?_) <;> (try simp only [zT, puth, Nat.reduceEqDiff, reduceIte, Nat.reduceAdd]))) | exact trivial)
  all_goals first | (exfalso; omega) | (rw [h7.out, if_pos ‹_›]; done) | (refine ⟨by omega, ?_⟩; rw [h7.out, if_neg (by omega)]) | omega | trace_state
 ·repeat' (first | refine yA ?_ | with_reducible refine yB ?_ ?_ | ((with_reducible refine yC fun h => ?_); have h' := h; (try simp at h'); (try subst h')) | exact trivial)
  all_goals first | (exfalso; omega) | (rw [h6.out, List.drop_eq_nil_of_le hi]; rfl) | trace_state
def qbi0 (k m : Int) (l : List Entry) : List SV := [.int .i64 k, .int .i64 m, .view 6 (l.map qaaa)]
def qayx : List Int → List Int → Bool
 | a :: xa, m :: xm => if bits .andNot .u64 a m ≠ 0 then false else qayx xa xm
 | _, _ => true
def qagy (k : Int) (e : Entry) : Bool := if (e.keys.length : Int) ≠ k ∨ (e.masks.length : Int) ≠ k then false else qayx e.keys e.masks && (decide (0 ≤ e.prio) && decide (e.prio ≤ 1000))
theorem qayw (xa xm : List Int) (i : Nat) (h : i < xa.length) (g : i < xm.length) : qayx (xa.drop i) (xm.drop i) = if bits .andNot .u64 xa[i] xm[i] ≠ 0 then false else qayx (xa.drop (i + 1)) (xm.drop (i + 1)) := by
 rw [List.drop_eq_getElem_cons h, List.drop_eq_getElem_cons g, qayx]
theorem tfits_s (k m : Int) (l : List Entry) (e : Entry) (he : qacd e) (q : Nat) : SCalls Tryz.prog 144 [.cp (qbi0 k m l), .agg (qaaa e)] [] q (.bool (qagy k e)) [] := by
 refine qabt ?_ (fun _ => rfl) (fun _ => rfl) rfl q;refine yF (N := 50) Tryz.func144 qbj4 ?_;rintro X hP hN hm;obtain ⟨h4, -, -⟩ := he;obtain ⟨xa, xm, ln, pr, ac, ar⟩ := e;dsimp only at h4;obtain ⟨F, hF⟩ : ∃ F, F = qagy k ⟨xa, xm, ln, pr, ac, ar⟩ := ⟨_, rfl⟩
 rw [← hF];unfold qagy at hF;replace hF := Lib.hid hF;unfold qbj4 qaaa nums qbi0;repeat' (first | refine yA ?_ | with_reducible refine yB ?_ ?_ | ((with_reducible refine yC fun h => ?_); have h' := h; (try simp at h'); (try subst h')) | exact trivial)
 ·dsimp only at hF; rw [hF.out, if_pos (by omega)]
 ·dsimp only at hF; rw [hF.out, if_pos (by omega)]
 have hml : xm.length = xa.length := by omega
 have hF2 : F = (qayx xa xm && (decide (0 ≤ pr) && decide (pr ≤ 1000))) := by have := hF.out; dsimp only at this; rw [if_neg (by omega)] at this; exact this
 clear hF;replace hml := Lib.hid hml;refine qabf (qaco (fun s (i : Nat) => s.turn [(28, .int .i64 i)] []) (fun i => i ≤ xa.length ∧ F = (qayx (xa.drop i) (xm.drop i) && (decide (0 ≤ pr) && decide (pr ≤ 1000)))) (fun i => xa.length - i) 0 ?_ ⟨by simp, hF2⟩ ?_)
 ·repeat' (first | exact yD | refine yE ?_ | with_reducible refine yB ?_ ?_ | exact trivial)
 rintro J hJ i ⟨h5, h6⟩;unfold qaoj;simp only [zT, puth, Nat.reduceEqDiff, reduceIte, Nat.reduceAdd] at h5 h6 ⊢;clear hF2;replace h6 := Lib.hid h6;rcases Nat.lt_or_ge i xa.length with hi | hi
 ·have i2 : i < xm.length := by rw [hml.out]; exact hi
  have h7 := h6.out;rw [qayw xa xm i hi i2] at h7;have wi : IntKind.i64.wrap ((i : Int) + 1) = (i : Int) + 1 := qabo (by omega) (by omega);generalize hx : bits .andNot .u64 xa[i] xm[i] = x at h7;replace h7 := Lib.hid h7;repeat' (first | ((with_reducible refine qaab ?_); (try rw [hP]); simp -implicitDefEqProofs [wi, List.getElem?_eq_getElem hi, List.getElem?_eq_getElem i2, hx, *]) | ((with_reducible refine qaai ?_); (try simp -implicitDefEqProofs [wi, List.getElem?_eq_getElem hi, List.getElem?_eq_getElem i2, hx, *])) | refine yA ?_ | with_reducible refine yB ?_ ?_ | ((with_reducible refine yC fun h => ?_); have h' := h; (try simp at h'); (try subst h')) | exact yD | refine yE ?_ | ((refine qabs hJ (i + 1) ?_ ?_ ?_; (with_reducible refine qabd [] hm ?_ ?_ ?_ ?_) <;> (try simp only [zT, puth, Nat.reduceEqDiff, reduceIte, Nat.reduceAdd]))) | exact trivial)
  all_goals first | (exfalso; omega) | (rw [h7.out, if_pos ‹_›]; rfl) | (refine ⟨by omega, ?_⟩; rw [h7.out, if_neg (by omega)]) | omega | trace_state
 ·have h7 : F = (decide (0 ≤ pr) && decide (pr ≤ 1000)) := by rw [h6.out, List.drop_eq_nil_of_le hi]; simp [qayx]
  replace h7 := Lib.hid h7;repeat' (first | ((with_reducible refine qaab ?_); (try rw [hP]); simp -implicitDefEqProofs [Nat.not_lt.2 hi, *]) | ((with_reducible refine qabv ?_); (try simp -implicitDefEqProofs [Nat.not_lt.2 hi, *])) | ((with_reducible refine qacn (fun h => ?_) (fun h => ?_)) <;> have h' := h <;> (try simp at h') <;> (try subst h') <;> simp -implicitDefEqProofs [Nat.not_lt.2 hi, *]) | refine yA ?_ | with_reducible refine yB ?_ ?_ | ((with_reducible refine yC fun h => ?_); have h' := h; (try simp at h'); (try subst h')) | exact trivial)
  all_goals first | (have h0 : 0 ≤ pr := by omega
                     rw [h7.out, decide_eq_true h0]; rfl) | (have h0 : ¬ 0 ≤ pr := by omega
                                                             rw [h7.out, decide_eq_false h0]; rfl)
def AskC (g : FuncId) (b : Entry) (l : List Entry) (p : Entry → Bool) : Prop := ∀ x ∈ l, ∀ q, SCalls Tryz.prog g [.agg (qaaa x), .cp (qaaa b)] [] q (.bool (p x)) []
theorem at1_s (a b : Entry) (ha : qacd a) (hb : qacd b) (q : Nat) : SCalls Tryz.prog 155 [.agg (qaaa a), .cp (qaaa b)] [] q (.bool (ordE a b == 0)) [] := by
 refine qabt ?_ (fun _ => rfl) (fun _ => rfl) rfl q;refine yF (N := 7) Tryz.func155 c_at1 ?_;rintro X hP hN hm;have k1 := fun q => same_s a b ha hb q
 unfold qaaa at k1;unfold c_at1 qaaa;repeat' (first | refine yA ?_ | refine qabe (k1 _) ?_ | exact trivial)
 all_goals rfl
theorem ad1_s (a b : Entry) (ha : qacd a) (hb : qacd b) (h1 : b.keys.length = a.keys.length) (h2 : a.masks.length = a.keys.length) (h3 : b.masks.length = a.keys.length) (q : Nat) : SCalls Tryz.prog 147 [.agg (qaaa a), .cp (qaaa b)] [] q (.bool (a.prio == b.prio && qam2 a b)) [] := by
 refine qabt ?_ (fun _ => rfl) (fun _ => rfl) rfl q;refine yF (N := 14) Tryz.func147 c_ad1 ?_;rintro X hP hN hm;have k1 := fun q => meets_s a b ha hb h1 h2 h3 q
 clear h1 h2 h3;generalize qam2 a b = y at k1;unfold qaaa at k1;unfold c_ad1 qaaa;cases hx : (a.prio == b.prio)
 all_goals
  repeat' (first | ((with_reducible refine qaab ?_); (try rw [hP]); simp -implicitDefEqProofs [hx, *]) | refine yA ?_ | (refine qabe (k1 _) ?_; simp -implicitDefEqProofs [hx, *]) | exact trivial)
  all_goals rfl
theorem qafy (e : Entry) : (qaaa e).length = 6 := rfl
theorem qady (e : Entry) : (qaaa e).take 6 = qaaa e := rfl
theorem idxf_s (g : FuncId) (b : Entry) (l : List Entry) (p : Entry → Bool) (hl : l.length ≤ 1000000) (hg : AskC g b l p) (q : Nat) : SCalls Tryz.prog 154 [.view 6 (l.map qaaa), .fn (.func g) [] [.cp (qaaa b)]] [] q (.int .i64 (match l.findIdx? p with | some i => (i : Int) | none => -1)) [] := by
 refine qabt ?_ (fun _ => rfl) (fun _ => rfl) rfl q;refine yF (N := 19) Tryz.func154 c_idxf ?_;rintro X hP hN hm;obtain ⟨F, hF⟩ : ∃ F, F = (match l.findIdx? p with | some i => (i : Int) | none => -1) := ⟨_, rfl⟩
 rw [← hF];replace hF := Lib.hid hF;unfold c_idxf;repeat' (first | refine yA ?_ | exact trivial)
 refine qabf (qaco (fun s (i : Nat) => s.turn [(8, .int .i64 i)] []) (fun i => i ≤ l.length ∧ F = (match (l.drop i).findIdx? p with | some j => (i : Int) + j | none => -1)) (fun i => l.length - i) 0 ?_ ⟨by simp, by rw [hF.out]; simp⟩ ?_)
 ·repeat' (first | exact yD | refine yE ?_ | with_reducible refine yB ?_ ?_ | exact trivial)
 rintro J hJ i ⟨h5, h6⟩;unfold qat7;simp only [zT, puth, Nat.reduceEqDiff, reduceIte, Nat.reduceAdd] at h5 h6 ⊢;replace h6 := Lib.hid h6;rcases Nat.lt_or_ge i l.length with hi | hi
 ·have h7 := h6.out;rw [List.drop_eq_getElem_cons hi, List.findIdx?_cons] at h7;have hc := hg l[i] (List.getElem_mem hi);have wi : IntKind.i64.wrap ((i : Int) + 1) = (i : Int) + 1 := qabo (by omega) (by omega);generalize hx : p l[i] = x at h7 hc;replace h7 := Lib.hid h7;replace hg := Lib.hid hg;repeat' (first | ((with_reducible refine qaab ?_); (try rw [hP]); simp -implicitDefEqProofs [wi, List.getElem?_eq_getElem hi, qafy, qady, *]) | ((with_reducible refine qaai ?_); (try simp -implicitDefEqProofs [wi, List.getElem?_eq_getElem hi, qafy, qady, *])) | refine yA ?_ | with_reducible refine yB ?_ ?_ | ((with_reducible refine yC fun h => ?_); have h' := h; (try simp at h'); (try subst h')) | (refine qafg (hc _) trivial trivial [] (by simp) ?_; simp -implicitDefEqProofs [wi, List.getElem?_eq_getElem hi, qafy, qady, *]) | exact yD | refine yE ?_ | ((refine qabs hJ (i + 1) ?_ ?_ ?_; (with_reducible refine qabd [] hm ?_ ?_ ?_ ?_) <;> (try simp only [zT, puth, Nat.reduceEqDiff, reduceIte, Nat.reduceAdd]))) | exact trivial)
  ·rw [h7.out, if_pos rfl]; simp
  ·refine ⟨by omega, ?_⟩;rw [h7.out, if_neg (by decide)];cases List.findIdx? p (l.drop (i + 1)) with
   | none => rfl
   | some j =>
    show (i : Int) + ((j + 1 : Nat) : Int) = ((i + 1 : Nat) : Int) + j;push_cast; omega
 ·repeat' (first | ((with_reducible refine qaab ?_); (try rw [hP]); simp -implicitDefEqProofs [Nat.not_lt.2 hi, *]) | ((with_reducible refine qabv ?_); (try simp -implicitDefEqProofs [Nat.not_lt.2 hi, *])) | refine yA ?_ | with_reducible refine yB ?_ ?_ | ((with_reducible refine yC fun h => ?_); have h' := h; (try simp at h'); (try subst h')) | exact trivial)
  all_goals (rw [h6.out, List.drop_eq_nil_of_le hi]; rfl)
theorem qbjl {h1 : Hp} {f : Fn} {cs ds : List SV} (h : qa9z h1 cs ds) : Lent h1 (.fn f [] cs) (.fn f [] ds) := fun O ρ fp w v hok hx => by
 cases hx with
 | fn a b c d =>
  exact .fn a (by rw [← qaet h]; exact b) (fun j x v hx => by cases hx) fun j y v hy hv => by
   obtain ⟨x, hx, hl⟩ := qagk h hy;exact hl O ρ fp w v hok (d j x v hx hv)
theorem qaz5 (e : Entry) : qamy (qaaa e) := by
 intro x hx;simp only [qaaa, List.mem_cons, List.not_mem_nil, or_false] at hx;rcases hx with rfl | rfl | rfl | rfl | rfl | rfl <;> first | exact qafp _ _ | exact qahg _ _
def idxV (l : List Entry) (p : Entry → Bool) : Int := match l.findIdx? p with | some i => (i : Int) | none => -1
theorem qbmv (g : FuncId) (b : Entry) (l : List Entry) (p : Entry → Bool) (hl : l.length ≤ 1000000) (hg : AskC g b l p) (id q : Nat) : SCalls Tryz.prog 154 [.view 6 (l.map qaaa), .fn (.func g) [] [.ptr id 0]] [(id, .cells 38 (qaaa b))] q (.int .i64 (idxV l p)) [(id, .cells 38 (qaaa b))] :=
 qada (idxf_s g b l p hl hg q) ⟨qacb _, qbjl ⟨qamh (t := 38) (cs := qaaa b) (by simp [geth]) (qaj1 _) (qaz5 b), trivial⟩, trivial⟩ (qafu _ _)
theorem conf_s (g : FuncId) (b : Entry) (l : List Entry) (p : Entry → Bool) (hl : l.length ≤ 1000000) (hg : AskC g b l p) (q : Nat) : SCalls Tryz.prog 146 [.view 6 (l.map qaaa), .fn (.func g) [] [.cp (qaaa b)]] [] q (.bool (decide (0 ≤ idxV l p))) [] := by
 refine qabt ?_ (fun _ => rfl) (fun _ => rfl) rfl q;refine yF (N := 9) Tryz.func146 c_conf ?_;rintro X hP hN hm;have k1 := fun q => idxf_s g b l p hl hg q
 clear hg;change ∀ q, SCalls Tryz.prog _ _ [] q (.int .i64 (idxV l p)) [] at k1
 generalize idxV l p = y at k1;unfold c_conf;repeat' (first | refine yA ?_ | refine qabe (k1 _) ?_ | exact trivial)
 all_goals rfl
def tatV (l : List Entry) (e : Entry) : Int := idxV l fun x => ordE x e == 0
theorem tat_s (k m : Int) (l : List Entry) (e : Entry) (hl : l.length ≤ 1000000) (hs : ∀ x ∈ l, qacd x) (he : qacd e) (q : Nat) : SCalls Tryz.prog 145 [.cp (qbi0 k m l), .agg (qaaa e)] [] q (.int .i64 (tatV l e)) [] := by
 refine qabt ?_ (fun _ => rfl) (fun _ => rfl) rfl q;refine yF (N := 11) Tryz.func145 c_tat ?_;rintro X hP hN hm;have k1 := fun id q => qbmv _ e l (fun x => ordE x e == 0) hl (fun x hx q => at1_s x e (hs x hx) he q) id q
 change ∀ id q, SCalls Tryz.prog _ _ _ q (.int .i64 (tatV l e)) _ at k1
 generalize tatV l e = y at k1;unfold qaaa at k1;unfold c_tat qaaa qbi0;repeat' (first | refine yA ?_ | refine yR (k1 _ _) ?_ | exact trivial)
 all_goals rfl
end
section
def qacg (P : Program) (t : TypeId) (nm : String) : Option (Option (FuncId × Bool)) := match P.info? t with
 | some i => match i.methods.find? (·.name == nm) with
  | some m => if m.path.isEmpty then some m.func else none
  | none => none
 | none => none
def qa04 (P : Program) (t : TypeId) : Option (Option TypeId) := match P.underlying t with
 | some (.pointer e) => some (some e)
 | some (.interface _) => none
 | some _ => some none
 | none => none
variable {P : Program} {g : Nat → Option SObj} {t : TypeId} {x : SV} {nm : String} {f : FuncId}
theorem qame {b : Bool} (h : qacg P t nm = some (some (f, b))) : ∃ i m, P.info? t = some i ∧ i.methods.find? (·.name == nm) = some m ∧ m.path = #[] ∧ m.func = some (f, b) := by
 unfold qacg at h;split at h
 ·rename_i i hi;split at h
  ·rename_i m hm;split at h
   ·rename_i hp;exact ⟨i, m, hi, hm, by simpa using hp, by simpa using h⟩
   ·cases h
  ·cases h
 ·cases h
theorem qajw {e : TypeId} (h : qacg P t nm = some (some (f, true))) (hp : qa04 P t = some (some e)) : Meth P g t x nm f x := fun w A ρ v hobj hx => by
 obtain ⟨i, m, h1, h2, h3, h4⟩ := qame h;refine ⟨v, ?_, hx⟩;have hu : P.underlying t = some (.pointer e) := by
  unfold qa04 at hp;split at hp <;> simp_all
 have hn : P.types.size + Made.depth = (P.types.size + 99) + 1 := rfl;rw [hn];unfold method;simp [typeInfo, h1, h2, h3, h4, follow, receiverAt, run_underlying hu, Place.get]
theorem qac7 (h : qacg P t nm = some (some (f, false))) (hp : qa04 P t = some none) : Meth P g t x nm f x := fun w A ρ v hobj hx => by
 obtain ⟨i, m, h1, h2, h3, h4⟩ := qame h;refine ⟨v, ?_, hx⟩;obtain ⟨d, hu, hd⟩ : ∃ d, P.underlying t = some d ∧ ∀ e, d ≠ .pointer e := by
  unfold qa04 at hp;split at hp
  ·cases hp
  ·cases hp
  ·exact ⟨_, ‹P.underlying t = some _›, fun e he => by subst he; simp_all⟩
  ·cases hp
 have hn : P.types.size + Made.depth = (P.types.size + 99) + 1 := rfl;rw [hn];unfold method;cases d <;> first | exact absurd rfl (hd _) | simp [typeInfo, h1, h2, h3, h4, follow, receiverAt, run_underlying hu, Place.get]
theorem wrap_ok (ts : Array TypeId) (ty : TypeId) (a : Addr) (s m : ByteArray) : Builtin.ssaWrapNilChk_ ts ty #[.pointer (some a), .string s, .string m] = pure (.pointer (some a)) := rfl
theorem qbaw {e u : TypeId} {id off : Nat} {cs : List SV} {c : SV} (h : qacg P t nm = some (some (f, false))) (hp : qa04 P t = some (some e)) (hb : qag8 P e = some false) (hg : g id = some (.cells u cs)) (hc : cs[off]? = some c) : Meth P g t (.ptr id off) nm f c := fun w A ρ v hobj hx => by
 obtain ⟨i, m, h1, h2, h3, h4⟩ := qame h;have hu : P.underlying t = some (.pointer e) := by
  unfold qa04 at hp;split at hp <;> simp_all
 obtain ⟨fp, b, c0, vs, hρ, hbl, ⟨hr, hone⟩, _⟩ := hobj _ _ hg;cases hx with
 | ptr hρ2 =>
  rw [hρ2] at hρ; cases hρ
  obtain ⟨v', h5, h6⟩ := hr.get hc;refine ⟨v', ?_, h6⟩;have hcell : w.cell? ⟨b, off, none⟩ = some v' := by rw [hbl.cell]; simpa using h5
  have hn : P.types.size + Made.depth = (P.types.size + 99) + 1 := rfl;rw [hn];unfold method;simp [typeInfo, h1, h2, h3, h4, follow, receiverAt, run_underlying hu, Place.get, strVal, wrap_ok, asAddr, loadVar, qagt hb w, load, Sem.run, hcell]
end
section
attribute [local simp] qaa6 qaa5 qaak qaas qaal qaar qaa3 qaa4 qaae qabh SOp.run SX.ev putd puts argS upds SOp.touch SSt.keep SSt.skip gets geth puth delh idOf SV.cells? setL qac5 qac6 sbin eq0 eq1 eqL qac2 qaby qab0 qaa2 qaa1 qaac qaa7 qabi qaaj qaad FrzOk qaav qaan qaat qaau qaaf qaam qaa8 qaao qaah qaaw qaag frzS frzH frz frz1 frz0 SlotsM ObjsM ObjM rn ren ren1 ren0 qabk qabw qabz qabj qaa9 qabx qab1 CoL qaax qabr dels adds idsH qabc
theorem qas6 {z : Nat} : ∀ (es : List (List SV)) (k : Nat), (∀ x ∈ es, x.length = z) → (es.take k).flatten = es.flatten.take (k * z)
 | [], k, _ => by simp
 | x :: es, 0, _ => by simp
 | x :: es, k + 1, h => by
  have hx := h x (by simp);have e1 : x.take ((k + 1) * z) = x := List.take_of_length_le (by rw [hx, Nat.succ_mul]; omega);have e2 : (k + 1) * z - z = k * z := by rw [Nat.succ_mul]; omega
  rw [List.take_succ_cons, List.flatten_cons, List.flatten_cons, qas6 es k fun y hy => h y (by simp [hy]), List.take_append, hx, e1, e2]
theorem qa90 {X : Cx} {s : SSt} (id k : Nat) {e z : Nat} {es : List (List SV)} (h : geth s.hp id = some (.row e z es)) (hk : k ≤ es.length) : Wk X s ⟨s.sl, puth s.hp id (.row e z (es.take k)), s.nx⟩ := by
 intro ρ fp a w hs;have hg : ∀ i o, geth (puth s.hp id (.row e z (es.take k))) i = some o → ∃ o', geth s.hp i = some o' := fun i o ho => by
  rw [qacx] at ho;split at ho
  ·rename_i e1; subst e1; exact ⟨_, h⟩
  ·exact ⟨_, ho⟩
 have hav : ∀ j, Av X (puth s.hp id (.row e z (es.take k))) fp j → Av X s.hp fp j := fun j hj => hj.imp (fun h => h) fun ⟨i, o, h1, h2⟩ => by
  obtain ⟨o', h3⟩ := hg i o h1;exact ⟨i, o', h3, h2⟩
 refine ⟨ρ, fp, ⟨⟨fun i o ho => ?_, fun i i' o o' hne ho ho' => ?_, fun i o ho => ?_, hs.sim.h.step, hs.sim.h.keep⟩, hs.sim.tmps, hs.sim.defers, fun u => (hs.sim.slots u).weaken fun j hj _ => hav j hj⟩, hs.fresh, hs.le⟩
 ·rw [qacx] at ho;split at ho
  ·rename_i e1; subst e1; cases ho
   obtain ⟨v, vs, h1, ⟨h2, h3⟩, h4, h5, h6⟩ := hs.sim.h.objs _ _ h;have hf := qas6 es k h4;have hr : Reps w (Av X s.hp fp) ρ (es.take k).flatten (vs.take (k * z)) := by
    rw [hf];refine ⟨by rw [List.length_take, List.length_take, h2.1], fun j x u hx hu => ?_⟩;rw [List.getElem?_take] at hx hu;split at hx
    ·rename_i hj;rw [if_pos hj] at hu;exact h2.2 j x u hx hu
    ·cases hx
   have ho : Ones (vs.take (k * z)) := fun u hu => h3 u (List.mem_of_mem_take hu)
   have hl : (es.take k).length = k := by rw [List.length_take]; omega
   obtain ⟨q1, q2⟩ := h1;have hlv : (vs.take (k * z)).length = k * z := by rw [List.length_take, q1]; exact Nat.min_eq_left (Nat.mul_le_mul_right _ hk)
   rcases q2 with ⟨rfl, hn⟩ | ⟨g, cap, cur, fz, rfl, g2, g3, g4, g5, g6, g7⟩
   ·exact ⟨_, vs.take (k * z), by rw [hl]; exact ⟨hlv, .inl ⟨rfl, by omega⟩⟩, ⟨hr.mono (.refl _ _) (fun j hj _ => hav j hj) fun _ _ h => h, ho⟩, fun x hx => h4 x (List.mem_of_mem_take hx), h5, h6⟩
   ·have hc : cur.toList.take (k * z) = vs.take (k * z) := by rw [← g7, List.take_take, Nat.min_eq_left (Nat.mul_le_mul_right _ hk)]
    have how : RowP w e z (.slice (some ⟨g, 0, none⟩) k cap) (es.take k).length (vs.take (k * z)) := by
     rw [hl]; exact ⟨hlv, .inr ⟨g, cap, cur, fz, rfl, g2, g3, by omega, g5, g6, hc⟩⟩
    exact ⟨_, vs.take (k * z), how, ⟨hr.mono (.refl _ _) (fun j hj _ => hav j hj) fun _ _ h => h, ho⟩, fun x hx => h4 x (List.mem_of_mem_take hx), h5, h6⟩
  ·exact (hs.sim.h.objs i o ho).weaken fun j hj _ => hav j hj
 ·obtain ⟨p, h1⟩ := hg i o ho;obtain ⟨p', h2⟩ := hg i' o' ho';exact hs.sim.h.disj i i' p p' hne h1 h2
 ·obtain ⟨p, h1⟩ := hg i o ho;exact hs.sim.h.turn i p h1
instance : PureF qaaa := ⟨fun _ _ => rfl, fun _ => rfl, qaz5⟩
abbrev qaew := Option (Int × Int)
def hcs : qaew → Nat → List SV
 | none, n => [.own 1 n]
 | some (k, m), n => [.int .i64 k, .int .i64 m, .own 1 n]
def hoff : qaew → Nat
 | none => 0
 | some _ => 2
def hty : qaew → TypeId
 | none => 106
 | some _ => 108
def hobj (c : qaew) (l : List Entry) : Hp := [(0, .cells (hty c) (hcs c l.length)), (1, .row 38 6 (l.map qaaa))]
theorem qan0 (c : qaew) (n : Nat) {σ : Nat → Nat} (h : σ 1 = 1) : (hcs c n).map (Go.Proofs.YtalejfkholifpaaGreat.ren σ) = hcs c n := by
 rcases c with _ | ⟨k, m⟩ <;> simp [hcs, Go.Proofs.YtalejfkholifpaaGreat.ren, ren1, ren0, h]
theorem qae9 (c : qaew) (n : Nat) {σ : Nat → Nat} (h : σ 1 = 1) : CoL (hcs c n) ((hcs c n).map (Go.Proofs.YtalejfkholifpaaGreat.ren σ)) := by rw [qan0 c n h]; exact CoL.refl _
theorem hcs_get (c : qaew) (n : Nat) : (hcs c n)[hoff c]? = some (.own 1 n) := by rcases c with _ | ⟨k, m⟩ <;> rfl
theorem hcs_ok (c : qaew) (n : Nat) : (hcs c n).all ok2 = true := by rcases c with _ | ⟨k, m⟩ <;> rfl
theorem qanz (c : qaew) (l : List Entry) : LtH 2 (hobj c l) := ⟨by decide, qan0 c _ rfl, by decide, qab9 _ _ _, trivial⟩
theorem h_up {f : FuncId} {args : List SV} {r : SV} {c : qaew} {l l' : List Entry} (h : SCalls Tryz.prog f args (hobj c l) 2 r (hobj c l')) (q : Nat) (hq : 2 ≤ q) (ha : args = args.map (Go.Proofs.YtalejfkholifpaaGreat.ren (sg [0, 1] q))) (hr : r = Go.Proofs.YtalejfkholifpaaGreat.ren (sg [0, 1] q) r) (hk : ok2 r = true) : SCalls Tryz.prog f args (hobj c l) q r (hobj c l') :=
 qacp [0, 1] h rfl (by decide) (by intro i hi; simp at hi; omega) ha ⟨⟨_, rfl, rfl, qae9 c _ rfl⟩, ⟨_, rfl, rfl, rfl, by rw [qab9]; exact CoLL.refl _⟩, trivial⟩ (by simp [idsH, hobj]) hr hk ⟨⟨_, rfl, rfl, hcs_ok c _, (qan0 c _ rfl).symm⟩, ⟨_, rfl, rfl, rfl, qaks _ _, (qab9 _ _ _).symm⟩, trivial⟩ (by simp [idsH, hobj]) (by simp [idsH, hobj]; exact ⟨rfl, rfl⟩)
theorem qbm4 {X : Cx} {s : SSt} {c : qaew} {l : List Entry} {t : Nat} {r : SV} (hr : (∃ b, r = .bool b) ∨ (∃ n, r = .int .i64 n) ∨ ∃ e, r = .ifc 38 (.agg (qaaa e))) (hw : Wk X s ⟨[(t, r)], hobj c l, 2⟩) : QFun X [.tmp t] 2 r (hobj c l) .ret s :=
 ⟨_, hw, by rcases hr with ⟨b, rfl⟩ | ⟨n, rfl⟩ | ⟨e, rfl⟩ <;> simp [qafc, resL, resV, one_, gets], ⟨rfl, rfl, trivial⟩, by simp⟩
theorem fin_ghv {X : Cx} {s : SSt} {c : qaew} {l : List Entry} {x : SExit} (hx : x = .ret ∨ x = .normal) (hw : Wk X s ⟨[], hobj c l, 2⟩) : QFun X [] 2 (.tup []) (hobj c l) x s := by
 rcases hx with rfl | rfl <;> exact ⟨_, hw, rfl, ⟨rfl, rfl, trivial⟩, by simp⟩
theorem qan6 (e : Entry) (x : List SV) (h : x.length = 6) : setL x 0 (qaaa e) = qaaa e := by
 match x, h with
 | [_, _, _, _, _, _], _ => rfl
theorem ec_len6 {l : List Entry} {i j : Nat} {e : Entry} (h : j < ((l.map qaaa).set i (qaaa e)).length) : (((l.map qaaa).set i (qaaa e))[j]).length = 6 := by
 rw [List.getElem_set];split
 ·rfl
 ·rw [List.getElem_map]; rfl
theorem rlen_s (c : qaew) (l : List Entry) (q : Nat) (hq : 2 ≤ q) : SCalls Tryz.prog 163 [.own 1 l.length] (hobj c l) q (.int .i64 l.length) (hobj c l) := by
 refine h_up ?_ q hq rfl rfl rfl;refine yG (N := 5) Tryz.func163 qbkh (by repeat' (first | exact trivial | refine And.intro ?_ ?_ | rfl | decide | exact PureR.ren _)) (qanz c l) ?_;rintro X hP hN hm;unfold qbkh hobj;repeat' (first | refine yA ?_ | with_reducible refine yB ?_ ?_ | exact yD | refine yE ?_ | ((refine qbm4 (.inr (.inl ⟨_, rfl⟩)) ?_; simp only [hobj])) | (exact qae9 _ _ rfl) | exact trivial)
 all_goals trace_state
theorem rless_s (c : qaew) (l : List Entry) (hs : ∀ x ∈ l, qacd x) (i j : Nat) (hi : i < l.length) (hj : j < l.length) (q : Nat) (hq : 2 ≤ q) : SCalls Tryz.prog 164 [.own 1 l.length, .int .i64 i, .int .i64 j] (hobj c l) q (.bool (decide (ordE l[i] l[j] < 0))) (hobj c l) := by
 refine h_up ?_ q hq rfl rfl rfl;refine yG (N := 17) Tryz.func164 qa5o (by repeat' (first | exact trivial | refine And.intro ?_ ?_ | rfl | decide | exact PureR.ren _)) (qanz c l) ?_;rintro X hP hN hm;have k1 := fun q => qbjc l[i] l[j] (hs _ (List.getElem_mem hi)) (hs _ (List.getElem_mem hj)) q
 replace hs := Lib.hid hs;unfold qa5o hobj;repeat' (first | ((with_reducible first | refine qaab ?_ | refine qaaz (by rw [hP]; exact mixed) ?_); (try rw [hP]); simp -implicitDefEqProofs [List.getElem?_eq_getElem hi, List.getElem?_eq_getElem hj, qafy, qady, *]) | refine yA ?_ | with_reducible refine yB ?_ ?_ | (refine qabe (k1 _) ?_; simp -implicitDefEqProofs [List.getElem?_eq_getElem hi, List.getElem?_eq_getElem hj, qafy, qady, *]) | exact yD | refine yE ?_ | ((refine qbm4 (.inl ⟨_, rfl⟩) ?_; simp only [hobj])) | (exact qae9 _ _ rfl) | exact trivial)
 all_goals trace_state
theorem rswap_s (c : qaew) (l : List Entry) (i j : Nat) (hi : i < l.length) (hj : j < l.length) (q : Nat) (hq : 2 ≤ q) : SCalls Tryz.prog 165 [.own 1 l.length, .int .i64 i, .int .i64 j] (hobj c l) q (.tup []) (hobj c ((l.set i l[j]).set j l[i])) := by
 refine h_up ?_ q hq rfl rfl rfl;obtain ⟨R, hR⟩ : ∃ R, R = (l.set i l[j]).set j l[i] := ⟨_, rfl⟩
 rw [← hR];have hl : R.length = l.length := by rw [hR]; simp
 have hm2 : R.map qaaa = ((l.map qaaa).set i (qaaa l[j])).set j (qaaa l[i]) := by rw [hR]; simp
 replace hl := Lib.hid hl;replace hm2 := Lib.hid hm2;replace hR := Lib.hid hR;refine yG (N := 20) Tryz.func165 qa5h (by repeat' (first | exact trivial | refine And.intro ?_ ?_ | rfl | decide | exact PureR.ren _)) (qanz c l) ?_;rintro X hP hN hm;unfold qa5h hobj;repeat' (first | ((with_reducible refine qaaz (by rw [hP]; exact mixed) ?_); (try rw [hP]); simp -implicitDefEqProofs [List.getElem?_eq_getElem hi, List.getElem?_eq_getElem hj, qafy, qady, qan6, ec_len6, *]) | refine yA ?_ | with_reducible refine yB ?_ ?_ | exact yD | refine yE ?_ | ((refine fin_ghv (.inr rfl) ?_; simp only [hobj])) | ((rw [hl.out]; exact qae9 _ _ rfl)) | exact trivial)
 all_goals exact hm2.out.symm
theorem qaz0 {X : Cx} {rs : List ResultVar} {m : Nat} {r : SV} {h2 : Hp} {s s1 : SSt} (hw : Wk X s s1) (h : QFun X rs m r h2 .ret s1) : QFun X rs m r h2 .ret s := by
 obtain ⟨s', h1, h2, h3, h4⟩ := h;exact ⟨s', hw.trans h1, h2, h3, h4⟩
instance pureR_snoc {α : Type} (f : α → List SV) [PureF f] (L : List α) (x : α) : PureR (L.map f ++ [f x]) := by
 have e : L.map f ++ [f x] = (L ++ [x]).map f := by simp
 rw [e];exact ⟨fun σ => qab9 f σ _, qaks f _, qahe f _⟩
theorem rpop_s (c : qaew) (L : List Entry) (x : Entry) (hl : L.length + 1 ≤ 1000000) (q : Nat) (hq : 2 ≤ q) : SCalls Tryz.prog 167 [.ptr 0 (hoff c)] (hobj c (L ++ [x])) q (.ifc 38 (.agg (qaaa x))) (hobj c L) := by
 refine h_up ?_ q hq rfl rfl rfl;have hlen : (L ++ [x]).length = L.length + 1 := by simp
 have hrow : (L ++ [x]).map qaaa = L.map qaaa ++ [qaaa x] := by simp
 rw [show hobj c (L ++ [x]) = [(0, .cells (hty c) (hcs c (L.length + 1))), (1, .row 38 6 (L.map qaaa ++ [qaaa x]))] by unfold hobj; rw [hlen, hrow]];have wi : IntKind.i64.wrap (L.length : Int) = L.length := by simp [IntKind.wrap, IntKind.bits, IntKind.signed, Int.bmod]; omega
 have hg : (L.map qaaa ++ [qaaa x])[L.length]? = some (qaaa x) := by rw [List.getElem?_append_right (by simp)]; simp
 have htk : (L.map qaaa ++ [qaaa x]).take L.length = L.map qaaa := by rw [List.take_append_of_le_length (by simp)]; exact List.take_of_length_le (by simp)
 rcases c with _ | ⟨k, m⟩
 all_goals
  refine yF (N := 25) Tryz.func167 qbkg ?_;rintro X hP hN hm;unfold qbkg hcs hty hoff;repeat' (first | ((with_reducible refine qaab ?_); (try rw [hP]); simp -implicitDefEqProofs [wi, hg, qafy, qady, qan6, *]) | ((with_reducible refine qafm ?_ ?_); (first | omega | (unfold maxLen; omega)); simp -implicitDefEqProofs [wi, hg, qafy, qady, qan6, *]) | refine yA ?_ | with_reducible refine yB ?_ ?_ | exact yD | refine yE ?_ | ((refine qaz0 (qa90 1 L.length rfl ?_) ?_; rotate_left; rw [htk]; refine qbm4 (.inr (.inr ⟨_, rfl⟩)) ?_; simp only [hobj, hcs, puth])) | exact trivial)
  all_goals trace_state
def qad1 (c : qaew) (l : List Entry) : AbsI := qaqu 2 fun h => h = hobj c l
theorem qagm (c : qaew) (l : List Entry) {σ : Nat → Nat} (h : σ 1 = 1) : RenH σ (hobj c l) := ⟨qan0 c _ h, qab9 _ _ _, trivial⟩
theorem qahq (c : qaew) (l : List Entry) : ∀ hh, hh = hobj c l → (∃ t cs, geth hh 0 = some (.cells t cs)) ∧ RenH (fun i => if i = 0 then 2 else i) hh := fun hh h => by
 subst h;exact ⟨⟨_, _, rfl⟩, qagm c l rfl⟩
theorem qaqb {X : Cx} {s : SSt} {c : qaew} {l : List Entry} (hs : SubH s.hp (hobj c l)) : Wk X s ⟨s.sl, [(0, .abs (qad1 c l))], s.nx⟩ :=
 qbiy (hh := hobj c l) (R := fun h => h = hobj c l) rfl (by decide) rfl (fun σ h => qagm c l (h 1 (by decide))) (by simp [idsH, hobj]) hs rfl (fun id o' h ho => by simp only [geth, if_neg (Ne.symm h)] at ho; cases ho)
theorem qbjw {X : Cx} {s : SSt} {c : qaew} {l : List Entry} {e : SExit} (he : e = .ret ∨ e = .normal) (hm : X.m = 1) (hw : Wk X s ⟨[], hobj c l, 2⟩) : QFun X [] 1 (.tup []) [(0, .abs (qad1 c l))] e s := by
 have h1 : Wk X s ⟨[], [(0, .abs (qad1 c l))], 2⟩ := hw.trans (qaqb ⟨rfl, rfl, trivial⟩);have h2 : Wk X ⟨[], [(0, .abs (qad1 c l))], 2⟩ ⟨[], [(0, .abs (qad1 c l))], 1⟩ := qabd [] hm trivial ⟨⟨_, rfl, rfl⟩, trivial⟩ rfl (Nat.le_refl _);rcases he with rfl | rfl <;> exact ⟨_, h1.trans h2, rfl, ⟨rfl, trivial⟩, by simp⟩
theorem rpush_s (c : qaew) (l : List Entry) (e : Entry) (hl : l.length < 1000000) : SCalls Tryz.prog 168 [.ptr 0 (hoff c), .ifc 38 (.agg (qaaa e))] [(0, .abs (qad1 c l))] 1 (.tup []) [(0, .abs (qad1 c (l ++ [e])))] := by
 refine yF (N := 20) Tryz.func168 qa5i ?_;rintro X hP hN hm;refine qaf1 (by omega) (by decide) (qahq c l) fun hh h => ?_
 subst h;unfold qa5i hobj;have b1 : l.length + 1 ≤ maxLen := by unfold maxLen; omega
 have b2 : (l.length + 1) * 96 ≤ 140737488355328 := by omega
 rcases c with _ | ⟨k, m⟩
 all_goals
  unfold hcs hty hoff;repeat' (first | ((with_reducible first | refine qaab ?_ | refine qaaz (by rw [hP]; exact mixed) ?_); (try rw [hP]); simp -implicitDefEqProofs [b1, b2, qafy, qady, qan6, *]) | refine yA ?_ | with_reducible refine yB ?_ ?_ | ((with_reducible refine yC fun h => ?_); have h' := h; (try simp at h'); (try subst h')) | (refine qbjw (.inr rfl) hm (qabd [(1, 17)] hm trivial ⟨⟨_, rfl, rfl, ?_⟩, ⟨_, rfl, rfl, rfl, ?_⟩, trivial⟩ rfl (by simp))) | exact trivial)
  all_goals first | (rw [List.length_append]; exact CoL.refl _) | (rw [qab9, List.map_append]; exact CoLL.refl _) | trace_state
end
def qaiq (l : List Entry) (i j : Nat) : Bool := match l[i]?, l[j]? with
 | some a, some b => decide (ordE a b < 0)
 | _, _ => false
def qaen (l : List Entry) (i j : Nat) : List Entry := match l[i]?, l[j]? with
 | some a, some b => (l.set i b).set j a
 | _, _ => l
def upL : Nat → List Entry → Nat → List Entry
 | 0, l, _ => l
 | f + 1, l, j => if (j - 1) / 2 = j ∨ qaiq l j ((j - 1) / 2) = false then l else upL f (qaen l ((j - 1) / 2) j) ((j - 1) / 2)
def sonL (l : List Entry) (i n : Nat) : Nat := if 2 * i + 1 + 1 < n ∧ qaiq l (2 * i + 1 + 1) (2 * i + 1) = true then 2 * i + 1 + 1 else 2 * i + 1
def qafz : Nat → List Entry → Nat → Nat → List Entry × Nat
 | 0, l, i, _ => (l, i)
 | f + 1, l, i, n => if n ≤ 2 * i + 1 ∨ qaiq l (sonL l i n) i = false then (l, i) else qafz f (qaen l i (sonL l i n)) (sonL l i n) n
theorem qa0r {l : List Entry} {i j : Nat} (hi : i < l.length) (hj : j < l.length) : qaiq l i j = decide (ordE l[i] l[j] < 0) := by
 unfold qaiq; rw [List.getElem?_eq_getElem hi, List.getElem?_eq_getElem hj]
theorem qaqg {l : List Entry} {i j : Nat} (hi : i < l.length) (hj : j < l.length) : qaen l i j = (l.set i l[j]).set j l[i] := by
 unfold qaen; rw [List.getElem?_eq_getElem hi, List.getElem?_eq_getElem hj]
theorem qaej (l : List Entry) (i j : Nat) : (qaen l i j).length = l.length := by
 unfold qaen; split <;> simp
theorem qbap {l : List Entry} {i j : Nat} (hi : i < l.length) (hj : j < l.length) : ((l.set i l[j]).set j l[i]).Perm l := List.set_set_perm hi hj
theorem qadn (l : List Entry) (i j : Nat) : (qaen l i j).Perm l := by
 by_cases hi : i < l.length
 ·by_cases hj : j < l.length
  ·rw [qaqg hi hj]; exact qbap hi hj
  ·unfold qaen; rw [List.getElem?_eq_none (by omega : l.length ≤ j)]; split <;> first | exact .refl _ | simp_all
 ·unfold qaen; rw [List.getElem?_eq_none (by omega : l.length ≤ i)]
theorem qajb : ∀ (f : Nat) (l : List Entry) (j : Nat), (upL f l j).Perm l
 | 0, l, j => .refl _
 | f + 1, l, j => by
  rw [upL]; split
  ·exact .refl _
  ·exact (qajb f _ _).trans (qadn _ _ _)
theorem qays : ∀ (f g : Nat) (l : List Entry) (j : Nat), j < f → j < g → upL f l j = upL g l j
 | f + 1, g + 1, l, j, hf, hg => by
  rw [upL, upL];by_cases h : (j - 1) / 2 = j ∨ qaiq l j ((j - 1) / 2) = false
  ·rw [if_pos h, if_pos h]
  ·rw [if_neg h, if_neg h];have : (j - 1) / 2 ≠ j := fun e => h (.inl e)
   exact qays f g _ _ (by omega) (by omega)
theorem qadw : ∀ (f : Nat) (l : List Entry) (i n : Nat), (qafz f l i n).1.Perm l
 | 0, l, i, n => .refl _
 | f + 1, l, i, n => by
  rw [qafz]; split
  ·exact .refl _
  ·exact (qadw f _ _ _).trans (qadn _ _ _)
theorem qam7 (l : List Entry) (i n : Nat) (h : 2 * i + 1 < n) : i < sonL l i n ∧ sonL l i n < n := by
 unfold sonL; split <;> omega
theorem qan7 : ∀ (f g : Nat) (l : List Entry) (i n : Nat), n - i < f → n - i < g → qafz f l i n = qafz g l i n
 | f + 1, g + 1, l, i, n, hf, hg => by
  rw [qafz, qafz];by_cases h : n ≤ 2 * i + 1 ∨ qaiq l (sonL l i n) i = false
  ·rw [if_pos h, if_pos h]
  ·rw [if_neg h, if_neg h];have h1 : 2 * i + 1 < n := Nat.lt_of_not_le fun e => h (.inl e)
   have h2 := qam7 l i n h1;exact qan7 f g _ _ _ (by omega) (by omega)
section
attribute [local simp] qaa6 qaa5 qaak qaas qaal qaar qaa3 qaa4 qaae qabh SOp.run SX.ev putd puts argS upds SOp.touch SSt.keep SSt.skip gets geth puth delh idOf SV.cells? setL qac5 qac6 sbin eq0 eq1 eqL qac2 qaby qab0 qaa2 qaa1 qaac qaa7 qabi qaaj qaad FrzOk qaav qaan qaat qaau qaaf qaam qaa8 qaao qaah qaaw qaag frzS frzH frz frz1 frz0 SlotsM ObjsM ObjM rn ren ren1 ren0 qabk qabw qabz qabj qaa9 qabx qab1 CoL qaax qabr dels adds idsH qabc
section
theorem m_len : qacg Tryz.prog 176 "Len" = some (some (163, false)) := by kernel_rfl
theorem qau5 : qacg Tryz.prog 176 "Less" = some (some (164, false)) := by kernel_rfl
theorem qa0q : qacg Tryz.prog 176 "Swap" = some (some (165, false)) := by kernel_rfl
theorem m_push : qacg Tryz.prog 176 "Push" = some (some (168, true)) := by kernel_rfl
theorem m_pop : qacg Tryz.prog 176 "Pop" = some (some (167, true)) := by kernel_rfl
theorem qbqc : qa04 Tryz.prog 176 = some (some 106) := by kernel_rfl
theorem a_row : qag8 Tryz.prog 106 = some false := by kernel_rfl
attribute [local irreducible] qacg
abbrev hobn (c : qaew) (n : Nat) (l : List Entry) : Hp := [(0, .cells (hty c) (hcs c n)), (1, .row 38 6 (l.map qaaa))]
theorem qaeb {c : qaew} {n : Nat} {l : List Entry} (h : l.length = n) : hobj c l = hobn c n l := by subst h; rfl
theorem qak0 (c : qaew) (n : Nat) (l : List Entry) : LtH 2 (hobn c n l) := ⟨by decide, qan0 c _ rfl, by decide, qab9 _ _ _, trivial⟩
theorem qazo (c : qaew) (n : Nat) (l : List Entry) (hl : l.length = n) (hs : ∀ x ∈ l, qacd x) (i j : Nat) (hi : i < n) (hj : j < n) (q : Nat) (hq : 2 ≤ q) : SCalls Tryz.prog 164 [.own 1 n, .int .i64 i, .int .i64 j] (hobn c n l) q (.bool (qaiq l i j)) (hobn c n l) := by
 subst hl; rw [qa0r hi hj]; exact rless_s c l hs i j hi hj q hq
theorem qasm (c : qaew) (n : Nat) (l : List Entry) (hl : l.length = n) (i j : Nat) (hi : i < n) (hj : j < n) (q : Nat) (hq : 2 ≤ q) : SCalls Tryz.prog 165 [.own 1 n, .int .i64 i, .int .i64 j] (hobn c n l) q (.tup []) (hobn c n (qaen l i j)) := by
 have h := rswap_s c l i j (by omega) (by omega) q hq;rw [← qaqg (by omega) (by omega), qaeb (c := c) (n := n) (l := qaen l i j) (by rw [qaej, hl]), qaeb hl, hl] at h;exact h
theorem qaei {c : qaew} {n : Nat} {nm : String} {f : FuncId} (h : qacg Tryz.prog 176 nm = some (some (f, false))) : Meth Tryz.prog (geth [(0, .cells (hty c) (hcs c n))]) 176 (.ptr 0 (hoff c)) nm f (.own 1 n) := qbaw h qbqc a_row rfl (hcs_get c n)
theorem qbju {X : Cx} {s : SSt} {c : qaew} {n : Nat} {l : List Entry} {x : SExit} (hx : x = .ret ∨ x = .normal) (hw : Wk X s ⟨[], hobn c n l, 2⟩) : QFun X [] 2 (.tup []) (hobn c n l) x s := by
 rcases hx with rfl | rfl <;> exact ⟨_, hw, rfl, ⟨rfl, rfl, trivial⟩, by simp⟩
theorem par_eq (i : Nat) : ((i : Int) - 1).tdiv 2 = (((i - 1) / 2 : Nat) : Int) := by
 cases i with
 | zero => rfl
 | succ i =>
  have e : ((i + 1 : Nat) : Int) - 1 = (i : Int) := by omega
  rw [e, Nat.add_sub_cancel]; rfl
theorem qahb (x : Int) (h1 : -9223372036854775808 ≤ x) (h2 : x ≤ 9223372036854775807) : IntKind.i64.wrap x = x := IntWalk.i64_in _ ⟨h1, h2⟩
theorem up_s (c : qaew) (l : List Entry) (j : Nat) (hj : j < l.length) (hb : l.length ≤ 1000000) (hs : ∀ x ∈ l, qacd x) (q : Nat) (hq : 2 ≤ q) : SCalls Tryz.prog 157 [.ifc 176 (.ptr 0 (hoff c)), .int .i64 j] (hobj c l) q (.tup []) (hobj c (upL (j + 1) l j)) := by
 refine h_up ?_ q hq rfl rfl rfl;obtain ⟨F, hF⟩ : ∃ F, F = upL (j + 1) l j := ⟨_, rfl⟩
 have hFl : F.length = l.length := by rw [hF]; exact (qajb _ _ _).length_eq
 rw [← hF, qaeb hFl, qaeb (c := c) (l := l) rfl];generalize hn : l.length = n at hj hb hFl;replace hF := Lib.hid hF;replace hFl := Lib.hid hFl;replace hs := Lib.hid hs;replace hn := Lib.hid hn;refine yG (N := 23) Tryz.func157 c_hup (by repeat' (first | exact trivial | refine And.intro ?_ ?_ | rfl | decide | exact PureR.ren _)) (qak0 c n l) ?_;rintro X hP hN hm;unfold c_hup;show SWp X (.block 0 (.loop qar6)) _ ⟨[(0, .ifc 176 (.ptr 0 (hoff c))), (1, .int .i64 j)], _, _⟩;refine qabf (qaco (fun s (x : Nat × List Entry) => s.turn [(1, .int .i64 x.1)] [(1, .row 38 6 (x.2.map qaaa))]) (fun x => x.1 < n ∧ x.2.length = n ∧ (∀ e ∈ x.2, qacd e) ∧ F = upL (x.1 + 1) x.2 x.1) (fun x => x.1) (j, l) ?_ ⟨hj, hn.out, hs.out, hF.out⟩ ?_)
 ·repeat' (first | exact yD | refine yE ?_ | with_reducible refine yB ?_ ?_ | exact trivial)
  all_goals exact qae9 _ _ rfl
 rintro J hJ ⟨i, L⟩ ⟨h1, h2, h3, h4⟩;unfold qar6;simp only [zT, puth, Nat.reduceEqDiff, reduceIte, Nat.reduceAdd] at h1 h2 h3 h4 ⊢;rw [upL] at h4;have e1 : ((i : Int) - 1).tdiv 2 = (((i - 1) / 2 : Nat) : Int) := par_eq i;have w1 : IntKind.i64.wrap ((i : Int) - 1) = (i : Int) - 1 := qahb _ (by omega) (by omega);generalize hp : (i - 1) / 2 = p at h4 e1;have w2 : IntKind.i64.wrap (p : Int) = (p : Int) := qahb _ (by omega) (by omega);have hpi : p ≤ i := by omega
 have hpl : p ≠ i → p < i := by omega
 have k1 := fun q hq => qazo c n L h2 h3 i p h1 (by omega) q hq
 have k2 := fun q hq => qasm c n L h2 p i (by omega) h1 q hq
 generalize hx : qaiq L i p = x at h4 k1;have hsl : (qaen L p i).length = n := by rw [qaej, h2]
 have hss : ∀ e ∈ qaen L p i, qacd e := fun e he => h3 e ((qadn L p i).mem_iff.1 he)
 generalize qaen L p i = L2 at h4 k2 hsl hss;replace h2 := Lib.hid h2;replace h3 := Lib.hid h3;replace h4 := Lib.hid h4;replace hsl := Lib.hid hsl;replace hss := Lib.hid hss;have w3 : IntKind.i64.wrap (i : Int) = (i : Int) := qahb _ (by omega) (by omega);by_cases hip : p = i
 ·have hFL : F = L := by have := h4.out; rw [if_pos (.inl hip)] at this; exact this
  subst hFL;repeat' (first | ((with_reducible refine qaab ?_); (try rw [hP]); simp -implicitDefEqProofs [w1, w2, w3, e1, hip, *]) | ((with_reducible refine qabv ?_); (try simp -implicitDefEqProofs [w1, w2, w3, e1, hip, *])) | refine yA ?_ | with_reducible refine yB ?_ ?_ | ((with_reducible refine yC fun h => ?_); have h' := h; (try simp at h'); (try subst h')) | exact yD | refine yE ?_ | ((refine qbju (.inr rfl) ?_)) | (exact qae9 _ _ rfl) | exact trivial)
  all_goals (exfalso; omega)
 ·have hb : ((p : Int) == (i : Int)) = false := by simp; omega
  cases x
  ·have hFL : F = L := by have := h4.out; rw [if_pos (.inr rfl)] at this; exact this
   subst hFL;repeat' (first | ((with_reducible refine qaab ?_); (try rw [hP]); simp -implicitDefEqProofs [w1, w2, e1, hb, *]) | ((with_reducible refine qabv ?_); (try simp -implicitDefEqProofs [w1, w2, e1, hb, *])) | refine yA ?_ | with_reducible refine yB ?_ ?_ | ((with_reducible refine yC fun h => ?_); have h' := h; (try simp at h'); (try subst h')) | (refine qadx [(0, .cells (hty c) (hcs c n))] ⟨rfl, trivial⟩ (qaei qau5) (k1 _ (by simp)) ⟨rfl, rfl, trivial⟩ ⟨rfl, rfl, trivial⟩ [] (by simp) ?_; simp -implicitDefEqProofs [w1, w2, e1, hb, *]) | exact yD | refine yE ?_ | ((refine qbju (.inr rfl) ?_)) | (exact qae9 _ _ rfl) | exact trivial)
  ·have hFL : F = upL i L2 p := by have := h4.out; rw [if_neg (by simp [hip])] at this; exact this
   replace hFL := Lib.hid hFL;repeat' (first | ((with_reducible refine qaab ?_); (try rw [hP]); simp -implicitDefEqProofs [w1, w2, e1, hb, *]) | ((with_reducible refine qaai ?_); (try simp -implicitDefEqProofs [w1, w2, e1, hb, *])) | refine yA ?_ | with_reducible refine yB ?_ ?_ | ((with_reducible refine yC fun h => ?_); have h' := h; (try simp at h'); (try subst h')) | (refine qadx [(0, .cells (hty c) (hcs c n))] ⟨rfl, trivial⟩ (qaei qau5) (k1 _ (by simp)) ⟨rfl, rfl, trivial⟩ ⟨rfl, rfl, trivial⟩ [] (by simp) ?_; simp -implicitDefEqProofs [w1, w2, e1, hb, *]) | (refine qadx [(0, .cells (hty c) (hcs c n))] ⟨rfl, trivial⟩ (qaei qa0q) (k2 _ (by simp)) ⟨rfl, rfl, trivial⟩ ⟨rfl, rfl, trivial⟩ [] (by simp) ?_; simp -implicitDefEqProofs [w1, w2, e1, hb, *]) | exact yD | refine yE ?_ | ((refine qabs hJ (p, L2) ?_ ?_ ?_; (with_reducible refine qabd [] hm ?_ ?_ ?_ ?_) <;> (try simp only [zT, puth, Nat.reduceEqDiff, reduceIte, Nat.reduceAdd]))) | (exact qae9 _ _ rfl) | exact trivial)
   all_goals exact ⟨by omega, hsl.out, hss.out, by rw [hFL.out]; exact qays _ _ _ _ (hpl hip) (Nat.lt_succ_self _)⟩
end
section
attribute [local irreducible] qacg
theorem qbjv {X : Cx} {s : SSt} {c : qaew} {n t : Nat} {l : List Entry} {b : Bool} (hw : Wk X s ⟨[(t, .bool b)], hobn c n l, 2⟩) : QFun X [.tmp t] 2 (.bool b) (hobn c n l) .ret s := ⟨_, hw, by simp [qafc, resL, resV, one_, gets], ⟨rfl, rfl, trivial⟩, by simp⟩
theorem down_s (c : qaew) (l : List Entry) (i0 n : Nat) (hn : n ≤ l.length) (hi0 : i0 ≤ l.length) (hb : l.length ≤ 1000000) (hs : ∀ x ∈ l, qacd x) (q : Nat) (hq : 2 ≤ q) : SCalls Tryz.prog 158 [.ifc 176 (.ptr 0 (hoff c)), .int .i64 i0, .int .i64 n] (hobj c l) q (.bool (decide (i0 < (qafz (n - i0 + 1) l i0 n).2))) (hobj c (qafz (n - i0 + 1) l i0 n).1) := by
 refine h_up ?_ q hq rfl rfl rfl;obtain ⟨F, hF⟩ : ∃ F, F = qafz (n - i0 + 1) l i0 n := ⟨_, rfl⟩
 have hFl : F.1.length = l.length := by rw [hF]; exact (qadw _ _ _ _).length_eq
 rw [← hF, qaeb hFl, qaeb (c := c) (l := l) rfl];generalize hN : l.length = N at hn hb hFl hi0;replace hF := Lib.hid hF;replace hFl := Lib.hid hFl;replace hs := Lib.hid hs;replace hN := Lib.hid hN;refine yG (N := 48) Tryz.func158 qbkq (by repeat' (first | exact trivial | refine And.intro ?_ ?_ | rfl | decide | exact PureR.ren _)) (qak0 c N l) ?_;rintro X hP hNn hm;unfold qbkq;repeat' (first | refine yA ?_ | exact trivial)
 refine qabf (qaco (fun s (x : Nat × List Entry) => s.turn [(7, .int .i64 x.1)] [(1, .row 38 6 (x.2.map qaaa))]) (fun x => x.1 ≤ N ∧ x.2.length = N ∧ (∀ e ∈ x.2, qacd e) ∧ F = qafz (n - x.1 + 1) x.2 x.1 n) (fun x => N - x.1) (i0, l) ?_ ⟨hi0, hN.out, hs.out, hF.out⟩ ?_)
 ·repeat' (first | exact yD | refine yE ?_ | with_reducible refine yB ?_ ?_ | exact trivial)
  all_goals exact qae9 _ _ rfl
 rintro J hJ ⟨i, L⟩ ⟨h1, h2, h3, h4⟩;unfold qaps;simp only [zT, puth, Nat.reduceEqDiff, reduceIte, Nat.reduceAdd] at h1 h2 h3 h4 ⊢;rw [qafz] at h4;have w0 : IntKind.i64.wrap (2 * (i : Int)) = 2 * (i : Int) := qahb _ (by omega) (by omega);have w1 : IntKind.i64.wrap (2 * (i : Int) + 1) = 2 * (i : Int) + 1 := qahb _ (by omega) (by omega);have w2 : IntKind.i64.wrap (2 * (i : Int) + 1 + 1) = 2 * (i : Int) + 1 + 1 := qahb _ (by omega) (by omega);have hneg : ¬ (2 * (i : Int) + 1 < 0) := by omega
 rcases Nat.lt_or_ge (2 * i + 1) n with hj | hj
 ·have hng : ¬ ((n : Int) ≤ 2 * (i : Int) + 1) := by omega
  have hsn := qam7 L i n hj;have hm1 : ((2 * i + 1 : Nat) : Int) = 2 * (i : Int) + 1 := by omega
  have hm2 : ((2 * i + 1 + 1 : Nat) : Int) = 2 * (i : Int) + 1 + 1 := by omega
  have k0 : 2 * i + 1 + 1 < n → ∀ q, 2 ≤ q → SCalls Tryz.prog 164 [.own 1 N, .int .i64 (2 * (i : Int) + 1 + 1), .int .i64 (2 * (i : Int) + 1)] (hobn c N L) q (.bool (qaiq L (2 * i + 1 + 1) (2 * i + 1))) (hobn c N L) := fun h q hq => by
   rw [← hm2, ← hm1];exact qazo c N L h2 h3 (2 * i + 1 + 1) (2 * i + 1) (by omega) (by omega) q hq
  have k1 : ∀ q, 2 ≤ q → _ := fun q hq => qazo c N L h2 h3 (sonL L i n) i (by omega) (by omega) q hq
  have k2 : ∀ q, 2 ≤ q → _ := fun q hq => qasm c N L h2 i (sonL L i n) (by omega) (by omega) q hq
  have hsl : (qaen L i (sonL L i n)).length = N := by rw [qaej, h2]
  have hss : ∀ e ∈ qaen L i (sonL L i n), qacd e := fun e he => h3 e ((qadn _ _ _).mem_iff.1 he)
  generalize qaen L i (sonL L i n) = L2 at h4 k2 hsl hss;have hcase : (2 * i + 1 + 1 < n ∧ qaiq L (2 * i + 1 + 1) (2 * i + 1) = true ∧ sonL L i n = 2 * i + 1 + 1) ∨ (2 * i + 1 + 1 < n ∧ qaiq L (2 * i + 1 + 1) (2 * i + 1) = false ∧ sonL L i n = 2 * i + 1) ∨ (¬ 2 * i + 1 + 1 < n ∧ sonL L i n = 2 * i + 1) := by
   unfold sonL;by_cases hA : 2 * i + 1 + 1 < n
   ·cases hx : qaiq L (2 * i + 1 + 1) (2 * i + 1)
    ·exact .inr (.inl ⟨hA, rfl, by rw [if_neg (by simp)]⟩)
    ·exact .inl ⟨hA, rfl, by rw [if_pos ⟨hA, rfl⟩]⟩
   ·exact .inr (.inr ⟨hA, by rw [if_neg fun h => hA h.1]⟩)
  have h5 : F = if qaiq L (sonL L i n) i = false then (L, i) else qafz (n - sonL L i n + 1) L2 (sonL L i n) n := by
   rw [h4];by_cases hy : qaiq L (sonL L i n) i = false
   ·rw [if_pos (.inr hy), if_pos hy]
   ·rw [if_neg (fun h => h.elim (by omega) hy), if_neg hy]; exact qan7 _ _ _ _ _ (by omega) (by omega)
  generalize hy : qaiq L (sonL L i n) i = y at h5 k1;replace h2 := Lib.hid h2;replace h3 := Lib.hid h3;replace hsl := Lib.hid hsl;replace hss := Lib.hid hss;clear h4 hy;have fin1 : y = false → F = (L, i) := fun e => by rw [h5, if_pos e]
  have fin2 : y = true → F = qafz (n - sonL L i n + 1) L2 (sonL L i n) n := fun e => by rw [h5, e, if_neg (by decide)]
  clear h5;rcases hcase with ⟨hA, hx, hs0⟩ | ⟨hA, hx, hs0⟩ | ⟨hA, hs0⟩
  all_goals
   rw [hs0] at k1 k2;first | (replace k0 := k0 hA; rw [hx] at k0) | clear k0
   first | (have hB : 2 * (i : Int) + 1 + 1 < n := by omega) | (have hB : ¬ (2 * (i : Int) + 1 + 1 < n) := by omega)
   first | rw [hm2] at k1 k2 | rw [hm1] at k1 k2
   cases y
   ·obtain rfl := fin1 rfl;clear fin2;repeat' (first | ((with_reducible refine qaab ?_); (try rw [hP]); simp -implicitDefEqProofs [w0, w1, w2, hng, hneg, *]) | ((with_reducible first | refine qaai ?_ | refine qabv ?_); (try simp -implicitDefEqProofs [w0, w1, w2, hng, hneg, *])) | refine yA ?_ | with_reducible refine yB ?_ ?_ | ((with_reducible refine yC fun h => ?_); have h' := h; (try simp at h'); (try subst h')) | (refine qadx [(0, .cells (hty c) (hcs c N))] ⟨rfl, trivial⟩ (qaei qau5) (k0 _ (by simp)) ⟨rfl, rfl, trivial⟩ ⟨rfl, rfl, trivial⟩ [] (by simp) ?_; simp -implicitDefEqProofs [w0, w1, w2, hng, hneg, *]) | (refine qadx [(0, .cells (hty c) (hcs c N))] ⟨rfl, trivial⟩ (qaei qau5) (k1 _ (by simp)) ⟨rfl, rfl, trivial⟩ ⟨rfl, rfl, trivial⟩ [] (by simp) ?_; simp -implicitDefEqProofs [w0, w1, w2, hng, hneg, *]) | exact yD | refine yE ?_ | ((refine qbjv ?_)) | (exact qae9 _ _ rfl) | exact trivial)
   ·replace fin2 := Lib.hid (fin2 rfl);clear fin1;repeat' (first | ((with_reducible refine qaab ?_); (try rw [hP]); simp -implicitDefEqProofs [w0, w1, w2, hng, hneg, *]) | ((with_reducible refine qaai ?_); (try simp -implicitDefEqProofs [w0, w1, w2, hng, hneg, *])) | refine yA ?_ | with_reducible refine yB ?_ ?_ | ((with_reducible refine yC fun h => ?_); have h' := h; (try simp at h'); (try subst h')) | (refine qadx [(0, .cells (hty c) (hcs c N))] ⟨rfl, trivial⟩ (qaei qau5) (k0 _ (by simp)) ⟨rfl, rfl, trivial⟩ ⟨rfl, rfl, trivial⟩ [] (by simp) ?_; simp -implicitDefEqProofs [w0, w1, w2, hng, hneg, *]) | (refine qadx [(0, .cells (hty c) (hcs c N))] ⟨rfl, trivial⟩ (qaei qau5) (k1 _ (by simp)) ⟨rfl, rfl, trivial⟩ ⟨rfl, rfl, trivial⟩ [] (by simp) ?_; simp -implicitDefEqProofs [w0, w1, w2, hng, hneg, *]) | (refine qadx [(0, .cells (hty c) (hcs c N))] ⟨rfl, trivial⟩ (qaei qa0q) (k2 _ (by simp)) ⟨rfl, rfl, trivial⟩ ⟨rfl, rfl, trivial⟩ [] (by simp) ?_; simp -implicitDefEqProofs [w0, w1, w2, hng, hneg, *]) | exact yD | refine yE ?_ | ((refine qabs hJ (sonL L i n, L2) ?_ ?_ ?_; (with_reducible refine qabd [] hm ?_ ?_ ?_ ?_) <;> (try simp only [zT, puth, Nat.reduceEqDiff, reduceIte, Nat.reduceAdd]))) | (exact qae9 _ _ rfl) | exact trivial)
    all_goals exact ⟨by omega, hsl.out, hss.out, fin2.out⟩
 ·have hge : ((n : Int) ≤ 2 * (i : Int) + 1) := by omega
  obtain rfl : F = (L, i) := by rw [h4, if_pos (.inl hj)]
  clear h4;repeat' (first | ((with_reducible refine qaab ?_); (try rw [hP]); simp -implicitDefEqProofs [w0, w1, w2, hge, *]) | ((with_reducible refine qabv ?_); (try simp -implicitDefEqProofs [w0, w1, w2, hge, *])) | refine yA ?_ | with_reducible refine yB ?_ ?_ | ((with_reducible refine yC fun h => ?_); have h' := h; (try simp at h'); (try subst h')) | exact yD | refine yE ?_ | ((refine qbjv ?_)) | (exact qae9 _ _ rfl) | exact trivial)
end
section
attribute [local irreducible] qacg
def popL (l : List Entry) : List Entry := (qafz (l.length - 1 - 0 + 1) (qaen l 0 (l.length - 1)) 0 (l.length - 1)).1
def remL (l : List Entry) (i : Nat) : List Entry := if l.length - 1 = i then l else
 if i < (qafz (l.length - 1 - i + 1) (qaen l i (l.length - 1)) i (l.length - 1)).2 then (qafz (l.length - 1 - i + 1) (qaen l i (l.length - 1)) i (l.length - 1)).1
 else upL (i + 1) (qafz (l.length - 1 - i + 1) (qaen l i (l.length - 1)) i (l.length - 1)).1 i
theorem qadk (l : List Entry) : (popL l).Perm l := (qadw _ _ _ _).trans (qadn _ _ _)
theorem qafo (l : List Entry) (i : Nat) : (remL l i).Perm l := by
 unfold remL;split
 ·exact .refl _
 ·split
  ·exact (qadw _ _ _ _).trans (qadn _ _ _)
  ·exact (qajb _ _ _).trans ((qadw _ _ _ _).trans (qadn _ _ _))
theorem qas7 {X : Cx} {s : SSt} {c : qaew} {n t : Nat} {l : List Entry} {e : Entry} (hw : Wk X s ⟨[(t, .ifc 38 (.agg (qaaa e)))], hobn c n l, 2⟩) : QFun X [.tmp t] 2 (.ifc 38 (.agg (qaaa e))) (hobn c n l) .ret s := ⟨_, hw, by simp [qafc, resL, resV, one_, gets], ⟨rfl, rfl, trivial⟩, by simp⟩
theorem qblt (c : qaew) (n : Nat) (l : List Entry) (hl : l.length = n) (q : Nat) (hq : 2 ≤ q) : SCalls Tryz.prog 163 [.own 1 n] (hobn c n l) q (.int .i64 n) (hobn c n l) := by subst hl; exact rlen_s c l q hq
theorem rpop_n (c : qaew) (n : Nat) (l L : List Entry) (x : Entry) (h : l = L ++ [x]) (hl : L.length = n) (hb : n + 1 ≤ 1000000) (q : Nat) (hq : 2 ≤ q) : SCalls Tryz.prog 167 [.ptr 0 (hoff c)] (hobn c (n + 1) l) q (.ifc 38 (.agg (qaaa x))) (hobn c n L) := by
 subst h hl;have := rpop_s c L x hb q hq;rw [qaeb (c := c) (n := L.length + 1) (l := L ++ [x]) (by simp)] at this;exact this
theorem up_n (c : qaew) (n : Nat) (l : List Entry) (hl : l.length = n) (j : Nat) (hj : j < n) (hb : n ≤ 1000000) (hs : ∀ x ∈ l, qacd x) (q : Nat) (hq : 2 ≤ q) : SCalls Tryz.prog 157 [.ifc 176 (.ptr 0 (hoff c)), .int .i64 j] (hobn c n l) q (.tup []) (hobn c n (upL (j + 1) l j)) := by
 have := up_s c l j (by omega) (by omega) hs q hq;rw [qaeb hl, qaeb (c := c) (n := n) (l := upL (j + 1) l j) (by rw [(qajb _ _ _).length_eq, hl])] at this;exact this
theorem down_n (c : qaew) (N : Nat) (l : List Entry) (hl : l.length = N) (i n : Nat) (hn : n ≤ N) (hi : i ≤ N) (hb : N ≤ 1000000) (hs : ∀ x ∈ l, qacd x) (q : Nat) (hq : 2 ≤ q) : SCalls Tryz.prog 158 [.ifc 176 (.ptr 0 (hoff c)), .int .i64 i, .int .i64 n] (hobn c N l) q (.bool (decide (i < (qafz (n - i + 1) l i n).2))) (hobn c N (qafz (n - i + 1) l i n).1) := by
 have := down_s c l i n (by omega) (by omega) (by omega) hs q hq;rw [qaeb hl, qaeb (c := c) (n := N) (l := (qafz (n - i + 1) l i n).1) (by rw [(qadw _ _ _ _).length_eq, hl])] at this;exact this
theorem hpop_s (c : qaew) (l L : List Entry) (x : Entry) (h : popL l = L ++ [x]) (hb : l.length ≤ 1000000) (hs : ∀ x ∈ l, qacd x) (q : Nat) (hq : 2 ≤ q) : SCalls Tryz.prog 152 [.ifc 176 (.ptr 0 (hoff c))] (hobj c l) q (.ifc 38 (.agg (qaaa x))) (hobj c L) := by
 refine h_up ?_ q hq rfl rfl rfl;have hl : l.length = L.length + 1 := by rw [← (qadk l).length_eq, h]; simp
 unfold popL at h;generalize hn : L.length = n at hl;rw [hl, Nat.add_sub_cancel] at h;rw [qaeb hl, qaeb hn];have k1 := fun q hq => qblt c (n + 1) l hl q hq
 have k2 := fun q hq => qasm c (n + 1) l hl 0 n (by omega) (by omega) q hq
 have hsl : (qaen l 0 n).length = n + 1 := by rw [qaej, hl]
 have hss : ∀ e ∈ qaen l 0 n, qacd e := fun e he => hs e ((qadn _ _ _).mem_iff.1 he)
 have k3 := fun q hq => down_n c (n + 1) (qaen l 0 n) hsl 0 n (by omega) (by omega) (by omega) hss q hq
 rw [h] at k3;have k4 := fun q hq => rpop_n c n (L ++ [x]) L x rfl hn (by omega) q hq
 generalize decide (0 < (qafz (n - 0 + 1) (qaen l 0 n) 0 n).2) = y at k3;generalize qaen l 0 n = l1 at k2 k3;generalize L ++ [x] = l2 at k3 k4;have w1 : IntKind.i64.wrap (n : Int) = n := qahb _ (by omega) (by omega);clear h hs hss hsl;replace hl := Lib.hid hl;replace hn := Lib.hid hn;refine yG (N := 15) Tryz.func152 c_hpop (by repeat' (first | exact trivial | refine And.intro ?_ ?_ | rfl | decide | exact PureR.ren _)) (qak0 c (n + 1) l) ?_;rintro X hP hN hm;unfold c_hpop;repeat' (first | ((with_reducible refine qaab ?_); (try rw [hP]); simp -implicitDefEqProofs [w1, *]) | refine yA ?_ | with_reducible refine yB ?_ ?_ | (refine qadx [(0, .cells (hty c) (hcs c (n + 1)))] ⟨rfl, trivial⟩ (qaei m_len) (k1 _ (by simp)) ⟨rfl, rfl, trivial⟩ ⟨rfl, rfl, trivial⟩ [] (by simp) ?_; simp -implicitDefEqProofs [w1, *]) | (refine qadx [(0, .cells (hty c) (hcs c (n + 1)))] ⟨rfl, trivial⟩ (qaei qa0q) (k2 _ (by simp)) ⟨rfl, rfl, trivial⟩ ⟨rfl, rfl, trivial⟩ [] (by simp) ?_; simp -implicitDefEqProofs [w1, *]) | (refine qafg (k3 _ (by simp)) ⟨rfl, rfl, trivial⟩ ⟨rfl, rfl, trivial⟩ [] (by simp) ?_; simp -implicitDefEqProofs [w1, *]) | (refine qadx [] trivial (qajw m_pop qbqc) (k4 _ (by simp)) ⟨rfl, rfl, trivial⟩ ⟨rfl, rfl, trivial⟩ [] (by simp) ?_; simp -implicitDefEqProofs [w1, *]) | exact yD | refine yE ?_ | ((refine qas7 ?_)) | (exact qae9 _ _ rfl) | exact trivial)
theorem hrem_s (c : qaew) (l L : List Entry) (i : Nat) (hi : i < l.length) (x : Entry) (h : remL l i = L ++ [x]) (hb : l.length ≤ 1000000) (hs : ∀ x ∈ l, qacd x) (q : Nat) (hq : 2 ≤ q) : SCalls Tryz.prog 153 [.ifc 176 (.ptr 0 (hoff c)), .int .i64 i] (hobj c l) q (.ifc 38 (.agg (qaaa x))) (hobj c L) := by
 refine h_up ?_ q hq rfl rfl rfl;have hl : l.length = L.length + 1 := by rw [← (qafo l i).length_eq, h]; simp
 unfold remL at h;generalize hn : L.length = n at hl;rw [hl, Nat.add_sub_cancel] at h;rw [qaeb hl, qaeb hn];have w1 : IntKind.i64.wrap (n : Int) = n := qahb _ (by omega) (by omega);have k1 := fun q hq => qblt c (n + 1) l hl q hq
 have k4 := fun q hq => rpop_n c n (L ++ [x]) L x rfl hn (by omega) q hq
 by_cases hni : n = i
 ·rw [if_pos hni] at h;subst hni;rw [← h] at k4;clear h hs;replace hl := Lib.hid hl;replace hn := Lib.hid hn;refine yG (N := 26) Tryz.func153 qayf (by repeat' (first | exact trivial | refine And.intro ?_ ?_ | rfl | decide | exact PureR.ren _)) (qak0 c (n + 1) l) ?_;rintro X hP hN hm;unfold qayf;repeat' (first | ((with_reducible refine qaab ?_); (try rw [hP]); simp -implicitDefEqProofs [w1, *]) | ((with_reducible refine qaai ?_); (try simp -implicitDefEqProofs [w1, *])) | refine yA ?_ | with_reducible refine yB ?_ ?_ | ((with_reducible refine yC fun h => ?_); have h' := h; (try simp at h'); (try subst h')) | (refine qadx [(0, .cells (hty c) (hcs c (n + 1)))] ⟨rfl, trivial⟩ (qaei m_len) (k1 _ (by simp)) ⟨rfl, rfl, trivial⟩ ⟨rfl, rfl, trivial⟩ [] (by simp) ?_; simp -implicitDefEqProofs [w1, *]) | (refine qadx [] trivial (qajw m_pop qbqc) (k4 _ (by simp)) ⟨rfl, rfl, trivial⟩ ⟨rfl, rfl, trivial⟩ [] (by simp) ?_; simp -implicitDefEqProofs [w1, *]) | exact yD | refine yE ?_ | ((refine qas7 ?_)) | (exact qae9 _ _ rfl) | exact trivial)
 ·rw [if_neg hni] at h;have k2 := fun q hq => qasm c (n + 1) l hl i n (by omega) (by omega) q hq
  have hsl : (qaen l i n).length = n + 1 := by rw [qaej, hl]
  have hss : ∀ e ∈ qaen l i n, qacd e := fun e he => hs e ((qadn _ _ _).mem_iff.1 he)
  have k3 := fun q hq => down_n c (n + 1) (qaen l i n) hsl i n (by omega) (by omega) (by omega) hss q hq
  have hdl : (qafz (n - i + 1) (qaen l i n) i n).1.length = n + 1 := by rw [(qadw _ _ _ _).length_eq, hsl]
  have hds : ∀ e ∈ (qafz (n - i + 1) (qaen l i n) i n).1, qacd e := fun e he => hss e ((qadw _ _ _ _).mem_iff.1 he)
  generalize qaen l i n = l1 at k2 k3 h hdl hds;generalize qafz (n - i + 1) l1 i n = d at k3 h hdl hds;have k5 := fun q hq => up_n c (n + 1) d.1 hdl i (by omega) (by omega) hds q hq
  have hb1 : ((n : Int) == (i : Int)) = false := by simp; omega
  generalize d.1 = l2 at k3 k5 h;clear hs hsl hss hdl hds;replace hl := Lib.hid hl;replace hn := Lib.hid hn;by_cases hy : i < d.2
  ·rw [if_pos hy] at h;rw [decide_eq_true hy] at k3;rw [← h] at k4;clear k5 hy h;refine yG (N := 26) Tryz.func153 qayf (by repeat' (first | exact trivial | refine And.intro ?_ ?_ | rfl | decide | exact PureR.ren _)) (qak0 c (n + 1) l) ?_;rintro X hP hN hm;unfold qayf;repeat' (first | ((with_reducible refine qaab ?_); (try rw [hP]); simp -implicitDefEqProofs [w1, hb1, hni, *]) | ((with_reducible refine qaai ?_); (try simp -implicitDefEqProofs [w1, hb1, hni, *])) | refine yA ?_ | with_reducible refine yB ?_ ?_ | ((with_reducible refine yC fun h => ?_); have h' := h; (try simp at h'); (try subst h')) | (refine qadx [(0, .cells (hty c) (hcs c (n + 1)))] ⟨rfl, trivial⟩ (qaei m_len) (k1 _ (by simp)) ⟨rfl, rfl, trivial⟩ ⟨rfl, rfl, trivial⟩ [] (by simp) ?_; simp -implicitDefEqProofs [w1, hb1, hni, *]) | (refine qadx [(0, .cells (hty c) (hcs c (n + 1)))] ⟨rfl, trivial⟩ (qaei qa0q) (k2 _ (by simp)) ⟨rfl, rfl, trivial⟩ ⟨rfl, rfl, trivial⟩ [] (by simp) ?_; simp -implicitDefEqProofs [w1, hb1, hni, *]) | (refine qafg (k3 _ (by simp)) ⟨rfl, rfl, trivial⟩ ⟨rfl, rfl, trivial⟩ [] (by simp) ?_; simp -implicitDefEqProofs [w1, hb1, hni, *]) | (refine qadx [] trivial (qajw m_pop qbqc) (k4 _ (by simp)) ⟨rfl, rfl, trivial⟩ ⟨rfl, rfl, trivial⟩ [] (by simp) ?_; simp -implicitDefEqProofs [w1, hb1, hni, *]) | exact yD | refine yE ?_ | ((refine qas7 ?_)) | (exact qae9 _ _ rfl) | exact trivial)
   all_goals (exfalso; omega)
  ·rw [if_neg hy] at h;rw [decide_eq_false hy] at k3;rw [h] at k5;generalize L ++ [x] = l3 at k4 k5;clear h hy;refine yG (N := 26) Tryz.func153 qayf (by repeat' (first | exact trivial | refine And.intro ?_ ?_ | rfl | decide | exact PureR.ren _)) (qak0 c (n + 1) l) ?_;rintro X hP hN hm;unfold qayf;repeat' (first | ((with_reducible refine qaab ?_); (try rw [hP]); simp -implicitDefEqProofs [w1, hb1, hni, *]) | ((with_reducible refine qaai ?_); (try simp -implicitDefEqProofs [w1, hb1, hni, *])) | refine yA ?_ | with_reducible refine yB ?_ ?_ | ((with_reducible refine yC fun h => ?_); have h' := h; (try simp at h'); (try subst h')) | (refine qadx [(0, .cells (hty c) (hcs c (n + 1)))] ⟨rfl, trivial⟩ (qaei m_len) (k1 _ (by simp)) ⟨rfl, rfl, trivial⟩ ⟨rfl, rfl, trivial⟩ [] (by simp) ?_; simp -implicitDefEqProofs [w1, hb1, hni, *]) | (refine qadx [(0, .cells (hty c) (hcs c (n + 1)))] ⟨rfl, trivial⟩ (qaei qa0q) (k2 _ (by simp)) ⟨rfl, rfl, trivial⟩ ⟨rfl, rfl, trivial⟩ [] (by simp) ?_; simp -implicitDefEqProofs [w1, hb1, hni, *]) | (refine qafg (k3 _ (by simp)) ⟨rfl, rfl, trivial⟩ ⟨rfl, rfl, trivial⟩ [] (by simp) ?_; simp -implicitDefEqProofs [w1, hb1, hni, *]) | (refine qafg (k5 _ (by simp)) ⟨rfl, rfl, trivial⟩ ⟨rfl, rfl, trivial⟩ [] (by simp) ?_; simp -implicitDefEqProofs [w1, hb1, hni, *]) | (refine qadx [] trivial (qajw m_pop qbqc) (k4 _ (by simp)) ⟨rfl, rfl, trivial⟩ ⟨rfl, rfl, trivial⟩ [] (by simp) ?_; simp -implicitDefEqProofs [w1, hb1, hni, *]) | exact yD | refine yE ?_ | ((refine qas7 ?_)) | (exact qae9 _ _ rfl) | exact trivial)
   all_goals (exfalso; omega)
end
section
attribute [local irreducible] qacg
def qaz2 (l : List Entry) (e : Entry) : List Entry := upL (l.length + 1) (l ++ [e]) l.length
theorem qafd (l : List Entry) (e : Entry) : (qaz2 l e).Perm (l ++ [e]) := qajb _ _ _
theorem qakq {P : Program} {f : FuncId} {args : List SV} {I1 I2 : AbsI} {r : SV} (h : SCalls P f args [(0, .abs I1)] 1 r [(0, .abs I2)]) (ha : ∀ σ : Nat → Nat, σ 0 = 0 → args.map (Go.Proofs.YtalejfkholifpaaGreat.ren σ) = args) (hr : ∀ σ : Nat → Nat, σ 0 = 0 → Go.Proofs.YtalejfkholifpaaGreat.ren σ r = r) (hk : ok2 r = true) (q : Nat) (hq : 0 < q) : SCalls P f args [(0, .abs I1)] q r [(0, .abs I2)] := by
 have e0 : sg [0] q 0 = 0 := rfl;exact qacp [0] h rfl (by simp) (by simp; omega) (ha _ e0).symm ⟨⟨.abs I1, by rw [e0]; simp [geth], rfl⟩, trivial⟩ (by simp [idsH]) (hr _ e0).symm hk ⟨⟨.abs I2, by rw [e0]; simp [geth], rfl⟩, trivial⟩ (by simp [idsH]) (by simp [idsH, e0])
theorem hpush_s (c : qaew) (l : List Entry) (e : Entry) (hl : l.length < 1000000) (hs : ∀ x ∈ l, qacd x) (he : qacd e) : SCalls Tryz.prog 149 [.ifc 176 (.ptr 0 (hoff c)), .ifc 38 (.agg (qaaa e))] [(0, .abs (qad1 c l))] 1 (.tup []) [(0, .abs (qad1 c (qaz2 l e)))] := by
 have k1 := fun q hq => qakq (rpush_s c l e hl) (fun σ h => by simp [Go.Proofs.YtalejfkholifpaaGreat.ren, ren1, ren0, h, renA, renB, qaaa, nums]) (fun σ h => rfl) rfl q hq
 have hn : (l ++ [e]).length = l.length + 1 := by simp
 have hss : ∀ x ∈ l ++ [e], qacd x := fun x hx => by
  rcases List.mem_append.1 hx with h | h
  ·exact hs x h
  ·rw [List.mem_singleton.1 h]; exact he
 have k2 := fun q hq => qblt c (l.length + 1) (l ++ [e]) hn q hq
 have k3 := fun q hq => up_n c (l.length + 1) (l ++ [e]) hn l.length (by omega) (by omega) hss q hq
 have w1 : IntKind.i64.wrap (l.length : Int) = l.length := qahb _ (by omega) (by omega);have hpl : (qaz2 l e).length = l.length + 1 := by rw [(qafd l e).length_eq, hn]
 rw [show upL (l.length + 1) (l ++ [e]) l.length = qaz2 l e from rfl] at k3;generalize qaz2 l e = L2 at k3 hpl;generalize l.length = n at k2 k3 w1 hpl hn;generalize l ++ [e] = L1 at k1 k2 k3 hn;refine yF (N := 12) Tryz.func149 qbko ?_;rintro X hP hN hm;unfold qbko;repeat' (first | ((with_reducible refine qadg (c := .reg false qapp []) ?_)) | refine yA ?_ | refine qadx [] trivial (qajw m_push qbqc) (k1 _ (by simp)) ⟨rfl, trivial⟩ ⟨rfl, trivial⟩ [] (by simp) ?_ | exact trivial)
 constructor;refine qad8 (s' := ⟨[(0, .ifc 176 (.ptr 0 (hoff c)))], [(0, .abs (qad1 c L1))], 1⟩) (qabd [] hm ⟨Co.refl _, trivial⟩ ⟨⟨_, rfl, rfl⟩, trivial⟩ rfl (Nat.le_refl _)) ?_;refine qaf1 (by omega) (by decide) (qahq c L1) fun hh h => ?_
 subst h;rw [qaeb hn];replace hn := Lib.hid hn;replace hpl := Lib.hid hpl;repeat' (first | ((with_reducible refine qaab ?_); (try rw [hP]); simp -implicitDefEqProofs [w1, *]) | with_reducible refine yB ?_ ?_ | (refine qadx [(0, .cells (hty c) (hcs c (n + 1)))] ⟨rfl, trivial⟩ (qaei m_len) (k2 _ (by simp)) ⟨rfl, rfl, trivial⟩ ⟨rfl, rfl, trivial⟩ [] (by simp) ?_; simp -implicitDefEqProofs [w1, *]) | (refine qafg (k3 _ (by simp)) ⟨rfl, rfl, trivial⟩ ⟨rfl, rfl, trivial⟩ [] (by simp) ?_; simp -implicitDefEqProofs [w1, *]) | exact yD | refine yE ?_ | ((refine qbjw (.inr rfl) hm ?_; rw [qaeb hpl.out])) | (exact qae9 _ _ rfl) | exact trivial)
 all_goals trace_state
end
end
def leE (a b : Entry) : Prop := ordE a b ≤ 0
theorem qast (a b : Entry) : ordE a b = if cmpI a.prio b.prio ≠ 0 then cmpI a.prio b.prio else if cmpL a.keys b.keys ≠ 0 then cmpL a.keys b.keys else cmpL a.masks b.masks := by
 unfold ordE;simp only [orL];split
 ·rfl
 ·split
  ·rfl
  ·split <;> omega
theorem qbaq (a b : Entry) : ordE b a = - ordE a b := by
 rw [qast, qast];have h1 := qatd a.prio b.prio;have h2 := qadd a.keys b.keys;have h3 := qadd a.masks b.masks;split <;> (try split) <;> (try split) <;> (try split) <;> omega
theorem qadq (a b : Entry) : ordE a b = 0 ↔ a.prio = b.prio ∧ a.keys = b.keys ∧ a.masks = b.masks := by
 rw [qast];have h1 := @qagr a.prio b.prio;have h2 := qad6 a.keys b.keys;have h3 := qad6 a.masks b.masks;constructor
 ·intro h;split at h
  ·omega
  ·split at h
   ·omega
   ·exact ⟨by omega, h2.1 (by omega), h3.1 h⟩
 ·rintro ⟨e1, e2, e3⟩;rw [if_neg (by omega), if_neg (by have := h2.2 e2; omega)];exact h3.2 e3
theorem qanw (a b : Entry) : leE a b ↔ a.prio < b.prio ∨ (a.prio = b.prio ∧ (cmpL a.keys b.keys < 0 ∨ (a.keys = b.keys ∧ cmpL a.masks b.masks ≤ 0))) := by
 unfold leE;rw [qast];have h1 := @qagr a.prio b.prio;have h1' := @qamr a.prio b.prio;have h2 := qad6 a.keys b.keys;constructor
 ·intro h;split at h
  ·exact .inl (by omega)
  ·refine .inr ⟨by omega, ?_⟩;split at h
   ·exact .inl (by omega)
   ·exact .inr ⟨h2.1 (by omega), h⟩
 ·rintro (h | ⟨h, h3 | ⟨h3, h4⟩⟩)
  ·rw [if_pos (by omega)]; omega
  ·rw [if_neg (by omega), if_pos (by omega)]; omega
  ·rw [if_neg (by omega), if_neg (by have := h2.2 h3; omega)]; exact h4
theorem qahn {a b c : Entry} (h1 : leE a b) (h2 : leE b c) : leE a c := by
 rw [qanw] at *;rcases h1 with h1 | ⟨e1, h1 | ⟨f1, h1⟩⟩ <;> rcases h2 with h2 | ⟨e2, h2 | ⟨f2, h2⟩⟩
 ·exact .inl (by omega)
 ·exact .inl (by omega)
 ·exact .inl (by omega)
 ·exact .inl (by omega)
 ·exact .inr ⟨by omega, .inl (qatc h1 (by omega))⟩
 ·exact .inr ⟨by omega, .inl (by rw [← f2]; exact h1)⟩
 ·exact .inl (by omega)
 ·exact .inr ⟨by omega, .inl (by rw [f1]; exact h2)⟩
 ·exact .inr ⟨by omega, .inr ⟨f1.trans f2, qaga _ _ _ h1 h2⟩⟩
theorem qa0u {a b : Entry} (h : ¬ ordE a b < 0) : leE b a := by
 unfold leE; rw [qbaq a b]; omega
theorem qba1 {a b : Entry} (h : ordE a b < 0) : leE a b := by unfold leE; omega
theorem qaq3 (a : Entry) : leE a a := by unfold leE; rw [(qadq a a).2 ⟨rfl, rfl, rfl⟩]; omega
def e0E : Entry := ⟨[], [], 0, 0, 0, []⟩
def atE (l : List Entry) (i : Nat) : Entry := l[i]?.getD e0E
theorem qa9g {l : List Entry} {i : Nat} (h : i < l.length) : atE l i = l[i] := by unfold atE; rw [List.getElem?_eq_getElem h]; rfl
theorem qbmo {l : List Entry} {i j : Nat} (h : qaiq l i j = true) : leE (atE l i) (atE l j) := by
 unfold qaiq at h;split at h
 ·rename_i a b h1 h2;unfold atE; rw [h1, h2]; exact qba1 (by simpa using h)
 ·cases h
theorem qbmp {l : List Entry} {i j : Nat} (hi : i < l.length) (hj : j < l.length) (h : qaiq l i j = false) : leE (atE l j) (atE l i) := by
 rw [qa0r hi hj] at h;rw [qa9g hi, qa9g hj];exact qa0u (by simpa using h)
theorem qauc {l : List Entry} {i j : Nat} (hi : i < l.length) (hj : j < l.length) (k : Nat) : atE (qaen l i j) k = if k = j then atE l i else if k = i then atE l j else atE l k := by
 rw [qaqg hi hj];unfold atE;rw [List.getElem?_set, List.getElem?_set];by_cases e1 : k = j
 ·subst e1;rw [if_pos rfl, if_pos rfl, if_pos (by simpa using hj), List.getElem?_eq_getElem hi]
 ·rw [if_neg (Ne.symm e1), if_neg e1];by_cases e2 : k = i
  ·subst e2;rw [if_pos rfl, if_pos rfl, if_pos hi, List.getElem?_eq_getElem hj]
  ·rw [if_neg (Ne.symm e2), if_neg e2]
def HeapN (n : Nat) (l : List Entry) : Prop := ∀ i, 0 < i → i < n → leE (atE l ((i - 1) / 2)) (atE l i)
def UpP (n : Nat) (l : List Entry) (j : Nat) : Prop := (∀ i, 0 < i → i < n → i ≠ j → leE (atE l ((i - 1) / 2)) (atE l i)) ∧ (0 < j → ∀ i, 0 < i → i < n → (i - 1) / 2 = j → leE (atE l ((j - 1) / 2)) (atE l i))
theorem qaqc : ∀ (f : Nat) (l : List Entry) (j n : Nat), n ≤ l.length → j < n → j < f → UpP n l j → HeapN n (upL f l j) ∧ ∀ k, j < k → atE (upL f l j) k = atE l k
 | f + 1, l, j, n, hn, hj, hf, ⟨h1, h2⟩ => by
  rw [upL];by_cases hc : (j - 1) / 2 = j ∨ qaiq l j ((j - 1) / 2) = false
  ·rw [if_pos hc];refine ⟨fun i hi hin => ?_, fun _ _ => rfl⟩;by_cases e : i = j
   ·subst e;rcases hc with hc | hc
    ·omega
    ·exact qbmp (by omega) (by omega) hc
   ·exact h1 i hi hin e
  ·rw [if_neg hc];obtain ⟨p, hp⟩ : ∃ p, p = (j - 1) / 2 := ⟨_, rfl⟩
   rw [← hp] at hc ⊢;have hpj : p < j := by have : p ≠ j := fun e => hc (.inl e); omega
   have hl : leE (atE l j) (atE l p) := qbmo (by cases h : qaiq l j p <;> simp_all);have hs := qauc (l := l) (i := p) (j := j) (by omega) (by omega);have ih := qaqc f (qaen l p j) p n (by rw [qaej]; exact hn) (by omega) (by omega) ⟨fun i hi hin hip => ?_, fun hp0 i hi hin hip => ?_⟩
   ·refine ⟨ih.1, fun k hk => ?_⟩;rw [ih.2 k (by omega), hs, if_neg (by omega), if_neg (by omega)]
   ·rw [hs, hs];by_cases e1 : i = j
    ·subst e1;rw [← hp, if_neg (by omega), if_pos rfl, if_pos rfl]; exact hl
    ·rw [if_neg e1, if_neg hip];by_cases e2 : (i - 1) / 2 = j
     ·rw [if_pos e2, hp]; exact h2 (by omega) i hi hin e2
     ·rw [if_neg e2];by_cases e3 : (i - 1) / 2 = p
      ·rw [if_pos e3];have := h1 i hi hin e1;rw [e3] at this;exact qahn hl this
      ·rw [if_neg e3]; exact h1 i hi hin e1
   ·rw [hs, hs, if_neg (by omega : ¬ (p - 1) / 2 = j), if_neg (by omega : ¬ (p - 1) / 2 = p)];have h3 := h1 p hp0 (by omega) (by omega);by_cases e1 : i = j
    ·rw [if_pos e1]; exact h3
    ·rw [if_neg e1, if_neg (by omega)];have := h1 i hi hin e1;rw [hip] at this;exact qahn h3 this
theorem qaqi {l : List Entry} {i n : Nat} (hn : n ≤ l.length) (h : 2 * i + 1 < n) : (sonL l i n - 1) / 2 = i ∧ ∀ k, 0 < k → k < n → (k - 1) / 2 = i → leE (atE l (sonL l i n)) (atE l k) := by
 unfold sonL;by_cases hc : 2 * i + 1 + 1 < n ∧ qaiq l (2 * i + 1 + 1) (2 * i + 1) = true
 ·rw [if_pos hc];refine ⟨by omega, fun k h1 h2 h3 => ?_⟩;have : k = 2 * i + 1 ∨ k = 2 * i + 1 + 1 := by omega
  rcases this with rfl | rfl
  ·exact qbmo hc.2
  ·exact qaq3 _
 ·rw [if_neg hc];refine ⟨by omega, fun k h1 h2 h3 => ?_⟩;have : k = 2 * i + 1 ∨ k = 2 * i + 1 + 1 := by omega
  rcases this with rfl | rfl
  ·exact qaq3 _
  ·refine qbmp (by omega) (by omega) ?_;cases h : qaiq l (2 * i + 1 + 1) (2 * i + 1)
   ·rfl
   ·exact absurd ⟨h2, h⟩ hc
theorem qaj5 : ∀ (f : Nat) (l : List Entry) (i n i0 : Nat), n ≤ l.length → n - i < f → i0 ≤ i → (∀ k, 0 < k → k < n → (k - 1) / 2 ≠ i → k ≠ i0 → leE (atE l ((k - 1) / 2)) (atE l k)) → (0 < i → ∀ k, 0 < k → k < n → (k - 1) / 2 = i → leE (atE l ((i - 1) / 2)) (atE l k)) →
  (∀ k, 0 < k → k < n → k ≠ i0 → leE (atE (qafz f l i n).1 ((k - 1) / 2)) (atE (qafz f l i n).1 k)) ∧ (∀ k, k < i ∨ n ≤ k → atE (qafz f l i n).1 k = atE l k) ∧ i ≤ (qafz f l i n).2 ∧
   ((qafz f l i n).2 = i → (qafz f l i n).1 = l) ∧ (i < (qafz f l i n).2 → 2 * i + 1 < n ∧ atE (qafz f l i n).1 i = atE l (sonL l i n))
 | f + 1, l, i, n, i0, hn, hf, h0, hA, hB => by
  rw [qafz];by_cases hc : n ≤ 2 * i + 1 ∨ qaiq l (sonL l i n) i = false
  ·rw [if_pos hc];refine ⟨fun k hk hkn hk0 => ?_, fun k _ => rfl, Nat.le_refl _, fun _ => rfl, fun h => absurd h (Nat.lt_irrefl _)⟩;by_cases e : (k - 1) / 2 = i
   ·rcases hc with hc | hc
    ·omega
    ·have hin : 2 * i + 1 < n := by omega
     obtain ⟨s1, s2⟩ := qaqi hn hin;obtain ⟨s3, s4⟩ := qam7 l i n hin;show leE (atE l ((k - 1) / 2)) (atE l k);rw [e];exact qahn (qbmp (i := sonL l i n) (j := i) (by omega) (by omega) hc) (s2 k hk hkn e)
   ·exact hA k hk hkn e hk0
  ·rw [if_neg hc];have hin : 2 * i + 1 < n := Nat.lt_of_not_le fun e => hc (.inl e)
   obtain ⟨s1, s2⟩ := qaqi hn hin;obtain ⟨s3, s4⟩ := qam7 l i n hin;have hl : leE (atE l (sonL l i n)) (atE l i) := qbmo (by cases h : qaiq l (sonL l i n) i <;> simp_all);generalize sonL l i n = s at *;have hs := qauc (l := l) (i := i) (j := s) (by omega) (by omega);have ih := qaj5 f (qaen l i s) s n i0 (by rw [qaej]; exact hn) (by omega) (by omega) (fun k hk hkn hp hk0 => ?_) (fun hs0 k hk hkn hp => ?_)
   ·obtain ⟨q1, q2, q3, q4, q5⟩ := ih;refine ⟨q1, fun k hk => ?_, by omega, fun h => absurd h (by omega), fun _ => ⟨hin, ?_⟩⟩
    ·rw [q2 k (by omega), hs, if_neg (by omega), if_neg (by omega)]
    ·rw [q2 i (.inl s3), hs, if_neg (by omega), if_pos rfl]
   ·rw [hs, hs];by_cases e1 : (k - 1) / 2 = i
    ·rw [e1, if_neg (by omega : ¬ i = s), if_pos rfl];by_cases e2 : k = s
     ·rw [if_pos e2]; exact hl
     ·rw [if_neg e2, if_neg (by omega)]; exact s2 k hk hkn e1
    ·have ks : k ≠ s := fun e => by subst e; exact e1 s1
     rw [if_neg ks, if_neg hp, if_neg e1];by_cases e2 : k = i
     ·subst e2;rw [if_pos rfl]; exact hB hk s (by omega) s4 s1
     ·rw [if_neg e2]; exact hA k hk hkn e1 hk0
   ·rw [hs, hs, s1, if_neg (by omega : ¬ i = s), if_pos rfl, if_neg (by omega : ¬ k = s), if_neg (by omega : ¬ k = i)];have := hA k hk hkn (by omega) (by omega);rw [hp] at this; exact this
theorem qbmy {n : Nat} {l : List Entry} (h : HeapN n l) : ∀ k, k < n → leE (atE l 0) (atE l k) := by
 intro k;induction k using Nat.strongRecOn with
 | _ k ih =>
  intro hk;rcases Nat.eq_zero_or_pos k with rfl | h0
  ·exact qaq3 _
  ·exact qahn (ih ((k - 1) / 2) (by omega) (by omega)) (h k h0 hk)
def Heap (l : List Entry) : Prop := HeapN l.length l
theorem qbmx : Heap [] := fun i _ h => by simp at h
theorem qbak {l : List Entry} (h : Heap l) (e : Entry) : Heap (qaz2 l e) := by
 have hl : (qaz2 l e).length = l.length + 1 := by rw [(qafd l e).length_eq]; simp
 unfold Heap;rw [hl];refine (qaqc (l.length + 1) (l ++ [e]) l.length (l.length + 1) (by simp) (by omega) (by omega) ⟨fun i hi hin hne => ?_, fun _ i hi hin hp => ?_⟩).1
 ·have a1 : ∀ k, k < l.length → atE (l ++ [e]) k = atE l k := fun k hk => by unfold atE; rw [List.getElem?_append_left hk]
  rw [a1 _ (by omega), a1 _ (by omega)];exact h i hi (by omega)
 ·omega
theorem qals {l : List Entry} {k : Nat} (h : k < l.length - 1) : atE l.dropLast k = atE l k := by
 unfold atE; rw [List.getElem?_dropLast, if_pos h]
theorem qaij {l : List Entry} (h : HeapN (l.length - 1) l) : Heap l.dropLast := fun i hi hin => by
 rw [List.length_dropLast] at hin;rw [qals hin, qals (by omega)];exact h i hi hin
theorem qbl2 {l : List Entry} (h : Heap l) (h0 : 0 < l.length) : Heap (popL l).dropLast ∧ atE (popL l) (l.length - 1) = atE l 0 := by
 have hl : (popL l).length = l.length := (qadk l).length_eq;have hs := qauc (l := l) (i := 0) (j := l.length - 1) h0 (by omega);obtain ⟨q1, q2, -, -, -⟩ := qaj5 (l.length - 1 - 0 + 1) (qaen l 0 (l.length - 1)) 0 (l.length - 1) 0 (by rw [qaej]; omega) (by omega) (Nat.le_refl _) (fun k hk hkn hp _ => by
  rw [hs, hs, if_neg (by omega), if_neg hp, if_neg (by omega), if_neg (by omega)];exact h k hk (by omega)) (fun h => absurd h (by omega))
 refine ⟨qaij ?_, ?_⟩
 ·rw [hl]; exact fun i hi hin => q1 i hi hin (by omega)
 ·unfold popL;rw [q2 _ (.inr (Nat.le_refl _)), hs, if_pos rfl]
theorem qazu {l : List Entry} (h : Heap l) (i : Nat) (hi : i < l.length) : Heap (remL l i).dropLast ∧ atE (remL l i) (l.length - 1) = atE l i := by
 have hl : (remL l i).length = l.length := (qafo l i).length_eq;have key : HeapN (l.length - 1) (remL l i) ∧ atE (remL l i) (l.length - 1) = atE l i := by
  unfold remL;by_cases e : l.length - 1 = i
  ·rw [if_pos e, e]; exact ⟨fun k hk hkn => h k hk (by omega), rfl⟩
  ·rw [if_neg e];have hs := qauc (l := l) (i := i) (j := l.length - 1) hi (by omega);have hA : ∀ k, 0 < k → k < l.length - 1 → (k - 1) / 2 ≠ i → k ≠ i → leE (atE (qaen l i (l.length - 1)) ((k - 1) / 2)) (atE (qaen l i (l.length - 1)) k) := fun k hk hkn hp hki => by
    rw [hs, hs, if_neg (by omega), if_neg hp, if_neg (by omega), if_neg hki];exact h k hk (by omega)
   have hB : 0 < i → ∀ k, 0 < k → k < l.length - 1 → (k - 1) / 2 = i → leE (atE (qaen l i (l.length - 1)) ((i - 1) / 2)) (atE (qaen l i (l.length - 1)) k) := fun h0 k hk hkn hp => by
    rw [hs, hs, if_neg (by omega), if_neg (by omega), if_neg (by omega), if_neg (by omega)];have h3 := h k hk (by omega);rw [hp] at h3;exact qahn (h i h0 hi) h3
   have hsl : (qaen l i (l.length - 1)).length = l.length := qaej _ _ _;obtain ⟨q1, q2, q3, q4, q5⟩ := qaj5 (l.length - 1 - i + 1) (qaen l i (l.length - 1)) i (l.length - 1) i (by rw [hsl]; omega) (by omega) (Nat.le_refl _) (fun k hk hkn hp hk0 => hA k hk hkn hp hk0) hB;have hsn := @qaqi (qaen l i (l.length - 1)) i (l.length - 1) (by rw [hsl]; omega);have hsl2 := qam7 (qaen l i (l.length - 1)) i (l.length - 1);have hlast : atE (qaen l i (l.length - 1)) (l.length - 1) = atE l i := by rw [hs, if_pos rfl]
   have hdl : (qafz (l.length - 1 - i + 1) (qaen l i (l.length - 1)) i (l.length - 1)).1.length = l.length := by rw [(qadw _ _ _ _).length_eq, hsl]
   generalize qaen l i (l.length - 1) = S at *;generalize qafz (l.length - 1 - i + 1) S i (l.length - 1) = d at *;by_cases hm : i < d.2
   ·rw [if_pos hm];refine ⟨fun k hk hkn => ?_, by rw [q2 _ (.inr (Nat.le_refl _)), hlast]⟩;by_cases e1 : k = i
    ·subst e1;obtain ⟨r1, r2⟩ := q5 hm;rw [r2, q2 _ (.inl (by omega))];exact hB hk _ (by have := hsl2 r1; omega) (hsl2 r1).2 (hsn r1).1
    ·exact q1 k hk hkn e1
   ·rw [if_neg hm];have hd := q4 (by omega);rw [hd] at q1 hdl ⊢;obtain ⟨u1, u2⟩ := qaqc (i + 1) S i (l.length - 1) (by omega) (by omega) (by omega) ⟨q1, hB⟩;exact ⟨u1, by rw [u2 _ (by omega), hlast]⟩
 exact ⟨qaij (by rw [hl]; exact key.1), key.2⟩
theorem qblh {l : List Entry} (h : Heap l) (i : Nat) (e : Entry) (hi : i < l.length) (he : ordE (atE l i) e = 0) : Heap (l.set i e) := by
 have hz := (qadq _ _).1 he;have q : ∀ k, (atE (l.set i e) k).prio = (atE l k).prio ∧ (atE (l.set i e) k).keys = (atE l k).keys ∧ (atE (l.set i e) k).masks = (atE l k).masks := fun k => by
  by_cases e1 : i = k
  ·subst e1;have : atE (l.set i e) i = e := by unfold atE; rw [List.getElem?_set, if_pos rfl, if_pos hi]; rfl
   rw [this]; exact ⟨hz.1.symm, hz.2.1.symm, hz.2.2.symm⟩
  ·have : atE (l.set i e) k = atE l k := by unfold atE; rw [List.getElem?_set, if_neg e1]
   rw [this]; exact ⟨rfl, rfl, rfl⟩
 intro k hk hkn;rw [List.length_set] at hkn;have := h k hk hkn;rw [qanw] at this ⊢;obtain ⟨a1, a2, a3⟩ := q k;obtain ⟨b1, b2, b3⟩ := q ((k - 1) / 2);rw [a1, a2, a3, b1, b2, b3]; exact this
def qa9r : Nat → List Entry → List Entry
 | 0, _ => []
 | f + 1, l => match (popL l).getLast? with
  | some x => towE x :: qa9r f (popL l).dropLast
  | none => []
def qain (l : List Entry) : List Entry := qa9r l.length l
theorem qaqn {l : List Entry} (h0 : 0 < l.length) : (popL l).getLast? = some (atE (popL l) (l.length - 1)) ∧ popL l = (popL l).dropLast ++ [atE (popL l) (l.length - 1)] := by
 have hl : (popL l).length = l.length := (qadk l).length_eq;rcases List.eq_nil_or_concat (popL l) with h | ⟨L, x, h⟩
 ·rw [h] at hl; simp at hl; omega
 ·have hLl : L.length = l.length - 1 := by rw [h] at hl; simp at hl; omega
  have : atE (popL l) (l.length - 1) = x := by unfold atE; rw [h, ← hLl]; simp
  rw [this, h]; simp
theorem qajf : ∀ (f : Nat) (l : List Entry), l.length ≤ f → (qa9r f l).Perm (l.map towE)
 | 0, l, h => by rw [List.eq_nil_of_length_eq_zero (l := l) (by omega)]; exact .refl _
 | f + 1, l, h => by
  rw [qa9r];rcases Nat.eq_zero_or_pos l.length with h0 | h0
  ·have : l = [] := List.eq_nil_of_length_eq_zero h0;subst this;have hp : popL [] = [] := List.Perm.eq_nil (qadk []);rw [hp]; exact .refl _
  ·obtain ⟨p1, p2⟩ := qaqn h0;have hl : (popL l).length = l.length := (qadk l).length_eq;rw [p1];refine ((qajf f _ (by rw [List.length_dropLast]; omega)).cons _).trans ?_;refine .trans ?_ ((qadk l).map towE);rw [← List.map_cons];refine .map _ ?_;conv => rhs; rw [p2]
   exact (List.perm_append_singleton _ _).symm
theorem qaje : ∀ (f : Nat) (l : List Entry), l.length ≤ f → Heap l → (qa9r f l).Pairwise leE
 | 0, l, h, _ => .nil
 | f + 1, l, h, hh => by
  rw [qa9r];rcases Nat.eq_zero_or_pos l.length with h0 | h0
  ·have : l = [] := List.eq_nil_of_length_eq_zero h0;subst this;have hp : popL [] = [] := List.Perm.eq_nil (qadk []);rw [hp]; exact .nil
  ·obtain ⟨p1, p2⟩ := qaqn h0;obtain ⟨q1, q2⟩ := qbl2 hh h0;have hl : (popL l).length = l.length := (qadk l).length_eq;have hd : (popL l).dropLast.length ≤ f := by rw [List.length_dropLast]; omega
   rw [p1, q2];refine .cons (fun y hy => ?_) (qaje f _ hd q1);have hy2 := (qajf f _ hd).mem_iff.1 hy;obtain ⟨z, hz, rfl⟩ := List.mem_map.1 hy2;have hz2 : z ∈ l := (qadk l).mem_iff.1 ((List.dropLast_sublist _).mem hz);obtain ⟨k, hk, rfl⟩ := List.mem_iff_getElem.1 hz2;have := qbmy hh k hk;rw [qa9g hk] at this;exact this
theorem qay2 (l : List Entry) : (qain l).Perm (l.map towE) := qajf _ _ (Nat.le_refl _)
theorem qajd {l : List Entry} (h : Heap l) : (qain l).Pairwise leE := qaje _ _ (Nat.le_refl _) h
section
attribute [local simp] qaa6 qaa5 qaak qaas qaal qaar qaa3 qaa4 qaae qabh SOp.run SX.ev putd puts argS upds SOp.touch SSt.keep SSt.skip gets geth puth delh idOf SV.cells? setL qac5 qac6 sbin eq0 eq1 eqL qac2 qaby qab0 qaa2 qaa1 qaac qaa7 qabi qaaj qaad FrzOk qaav qaan qaat qaau qaaf qaam qaa8 qaao qaah qaaw qaag frzS frzH frz frz1 frz0 SlotsM ObjsM ObjM rn ren ren1 ren0 qabk qabw qabz qabj qaa9 qabx qab1 CoL qaax qabr dels adds idsH qabc
section
attribute [local irreducible] qacg
theorem qaq1 {k m : Int} {l : List Entry} : Lent (hobj (some (k, m)) l) (.ptr 0 0) (.cp (qbi0 k m l)) := by
 refine qamh (t := 108) (cs := hcs (some (k, m)) l.length) rfl ⟨qacb _, qacb _, qaj0 (e := 38) rfl (qahe _ _) (by simp), trivial⟩ ?_;intro x hx;simp only [qbi0, List.mem_cons, List.not_mem_nil, or_false] at hx;rcases hx with rfl | rfl | rfl
 ·exact qafp _ _
 ·exact qafp _ _
 ·exact qahg _ _
theorem qayv (k m : Int) (l : List Entry) (e : Entry) (he : qacd e) (q : Nat) : SCalls Tryz.prog 144 [.ptr 0 0, .agg (qaaa e)] (hobj (some (k, m)) l) q (.bool (qagy k e)) (hobj (some (k, m)) l) :=
 qada (tfits_s k m l e he q) ⟨qaq1, qacb _, trivial⟩ (qaj6 _)
theorem tat_o (k m : Int) (l : List Entry) (e : Entry) (hl : l.length ≤ 1000000) (hs : ∀ x ∈ l, qacd x) (he : qacd e) (q : Nat) : SCalls Tryz.prog 145 [.ptr 0 0, .agg (qaaa e)] (hobj (some (k, m)) l) q (.int .i64 (tatV l e)) (hobj (some (k, m)) l) :=
 qada (tat_s k m l e hl hs he q) ⟨qaq1, qacb _, trivial⟩ (qafu _ _)
theorem qagz {X : Cx} {s : SSt} {c : qaew} {l : List Entry} {t : Nat} {n : Int} (hm : X.m = 1) (hw : Wk X s ⟨[(t, .int .i64 n)], hobj c l, 2⟩) : QFun X [.tmp t] 1 (.int .i64 n) [(0, .abs (qad1 c l))] .ret s := by
 have h1 : Wk X s ⟨[(t, .int .i64 n)], [(0, .abs (qad1 c l))], 2⟩ := hw.trans (qaqb ⟨rfl, rfl, trivial⟩);have h2 : Wk X ⟨[(t, .int .i64 n)], [(0, .abs (qad1 c l))], 2⟩ ⟨[(t, .int .i64 n)], [(0, .abs (qad1 c l))], 1⟩ := qabd [] hm ⟨by simp only [gets, if_true]; exact Co.refl _, trivial⟩ ⟨⟨_, rfl, rfl⟩, trivial⟩ rfl (Nat.le_refl _);exact ⟨_, h1.trans h2, by simp [qafc, resL, resV, one_, gets], ⟨rfl, trivial⟩, by simp⟩
def dropV (k : Int) (l : List Entry) (e : Entry) : Int := if qagy k e = false then 6 else if tatV l e < 0 then 9 else 0
def qave (k : Int) (l : List Entry) (e : Entry) : List Entry := if qagy k e = false then l else if tatV l e < 0 then l else (remL l (tatV l e).toNat).dropLast
theorem qakl (l : List Entry) (e : Entry) (h : ¬ tatV l e < 0) : ∃ i : Nat, tatV l e = i ∧ i < l.length := by
 unfold tatV idxV at h ⊢;split at h
 ·rename_i i hi;exact ⟨i, rfl, (List.findIdx?_eq_some_iff_getElem.1 hi).1⟩
 ·omega
theorem tdrop_s (k m : Int) (l : List Entry) (e : Entry) (hl : l.length ≤ 1000000) (hs : ∀ x ∈ l, qacd x) (he : qacd e) : SCalls Tryz.prog 142 [.ptr 0 0, .agg (qaaa e)] [(0, .abs (qad1 (some (k, m)) l))] 1 (.int .i64 (dropV k l e)) [(0, .abs (qad1 (some (k, m)) (qave k l e)))] := by
 have k1 := fun q => qayv k m l e he q
 have k2 := fun q => tat_o k m l e hl hs he q
 have hv : dropV k l e = if qagy k e = false then 6 else if tatV l e < 0 then 9 else 0 := rfl
 have hr : qave k l e = if qagy k e = false then l else if tatV l e < 0 then l else (remL l (tatV l e).toNat).dropLast := rfl
 have k3 : ∀ i : Nat, tatV l e = i → i < l.length → ∀ q, 2 ≤ q → SCalls Tryz.prog 153 [.ifc 176 (.ptr 0 2), .int .i64 i] (hobj (some (k, m)) l) q (.ifc 38 (.agg (qaaa ((remL l i).getLastD e)))) (hobj (some (k, m)) (remL l i).dropLast) := fun i _ hi q hq =>
  hrem_s (some (k, m)) l (remL l i).dropLast i hi ((remL l i).getLastD e) (by
   have hne : remL l i ≠ [] := by
    intro h0;have := (qafo l i).length_eq;rw [h0] at this; simp at this; omega
   rcases List.eq_nil_or_concat (remL l i) with h0 | ⟨L', x, h0⟩
   ·exact absurd h0 hne
   ·rw [h0]; simp) hl hs q hq
 have hlt := qakl l e;generalize dropV k l e = v at hv;generalize qave k l e = r at hr;generalize qagy k e = a at k1 hv hr;generalize tatV l e = b at k2 hv hr hlt k3;refine yF (N := 21) Tryz.func142 qbj6 ?_;rintro X hP hN hm;refine qaf1 (by omega) (by decide) (qahq _ l) fun hh h => ?_
 subst h;unfold qbj6;unfold qaaa at k1 k2;unfold qaaa;unfold hobj at k1 k2 k3;unfold hobj;cases a
 ·obtain rfl : v = 6 := by rw [hv, if_pos rfl]
  obtain rfl : r = l := by rw [hr, if_pos rfl]
  clear hlt k2 k3 hv hr;repeat' (first | refine yA ?_ | with_reducible refine yB ?_ ?_ | ((with_reducible refine yC fun h => ?_); have h' := h; (try simp at h'); (try subst h')) | refine yR (k1 _) ?_ | exact yD | refine yE ?_ | ((refine qagz hm ?_; simp only [hobj])) | exact trivial)
 ·by_cases hb : b < 0
  ·obtain rfl : v = 9 := by rw [hv, if_neg (by decide), if_pos hb]
   obtain rfl : r = l := by rw [hr, if_neg (by decide), if_pos hb]
   clear hlt k3 hv hr;repeat' (first | refine yA ?_ | with_reducible refine yB ?_ ?_ | ((with_reducible refine yC fun h => ?_); have h' := h; (try simp at h'); (try subst h')) | refine yR (k1 _) ?_ | refine yR (k2 _) ?_ | exact yD | refine yE ?_ | ((refine qagz hm ?_; simp only [hobj])) | exact trivial)
  ·obtain ⟨i, rfl, hi⟩ := hlt hb;have k4 := k3 i rfl hi;obtain rfl : v = 0 := by rw [hv, if_neg (by decide), if_neg hb]
   rw [if_neg (by decide), if_neg hb, Int.toNat_natCast] at hr;rw [← hr] at k4;generalize (remL l i).getLastD e = x at k4;clear hlt k3 hv hr;repeat' (first | refine yA ?_ | with_reducible refine yB ?_ ?_ | ((with_reducible refine yC fun h => ?_); have h' := h; (try simp at h'); (try subst h')) | refine yR (k1 _) ?_ | refine yR (k2 _) ?_ | refine qafg (k4 _ (by simp)) ⟨rfl, rfl, trivial⟩ ⟨rfl, rfl, trivial⟩ [] (by simp) ?_ | exact yD | refine yE ?_ | ((refine qagz hm ?_; simp only [hobj])) | exact trivial)
def chgR (k : Int) (l : List Entry) (e : Entry) : List Entry := if qagy k e = false then l else if tatV l e < 0 then l else l.set (tatV l e).toNat (towE e)
theorem tchg_s (k m : Int) (l : List Entry) (e : Entry) (hl : l.length ≤ 1000000) (hs : ∀ x ∈ l, qacd x) (he : qacd e) : SCalls Tryz.prog 141 [.ptr 0 0, .agg (qaaa e)] [(0, .abs (qad1 (some (k, m)) l))] 1 (.int .i64 (dropV k l e)) [(0, .abs (qad1 (some (k, m)) (chgR k l e)))] := by
 have k1 := fun q => qayv k m l e he q
 have k2 := fun q => tat_o k m l e hl hs he q
 have k5 := fun q => qbk6 e he q
 have hv : dropV k l e = if qagy k e = false then 6 else if tatV l e < 0 then 9 else 0 := rfl
 have hr : chgR k l e = if qagy k e = false then l else if tatV l e < 0 then l else l.set (tatV l e).toNat (towE e) := rfl
 have hlt := qakl l e;generalize dropV k l e = v at hv;generalize chgR k l e = r at hr;generalize qagy k e = a at k1 hv hr;generalize tatV l e = b at k2 hv hr hlt;generalize towE e = te at k5 hr;refine yF (N := 23) Tryz.func141 c_tchg ?_;rintro X hP hN hm;refine qaf1 (by omega) (by decide) (qahq _ l) fun hh h => ?_
 subst h;unfold c_tchg;generalize hz : qaaa te = z at k5;unfold qaaa at k1 k2 k5;rw [show qaaa e = [nums .u64 e.keys, nums .u64 e.masks, .int .i64 e.len, .int .i64 e.prio, .int .i64 e.act, nums .u64 e.args] from rfl];unfold hobj at k1 k2;unfold hobj;cases a
 ·obtain rfl : v = 6 := by rw [hv, if_pos rfl]
  obtain rfl : r = l := by rw [hr, if_pos rfl]
  clear hlt k2 hv hr;repeat' (first | refine yA ?_ | with_reducible refine yB ?_ ?_ | ((with_reducible refine yC fun h => ?_); have h' := h; (try simp at h'); (try subst h')) | refine yR (k1 _) ?_ | exact yD | refine yE ?_ | ((refine qagz hm ?_; simp only [hobj])) | exact trivial)
 ·by_cases hb : b < 0
  ·obtain rfl : v = 9 := by rw [hv, if_neg (by decide), if_pos hb]
   obtain rfl : r = l := by rw [hr, if_neg (by decide), if_pos hb]
   clear hlt hv hr;repeat' (first | refine yA ?_ | with_reducible refine yB ?_ ?_ | ((with_reducible refine yC fun h => ?_); have h' := h; (try simp at h'); (try subst h')) | refine yR (k1 _) ?_ | refine yR (k2 _) ?_ | exact yD | refine yE ?_ | ((refine qagz hm ?_; simp only [hobj])) | exact trivial)
  ·obtain ⟨i, rfl, hi⟩ := hlt hb;obtain rfl : v = 0 := by rw [hv, if_neg (by decide), if_neg hb]
   rw [if_neg (by decide), if_neg hb, Int.toNat_natCast] at hr;have hrl : r.length = l.length := by rw [hr]; simp
   have hrr : r.map qaaa = (l.map qaaa).set i z := by rw [hr, ← hz]; simp
   have hz6 : z.length = 6 := by rw [← hz]; rfl
   have hzs : ∀ x : Entry, setL (qaaa x) 0 z = z := fun x => by rw [← hz]; rfl
   clear hlt hv hr hz;replace hrl := Lib.hid hrl;replace hrr := Lib.hid hrr;repeat' (first | ((with_reducible first | refine qaab ?_ | refine qaaz (by rw [hP]; exact mixed) ?_); (try rw [hP]); simp -implicitDefEqProofs [List.getElem?_eq_getElem hi, qafy, qady, hz6, hzs, *]) | ((with_reducible refine qaai ?_); (try simp -implicitDefEqProofs [List.getElem?_eq_getElem hi, qafy, qady, hz6, hzs, *])) | refine yA ?_ | with_reducible refine yB ?_ ?_ | ((with_reducible refine yC fun h => ?_); have h' := h; (try simp at h'); (try subst h')) | (refine yR (k1 _) ?_; simp -implicitDefEqProofs [List.getElem?_eq_getElem hi, qafy, qady, hz6, hzs, *]) | (refine yR (k2 _) ?_; simp -implicitDefEqProofs [List.getElem?_eq_getElem hi, qafy, qady, hz6, hzs, *]) | (refine qabe (k5 _) ?_; simp -implicitDefEqProofs [List.getElem?_eq_getElem hi, qafy, qady, hz6, hzs, *]) | exact yD | refine yE ?_ | ((refine qagz hm ?_; simp only [hobj])) | exact trivial)
   all_goals first | (rw [hrl.out]; exact qae9 _ _ rfl) | exact hrr.out.symm
end
theorem fin_ghn {X : Cx} {s : SSt} {c : qaew} {l : List Entry} {t : Nat} (hm : X.m = 0) (hw : Wk X s ⟨[(t, .ptr 0 0)], hobj c l, 2⟩) : QFun X [.tmp t] 0 (.ptr 0 0) [(0, .abs (qad1 c l))] .ret s := by
 have h1 : Wk X s ⟨[(t, .ptr 0 0)], [(0, .abs (qad1 c l))], 2⟩ := hw.trans (qaqb ⟨rfl, rfl, trivial⟩);have h2 : Wk X ⟨[(t, .ptr 0 0)], [(0, .abs (qad1 c l))], 2⟩ ⟨[(t, .ptr 0 0)], [(0, .abs (qad1 c l))], 1⟩ := qabd [] hm ⟨by simp only [gets, if_true]; exact Co.refl _, trivial⟩ ⟨⟨_, rfl, rfl⟩, trivial⟩ rfl (Nat.zero_le _);exact ⟨_, h1.trans h2, by simp [qafc, resL, resV, one_, gets], ⟨rfl, trivial⟩, by simp⟩
theorem tnew_s (k m : Int) : SCalls Tryz.prog 35 [.int .i64 k, .int .i64 m] [] 0 (.ptr 0 0) [(0, .abs (qad1 (some (k, m)) []))] := by
 refine yF (N := 9) Tryz.func35 c_tnew ?_;rintro X hP hN hm;unfold c_tnew;repeat' (first | refine yA ?_ | exact trivial)
 refine qaz0 (qalx 4 2 38 6 rfl rfl) ?_;exact fin_ghn hm (qabd [(0, 4), (1, 6)] hm ⟨Co.refl _, trivial⟩ ⟨⟨_, rfl, rfl, CoL.refl _⟩, ⟨_, rfl, rfl, rfl, CoLL.refl _⟩, trivial⟩ rfl (Nat.zero_le _))
theorem tlen_s (k m : Int) (l : List Entry) (q : Nat) : SCalls Tryz.prog 132 [.cp (qbi0 k m l)] [] q (.int .i64 l.length) [] := by
 refine qabt ?_ (fun _ => rfl) (fun _ => rfl) rfl q;refine yF (N := 8) Tryz.func132 c_tlen ?_;rintro X hP hN hm;unfold c_tlen qbi0;repeat' (first | refine yA ?_ | exact trivial)
 all_goals simp
theorem tlen_o (k m : Int) (l : List Entry) (q : Nat) : SCalls Tryz.prog 132 [.ptr 0 0] (hobj (some (k, m)) l) q (.int .i64 l.length) (hobj (some (k, m)) l) :=
 qada (tlen_s k m l q) ⟨qaq1, trivial⟩ (qafu _ _)
theorem conf_o (g : FuncId) (b : Entry) (l : List Entry) (p : Entry → Bool) (c : qaew) (id : Nat) (h2 : 2 ≤ id) (hl : l.length ≤ 1000000) (hg : AskC g b l p) (q : Nat) : SCalls Tryz.prog 146 [.own 1 l.length, .fn (.func g) [] [.ptr id 0]] (hobj c l ++ [(id, .cells 38 (qaaa b))]) q (.bool (decide (0 ≤ idxV l p))) (hobj c l ++ [(id, .cells 38 (qaaa b))]) :=
 qada (conf_s g b l p hl hg q) ⟨qaj0 (e := 38) rfl (qahe _ _) (by simp), qbjl ⟨qamh (t := 38) (cs := qaaa b) (by unfold hobj; simp only [List.cons_append, List.nil_append, geth]; rw [if_neg (by omega), if_neg (by omega), if_pos trivial]) (qaj1 _) (qaz5 b), trivial⟩, trivial⟩ (qaj6 _)
end
instance : PureR ([] : List (List SV)) := ⟨fun _ => rfl, fun x hx => (by cases hx), fun x hx => (by cases hx)⟩
theorem qfun_wk {X : Cx} {rs : List ResultVar} {m : Nat} {r : SV} {h2 : Hp} {s s1 : SSt} (hw : Wk X s s1) (h : QFun X rs m r h2 .ret s1) : QFun X rs m r h2 .ret s := by
 obtain ⟨s', h1, h2, h3, h4⟩ := h;exact ⟨s', hw.trans h1, h2, h3, h4⟩
section
attribute [local simp] qaa6 qaa5 qaak qaas qaal qaar qaa3 qaa4 qaae qabh SOp.run SX.ev putd puts argS upds SOp.touch SSt.keep SSt.skip gets geth puth delh idOf SV.cells? setL qac5 qac6 sbin eq0 eq1 eqL qac2 qaby qab0 qaa2 qaa1 qaac qaa7 qabi qaaj qaad FrzOk qaav qaan qaat qaau qaaf qaam qaa8 qaao qaah qaaw qaag frzS frzH frz frz1 frz0 SlotsM ObjsM ObjM rn ren ren1 ren0 qabk qabw qabz qabj qaa9 qabx qab1 CoL qaax qabr dels adds idsH qabc
theorem qamm {X : Cx} {sl : Sl} {hp : Hp} {t nx id e z n e' z' : Nat} {es fs : List (List SV)} [PureR es] [PureR fs] (hm : X.m = 1) (hne : id ≠ 0) (hv : gets sl t = .own id n) (h0 : geth hp 0 = some (.row e' z' fs)) (h1 : geth hp id = some (.row e z es)) : QFun X [.tmp t] 1 (.own 1 n) [(0, .row e' z' fs), (1, .row e z es)] .ret ⟨sl, hp, nx⟩ := by
 have hw : Wk X ⟨sl, hp, nx⟩ ⟨[(t, .own 1 n)], [(0, .row e' z' fs), (1, .row e z es)], 2⟩ := by
  refine qabd [(1, id)] hm ⟨?_, trivial⟩ ⟨⟨_, h0, rfl, rfl, ?_⟩, ⟨_, h1, rfl, rfl, ?_⟩, trivial⟩ ?_ (by simp)
  ·rw [hv]; exact Co.refl _
  ·rw [PureR.ren]; exact CoLL.refl _
  ·rw [PureR.ren]; exact CoLL.refl _
  ·simp [qabc, diag, idsH, hne, Ne.symm hne, List.range_succ]
 exact ⟨_, hw, by simp [qafc, resL, resV, one_, gets], ⟨rfl, rfl, trivial⟩, by simp⟩
theorem clrow_1 (l : List Entry) (hl : l.length ≤ 1000000) : SCalls Tryz.prog 151 [.own 0 l.length] [(0, .row 38 6 (l.map qaaa))] 1 (.own 1 l.length) [(0, .row 38 6 (l.map qaaa)), (1, .row 38 6 (l.map qaaa))] := by
 rcases l with _ | ⟨x, l⟩
 ·refine yG (N := 8) Tryz.func151 qat8 (by repeat' (first | exact trivial | refine And.intro ?_ ?_ | rfl | decide | exact PureR.ren _)) ⟨by decide, rfl, trivial⟩ ?_;rintro X hP hN hm;unfold qat8;refine qbla 0 0 rfl ?_ ?_
  ·show SWp _ _ _ ⟨[(0, .nilsl)], _, _⟩;repeat' (first | refine yA ?_ | with_reducible refine yB ?_ ?_ | ((with_reducible refine yC fun h => ?_); have h' := h; (try simp at h'); (try subst h')) | ((refine qfun_wk (qaly 2 38 6 rfl) ?_; simp only [zT, puth, Nat.reduceEqDiff, reduceIte, Nat.reduceAdd]; exact qamm hm (by decide) rfl rfl rfl)) | exact trivial)
   all_goals trace_state
  ·show SWp _ _ _ ⟨[(0, .mt)], _, _⟩;repeat' (first | refine yA ?_ | with_reducible refine yB ?_ ?_ | ((with_reducible refine yC fun h => ?_); have h' := h; (try simp at h'); (try subst h')) | ((exact qamm hm (by decide) rfl rfl rfl)) | exact trivial)
   all_goals trace_state
 ·refine yG (N := 8) Tryz.func151 qat8 (by repeat' (first | exact trivial | refine And.intro ?_ ?_ | rfl | decide | exact PureR.ren _)) ⟨by decide, qab9 _ _ _, trivial⟩ ?_;rintro X hP hN hm;have hb : (x :: l).length ≤ maxLen := by unfold maxLen; omega
  simp only [List.length_cons] at hl hb;unfold qat8;repeat' (first | refine yA ?_ | with_reducible refine yB ?_ ?_ | ((with_reducible refine yC fun h => ?_); have h' := h; (try simp at h'); (try subst h')) | exact trivial)
  show QFun X [.tmp 2] 1 (.own 1 (l.length + 1)) [(0, .row 38 6 ((x :: l).map qaaa)), (1, .row 38 6 ((x :: l).map qaaa))] .ret ⟨_, [(0, .row 38 6 ((x :: l).map qaaa)), (6, .row 38 6 ((x :: l).map qaaa))], _⟩;exact qamm hm (by decide) rfl rfl rfl
theorem clrow_o (l : List Entry) (hl : l.length ≤ 1000000) (a q : Nat) (ha : a < q) : SCalls Tryz.prog 151 [.own a l.length] [(a, .row 38 6 (l.map qaaa))] q (.own q l.length) [(a, .row 38 6 (l.map qaaa)), (q, .row 38 6 (l.map qaaa))] := by
 have e0 : sg [a] q 0 = a := rfl;have e1 : sg [a] q 1 = q := rfl;exact qacp [a] (clrow_1 l hl) rfl (by simp) (by simp; omega) (by simp [Go.Proofs.YtalejfkholifpaaGreat.ren, ren1, ren0, e0]) ⟨⟨.row 38 6 (l.map qaaa), by rw [e0]; simp [geth], rfl, rfl, by rw [qab9]; exact CoLL.refl _⟩, trivial⟩ (by simp [idsH]) (by simp [Go.Proofs.YtalejfkholifpaaGreat.ren, ren1, ren0, e1]) rfl ⟨⟨.row 38 6 (l.map qaaa), by rw [e0]; simp [geth], rfl, rfl, qaks _ _, (qab9 _ _ _).symm⟩, ⟨.row 38 6 (l.map qaaa), by rw [e1]; simp [geth], rfl, rfl, qaks _ _, (qab9 _ _ _).symm⟩, trivial⟩ (by simp [idsH]) (by simp [idsH, e0, e1])
theorem hpop_r (l L : List Entry) (x : Entry) (h : popL l = L ++ [x]) (hb : l.length ≤ 1000000) (hs : ∀ x ∈ l, qacd x) (a b q : Nat) (hab : a ≠ b) (ha : a < q) (hbq : b < q) : SCalls Tryz.prog 152 [.ifc 176 (.ptr a 0)] [(a, .cells 106 [.own b l.length]), (b, .row 38 6 (l.map qaaa))] q (.ifc 38 (.agg (qaaa x))) [(a, .cells 106 [.own b L.length]), (b, .row 38 6 (L.map qaaa))] := by
 have e0 : sg [a, b] q 0 = a := rfl;have e1 : sg [a, b] q 1 = b := rfl;have h0 := hpop_s none l L x h hb hs 2 (Nat.le_refl _);have g0 : ∀ o p : SObj, geth [(a, o), (b, p)] b = some p := fun o p => by simp [geth, hab]
 exact qacp [a, b] h0 rfl (by simp [hab]) (by simp; omega) (by simp [Go.Proofs.YtalejfkholifpaaGreat.ren, ren1, ren0, renA, renB, e0, hoff]) ⟨⟨.cells 106 [.own b l.length], by rw [e0]; simp [geth], rfl, by simp [hcs, Go.Proofs.YtalejfkholifpaaGreat.ren, ren1, ren0, e1]⟩, ⟨.row 38 6 (l.map qaaa), by rw [e1]; exact g0 _ _, rfl, rfl, by rw [qab9]; exact CoLL.refl _⟩, trivial⟩ (by simp [idsH, hobj]) (by rfl) rfl ⟨⟨.cells 106 [.own b L.length], by rw [e0]; simp [geth], rfl, rfl, by simp [hcs, Go.Proofs.YtalejfkholifpaaGreat.ren, ren1, ren0, e1]⟩, ⟨.row 38 6 (L.map qaaa), by rw [e1]; exact g0 _ _, rfl, rfl, qaks _ _, (qab9 _ _ _).symm⟩, trivial⟩ (by simp [idsH, hobj]) (by simp [idsH, hobj, e0, e1])
theorem fin_ghw {X : Cx} {s : SSt} {c : qaew} {l : List Entry} {t z : Nat} {es : List (List SV)} (hw : Wk X s ⟨[(t, .view z es)], hobj c l, 2⟩) : QFun X [.tmp t] 2 (.view z es) (hobj c l) .ret s :=
 ⟨_, hw, by simp [qafc, resL, resV, one_, gets], ⟨rfl, rfl, trivial⟩, by simp⟩
theorem qbk9 (k m : Int) (l : List Entry) (hl : l.length ≤ 1000000) (hs : ∀ x ∈ l, qacd x) : SCalls Tryz.prog 140 [.ptr 0 0] (hobj (some (k, m)) l) 2 (.view 6 ((qain l).map qaaa)) (hobj (some (k, m)) l) := by
 obtain ⟨F, hF⟩ : ∃ F, F = qain l := ⟨_, rfl⟩
 rw [← hF];replace hF := Lib.hid hF;replace hs := Lib.hid hs;have k1 := fun q hq => clrow_o l hl 1 q hq
 refine yG (N := 28) Tryz.func140 c_tall (by repeat' (first | exact trivial | refine And.intro ?_ ?_ | rfl | decide | exact PureR.ren _)) (qanz (some (k, m)) l) ?_;rintro X hP hN hm;unfold c_tall hobj;repeat' (first | ((with_reducible refine qaab ?_); (try rw [hP]); simp -implicitDefEqProofs [hcs, *]) | refine yA ?_ | (refine qafg (k1 _ (by simp)) ⟨rfl, trivial⟩ ⟨rfl, by simp [geth], trivial⟩ [] (by simp) ?_; simp -implicitDefEqProofs [hcs, *]) | exact trivial)
 refine qad8 (qaly 4 38 6 rfl) ?_;simp only [zT, puth, Nat.reduceEqDiff, reduceIte, Nat.reduceAdd];refine qabf (qaco (fun s (x : List Entry × List Entry) => ⟨[(3, .ptr 2 0), (4, .own 4 x.2.length)], [(0, .cells (hty (some (k, m))) (hcs (some (k, m)) l.length)), (1, .row 38 6 (l.map qaaa)), (2, .cells 106 [.own 3 x.1.length]), (3, .row 38 6 (x.1.map qaaa)), (4, .row 38 6 (x.2.map qaaa))], 5⟩) (fun x => F = x.2 ++ qa9r x.1.length x.1 ∧ (∀ e ∈ x.1, qacd e) ∧ x.2.length + x.1.length ≤ 1000000) (fun x => x.1.length) (l, []) ?_ ⟨by rw [hF.out]; rfl, hs.out, by simpa using hl⟩ ?_)
 ·refine qabd [(2, 15), (3, 7), (4, 18)] hm ⟨Co.refl _, Co.refl _, trivial⟩ ⟨⟨_, rfl, rfl, qae9 (some (k, m)) _ rfl⟩, ⟨_, rfl, rfl, rfl, ?_⟩, ⟨_, rfl, rfl, CoL.refl _⟩, ⟨_, rfl, rfl, rfl, ?_⟩, ⟨_, rfl, rfl, rfl, CoLL.refl _⟩, trivial⟩ rfl (by simp)
  ·rw [qab9]; exact CoLL.refl _
  ·rw [qab9]; exact CoLL.refl _
 rintro J hJ ⟨L, out⟩ ⟨h1, h2, h3⟩;unfold qatj;simp only [zT, puth, Nat.reduceEqDiff, reduceIte, Nat.reduceAdd] at h1 h2 h3 ⊢;rcases Nat.eq_zero_or_pos L.length with h0 | h0
 ·have hLn : L = [] := List.eq_nil_of_length_eq_zero h0;subst hLn;have hFo : F = out := by rw [h1]; simp [qa9r]
  subst hFo;clear h1 h2 h3 hJ;repeat' (first | ((with_reducible refine qadg (c := .seq (.reg false qati [2]) .ret) ?_)) | ((with_reducible refine qaab ?_); (try rw [hP]); simp -implicitDefEqProofs [hcs, *]) | ((with_reducible refine qabv ?_); (try simp -implicitDefEqProofs [hcs, *])) | refine yA ?_ | with_reducible refine yB ?_ ?_ | ((with_reducible refine yC fun h => ?_); have h' := h; (try simp at h'); (try subst h')) | exact trivial)
  constructor;refine qakm [4] ?_ ?_
  ·simp only [FrzOk, geth, Nat.reduceEqDiff, reduceIte, qasr, and_true]
  simp -implicitDefEqProofs;repeat' (first | refine yA ?_ | with_reducible refine yB ?_ ?_ | exact yD | refine yE ?_ | ((refine fin_ghw ?_; simp only [hobj])) | exact trivial)
  all_goals trace_state
 ·obtain ⟨p1, p2⟩ := qaqn h0;have hdl : (popL L).dropLast.length = L.length - 1 := by rw [List.length_dropLast, (qadk L).length_eq]
  have hds : ∀ e ∈ (popL L).dropLast, qacd e := fun e he => h2 e ((qadk L).mem_iff.1 ((List.dropLast_sublist _).mem he))
  have hxm : atE (popL L) (L.length - 1) ∈ popL L := by
   have h9 : atE (popL L) (L.length - 1) ∈ (popL L).dropLast ++ [atE (popL L) (L.length - 1)] := by simp
   rw [← p2] at h9; exact h9
  have hxs : qacd (atE (popL L) (L.length - 1)) := h2 _ ((qadk L).mem_iff.1 hxm);have h4 : F = (out ++ [towE (atE (popL L) (L.length - 1))]) ++ qa9r (popL L).dropLast.length (popL L).dropLast := by
   rw [h1, hdl, show L.length = L.length - 1 + 1 by omega];simp only [qa9r, p1]; simp
  have k2 := fun q h1 h3 => hpop_r L _ _ p2 (by omega) h2 2 3 q (by decide) h1 h3
  have k3 := fun q => qbk6 _ hxs q
  generalize (popL L).dropLast = L2 at *;generalize atE (popL L) (L.length - 1) = x at *;generalize hte : towE x = te at *;have hro : out.map qaaa ++ [qaaa te] = (out ++ [te]).map qaaa := by simp
  have hlo : (out ++ [te]).length = out.length + 1 := by simp
  generalize out ++ [te] = O2 at *;have b1 : out.length + 1 ≤ maxLen := by unfold maxLen; omega
  have b2 : (out.length + 1) * 96 ≤ 140737488355328 := by omega
  have hg : ((L.length : Int) > 0) := by omega
  clear p1 p2 h1 h2 hxs hxm hte;replace h4 := Lib.hid h4;replace hds := Lib.hid hds;replace hdl := Lib.hid hdl;replace hro := Lib.hid hro;replace hlo := Lib.hid hlo;replace hs := Lib.hid hs;repeat' (first | ((with_reducible refine qaab ?_); (try rw [hP]); simp -implicitDefEqProofs [hcs, b1, b2, qafy, qady, qan6, *]) | ((with_reducible refine qaai ?_); (try simp -implicitDefEqProofs [hcs, b1, b2, qafy, qady, qan6, *])) | refine yA ?_ | with_reducible refine yB ?_ ?_ | ((with_reducible refine yC fun h => ?_); have h' := h; (try simp at h'); (try subst h')) | (refine qafg (k2 _ (by simp) (by simp)) ⟨rfl, rfl, trivial⟩ ⟨rfl, rfl, trivial⟩ [] (by simp) ?_; simp -implicitDefEqProofs [hcs, b1, b2, qafy, qady, qan6, *]) | (refine qabe (k3 _) ?_; simp -implicitDefEqProofs [hcs, b1, b2, qafy, qady, qan6, *]) | exact trivial)
  refine qabs hJ (L2, O2) (qabd [(4, 36)] hm ⟨Co.refl _, ?_, trivial⟩ ⟨⟨_, rfl, rfl, qae9 (some (k, m)) _ rfl⟩, ⟨_, rfl, rfl, rfl, ?_⟩, ⟨_, rfl, rfl, CoL.refl _⟩, ⟨_, rfl, rfl, rfl, ?_⟩, ⟨_, rfl, rfl, rfl, ?_⟩, trivial⟩ rfl (by simp)) ⟨h4.out, hds.out, ?_⟩ ?_
  ·simp only [hlo.out]; exact Co.refl _
  ·rw [qab9]; exact CoLL.refl _
  ·rw [qab9]; exact CoLL.refl _
  ·rw [qab9, hro.out]; exact CoLL.refl _
  ·simp only [hlo.out, hdl.out]; omega
  ·simp only [hdl.out]; omega
section
attribute [local irreducible] qacg
def qaod (l : List Entry) (e : Entry) : Int := idxV l fun x => x.prio == e.prio && qam2 x e
def addV (k m : Int) (l : List Entry) (e : Entry) : Int := if qagy k e = false then 6 else if 0 ≤ tatV l e then 7 else if 0 ≤ qaod l e then 8 else if m ≤ l.length then 10 else 0
def addR (k m : Int) (l : List Entry) (e : Entry) : List Entry := if addV k m l e = 0 then qaz2 l (towE e) else l
theorem qahs {k : Int} {e : Entry} (h : qagy k e = true) : (e.keys.length : Int) = k ∧ (e.masks.length : Int) = k := by
 unfold qagy at h;split at h
 ·cases h
 ·omega
theorem qa91 {X : Cx} {s : SSt} {c : qaew} {l : List Entry} {o : SObj} (hs : SubH s.hp (hobj c l)) (h2 : geth s.hp 2 = some o) : Wk X s ⟨s.sl, [(0, .abs (qad1 c l)), (2, o)], s.nx⟩ :=
 qbiy (hh := hobj c l) (R := fun h => h = hobj c l) rfl (by decide) rfl (fun σ h => qagm c l (h 1 (by decide))) (by simp [idsH, hobj]) hs rfl (fun id o' h ho => by
  simp only [geth, if_neg (Ne.symm h)] at ho;split at ho
  ·rename_i e; subst e; cases ho; exact ⟨h2, rfl⟩
  ·cases ho)
theorem fin_ai {X : Cx} {t nx : Nat} {n : Int} {sl : Sl} {hp : Hp} {I : AbsI} (hm : X.m = 1) (hb : gets sl t = .int .i64 n) (h : geth hp 0 = some (.abs I)) : QFun X [.tmp t] 1 (.int .i64 n) [(0, .abs I)] .ret ⟨sl, hp, nx⟩ :=
 ⟨⟨[(t, .int .i64 n)], [(0, .abs I)], 1⟩, qabd [] hm ⟨by rw [hb]; exact Co.refl _, trivial⟩ ⟨⟨_, h, rfl⟩, trivial⟩ rfl (Nat.le_refl _), by simp [qafc, resL, resV, one_, gets], ⟨rfl, trivial⟩, by simp⟩
set_option maxRecDepth 4000 in
theorem tadd_s (k m : Int) (l : List Entry) (e : Entry) (hl : l.length < 1000000) (hs : ∀ x ∈ l, qacd x) (hk : ∀ x ∈ l, qagy k x = true) (he : qacd e) : SCalls Tryz.prog 139 [.ptr 0 0, .agg (qaaa e)] [(0, .abs (qad1 (some (k, m)) l))] 1 (.int .i64 (addV k m l e)) [(0, .abs (qad1 (some (k, m)) (addR k m l e)))] := by
 have k1 := fun q => qayv k m l e he q
 have k2 := fun q => tat_o k m l e (by omega) hs he q
 have k5 := fun q => qbk6 e he q
 have k3 : qagy k e = true → ∀ id q, 2 ≤ id → _ := fun hf id q h2 => conf_o 147 e l (fun x => x.prio == e.prio && qam2 x e) (some (k, m)) id h2 (by omega) (fun x hx q => by
  have h1 := qahs (hk x hx);have h3 := qahs hf;exact ad1_s x e (hs x hx) he (by omega) (by omega) (by omega) q) q
 have k6 : ∀ q, 0 < q → SCalls Tryz.prog 149 [.ifc 176 (.ptr 0 2), .ifc 38 (.agg (qaaa (towE e)))] [(0, .abs (qad1 (some (k, m)) l))] q (.tup []) [(0, .abs (qad1 (some (k, m)) (qaz2 l (towE e))))] := fun q hq => qakq (hpush_s (some (k, m)) l (towE e) hl hs ⟨he.1, he.2.1, he.2.2⟩) (fun σ h => by simp [Go.Proofs.YtalejfkholifpaaGreat.ren, ren1, ren0, h, renA, renB, qaaa, nums]) (fun σ h => rfl) rfl q hq
 have hv : addV k m l e = if qagy k e = false then 6 else if 0 ≤ tatV l e then 7 else if 0 ≤ qaod l e then 8 else if m ≤ l.length then 10 else 0 := rfl
 have hr : addR k m l e = if addV k m l e = 0 then qaz2 l (towE e) else l := rfl
 change qagy k e = true → ∀ id q, 2 ≤ id → SCalls _ _ _ _ q (.bool (decide (0 ≤ qaod l e))) _ at k3
 generalize addV k m l e = v at hv hr;generalize addR k m l e = r at hr;generalize qagy k e = a at k1 hv k3;generalize tatV l e = b at k2 hv;generalize qaod l e = d at k3 hv;refine yF (N := 41) Tryz.func139 c_tadd ?_;rintro X hP hN hm;refine qaf1 (by omega) (by decide) (qahq _ l) fun hh h => ?_
 subst h;unfold c_tadd;unfold hobj at k1 k2 k3;generalize qaaa (towE e) = z at k5 k6;unfold qaaa at k1 k2 k3 k5;rw [show qaaa e = [nums .u64 e.keys, nums .u64 e.masks, .int .i64 e.len, .int .i64 e.prio, .int .i64 e.act, nums .u64 e.args] from rfl];unfold hobj;cases a
 ·obtain rfl : v = 6 := by rw [hv, if_pos rfl]
  obtain rfl : r = l := by rw [hr, if_neg (by decide)]
  clear k2 k3 hv hr k6;repeat' (first | refine yA ?_ | with_reducible refine yB ?_ ?_ | ((with_reducible refine yC fun h => ?_); have h' := h; (try simp at h'); (try subst h')) | refine yR (k1 _) ?_ | exact yD | refine yE ?_ | ((refine qagz hm ?_; simp only [hobj])) | exact trivial)
 ·replace k3 := k3 rfl;rw [if_neg (by decide)] at hv;by_cases hb : 0 ≤ b
  ·obtain rfl : v = 7 := by rw [hv, if_pos hb]
   obtain rfl : r = l := by rw [hr, if_neg (by decide)]
   clear k3 hv hr k6;repeat' (first | refine yA ?_ | with_reducible refine yB ?_ ?_ | ((with_reducible refine yC fun h => ?_); have h' := h; (try simp at h'); (try subst h')) | refine yR (k1 _) ?_ | refine yR (k2 _) ?_ | exact yD | refine yE ?_ | ((refine qagz hm ?_; simp only [hobj])) | exact trivial)
  ·rw [if_neg hb] at hv;by_cases hd : 0 ≤ d
   ·obtain rfl : v = 8 := by rw [hv, if_pos hd]
    obtain rfl : r = l := by rw [hr, if_neg (by decide)]
    clear hv hr k6;rw [decide_eq_true hd] at k3;repeat' (first | ((with_reducible refine qaab ?_); (try rw [hP]); simp -implicitDefEqProofs [hb, *]) | refine yA ?_ | with_reducible refine yB ?_ ?_ | ((with_reducible refine yC fun h => ?_); have h' := h; (try simp at h'); (try subst h')) | (refine yR (k1 _) ?_; simp -implicitDefEqProofs [hb, *]) | (refine yR (k2 _) ?_; simp -implicitDefEqProofs [hb, *]) | (refine yR (k3 _ _ (by simp)) ?_; simp -implicitDefEqProofs [hb, *]) | exact yD | refine yE ?_ | ((refine qagz hm ?_; simp only [hobj])) | exact trivial)
    all_goals trace_state
   ·rw [if_neg hd] at hv;rw [decide_eq_false hd] at k3;by_cases hml : m ≤ l.length
    ·obtain rfl : v = 10 := by rw [hv, if_pos hml]
     obtain rfl : r = l := by rw [hr, if_neg (by decide)]
     clear hv hr k6;have c0 : hcs (some (k, m)) r.length = [.int .i64 k, .int .i64 m, .own 1 r.length] := rfl;repeat' (first | ((with_reducible first | refine qaab ?_ | refine qaaz (by rw [hP]; exact mixed) ?_); (try rw [hP]); simp -implicitDefEqProofs [hb, hml, hcs, *]) | refine yA ?_ | with_reducible refine yB ?_ ?_ | ((with_reducible refine yC fun h => ?_); have h' := h; (try simp at h'); (try subst h')) | (refine yR (k1 _) ?_; simp -implicitDefEqProofs [hb, hml, hcs, *]) | (refine yR (k2 _) ?_; simp -implicitDefEqProofs [hb, hml, hcs, *]) | (refine yR (k3 _ _ (by simp)) ?_; simp -implicitDefEqProofs [hb, hml, hcs, *]) | exact yD | refine yE ?_ | ((refine qagz hm ?_; simp only [hobj])) | exact trivial)
     all_goals trace_state
    ·obtain rfl : v = 0 := by rw [hv, if_neg hml]
     rw [if_pos rfl] at hr;rw [← hr] at k6;clear hv hr;replace k6 := Lib.hid k6;repeat' (first | ((with_reducible refine qadg (c := .seq (.reg true qaom []) _) ?_)) | ((with_reducible first | refine qaab ?_ | refine qaaz (by rw [hP]; exact mixed) ?_); (try rw [hP]); simp -implicitDefEqProofs [hb, hml, hcs, *]) | ((with_reducible refine qaai ?_); (try simp -implicitDefEqProofs [hb, hml, hcs, *])) | refine yA ?_ | with_reducible refine yB ?_ ?_ | ((with_reducible refine yC fun h => ?_); have h' := h; (try simp at h'); (try subst h')) | (refine yR (k1 _) ?_; simp -implicitDefEqProofs [hb, hml, hcs, *]) | (refine yR (k2 _) ?_; simp -implicitDefEqProofs [hb, hml, hcs, *]) | (refine yR (k3 _ _ (by simp)) ?_; simp -implicitDefEqProofs [hb, hml, hcs, *]) | exact trivial)
     constructor;refine qad8 (qa91 (c := some (k, m)) (l := l) ⟨rfl, rfl, trivial⟩ rfl) ?_;repeat' (first | refine yA ?_ | refine qabe (k5 _) ?_ | refine qafg (k6.out _ (by simp)) ⟨rfl, trivial⟩ ⟨rfl, trivial⟩ [] (by simp) ?_ | (exact fin_ai hm rfl rfl) | exact trivial)
     all_goals trace_state
end
end
theorem u64_bv {x : Int} (h : 0 ≤ x ∧ x ≤ 18446744073709551615) : ∃ v : BitVec 64, x = (v.toNat : Int) := ⟨BitVec.ofNat 64 x.toNat, by rw [BitVec.toNat_ofNat, Nat.mod_eq_of_lt (by omega)]; omega⟩
theorem qalq (v : BitVec 64) : BitVec.ofInt 64 (v.toNat : Int) = v := by
 rw [BitVec.ofInt_natCast]; simp
theorem qa9d (v : BitVec 64) : IntKind.u64.wrap (v.toNat : Int) = v.toNat := qasd (by omega) (by have := v.isLt; omega)
theorem qa9e {v w : BitVec 64} : (v.toNat : Int) = w.toNat ↔ v = w := ⟨fun h => BitVec.eq_of_toNat_eq (by omega), fun h => by rw [h]⟩
theorem qae1 (x y : Int) : bits .and .u64 x y = ((BitVec.ofInt 64 x &&& BitVec.ofInt 64 y).toNat : Int) := qa9d _
theorem qbii (x y : Int) : bits .xor .u64 x y = ((BitVec.ofInt 64 x ^^^ BitVec.ofInt 64 y).toNat : Int) := qa9d _
theorem qar7 (x y : Int) : bits .andNot .u64 x y = ((BitVec.ofInt 64 x &&& ~~~BitVec.ofInt 64 y).toNat : Int) := qa9d _
def qasx (a b m n : Int) : Int := bits .and .u64 (bits .and .u64 (bits .xor .u64 a b) m) n
theorem qajy (a b m n : Int) : qasx a b m n = (((BitVec.ofInt 64 a ^^^ BitVec.ofInt 64 b) &&& BitVec.ofInt 64 m &&& BitVec.ofInt 64 n).toNat : Int) := by
 unfold qasx;rw [qbii, qae1, qae1, qalq, qalq]
theorem qa0o (a b m n : Int) : qasx a b m n = qasx b a n m := by
 rw [qajy, qajy, BitVec.xor_comm, BitVec.and_assoc, BitVec.and_comm (BitVec.ofInt 64 m), ← BitVec.and_assoc]
theorem qajx (a m n : Int) : qasx a a m n = 0 := by
 rw [qajy, BitVec.xor_self, BitVec.zero_and, BitVec.zero_and]; rfl
theorem qbaz {x a b m n : Int} (h1 : bits .and .u64 x m = a) (h2 : bits .and .u64 x n = b) : qasx a b m n = 0 := by
 subst h1 h2;rw [qajy, qae1, qae1, qalq, qalq, show (0 : Int) = ((0#64).toNat : Int) by rfl, qa9e];ext i hi
 simp;cases (BitVec.ofInt 64 x)[i] <;> cases (BitVec.ofInt 64 m)[i] <;> cases (BitVec.ofInt 64 n)[i] <;> decide
theorem qanq : ∀ xa xb xm xn : List Int, qasw xa xb xm xn = qasw xb xa xn xm
 | [], xb, xm, xn => by cases xb <;> cases xm <;> cases xn <;> rfl
 | _ :: _, [], xm, xn => by cases xm <;> cases xn <;> rfl
 | _ :: _, _ :: _, [], xn => by cases xn <;> rfl
 | _ :: _, _ :: _, _ :: _, [] => rfl
 | a :: xa, b :: xb, m :: xm, n :: xn => by
  have h := qa0o a b m n;unfold qasx at h;rw [qasw, qasw, h, qanq xa xb xm xn]
theorem qahl : ∀ xa xb xm xn : List Int, (∀ i, i < xa.length → qasx (el xa i) (el xb i) (el xm i) (el xn i) = 0) → qasw xa xb xm xn = true
 | [], xb, xm, xn, _ => by cases xb <;> cases xm <;> cases xn <;> rfl
 | _ :: _, [], xm, xn, _ => by cases xm <;> cases xn <;> rfl
 | _ :: _, _ :: _, [], xn, _ => by cases xn <;> rfl
 | _ :: _, _ :: _, _ :: _, [], _ => rfl
 | a :: xa, b :: xb, m :: xm, n :: xn, h => by
  have h0 := h 0 (by simp);simp only [qarh] at h0;unfold qasx at h0;rw [qasw, if_neg (by rw [h0]; simp)];exact qahl xa xb xm xn fun i hi => by
   have := h (i + 1) (by simp; omega);simpa only [qari] using this
theorem qa0n (a b : Entry) : qam2 a b = qam2 b a := qanq _ _ _ _
def qbp9 (l : List Entry) : Prop := l.Pairwise fun a b => ¬ (a.prio = b.prio ∧ qam2 a b = true)
structure TInv (k : Int) (l : List Entry) : Prop where
 heap : Heap l
 small : ∀ x ∈ l, qacd x
 fit : ∀ x ∈ l, qagy k x = true
 len0 : ∀ x ∈ l, x.len = 0
 no : qbp9 l
theorem qagi {l l' : List Entry} (h : l.Perm l') (hl : qbp9 l) : qbp9 l' :=
 (h.pairwise_iff fun {a b} hab hba => hab ⟨hba.1.symm, by rw [qa0n]; exact hba.2⟩).1 hl
theorem qayt (k : Int) : TInv k [] := ⟨qbmx, fun x hx => (by cases hx), fun x hx => (by cases hx), fun x hx => (by cases hx), List.Pairwise.nil⟩
theorem qbk7 (e : Entry) (h : e.len = 0) : towE e = e := by
 cases e; simp only at h; subst h; rfl
theorem qbmw {l : List Entry} {p : Entry → Bool} (h : ¬ 0 ≤ idxV l p) : ∀ x ∈ l, p x = false := by
 unfold idxV at h;split at h
 ·omega
 ·rename_i h1; exact fun x hx => by have := List.findIdx?_eq_none_iff.1 h1 x hx; simpa using this
theorem qay1 {l : List Entry} {e : Entry} {i : Nat} (h : tatV l e = i) : ∃ hi : i < l.length, ordE l[i] e = 0 := by
 unfold tatV idxV at h;split at h
 ·rename_i j hj;obtain ⟨h1, h2, _⟩ := List.findIdx?_eq_some_iff_getElem.1 hj;obtain rfl : j = i := by omega
  exact ⟨h1, by simpa using h2⟩
 ·omega
theorem qaug {k m : Int} {l : List Entry} {e : Entry} (h : addV k m l e = 0) : qagy k e = true ∧ ¬ 0 ≤ tatV l e ∧ ¬ 0 ≤ qaod l e ∧ ¬ m ≤ l.length := by
 unfold addV at h;split at h
 ·cases h
 ·split at h
  ·cases h
  ·split at h
   ·cases h
   ·split at h
    ·cases h
    ·exact ⟨by simp_all, by assumption, by assumption, by assumption⟩
theorem qa9o {k m : Int} {l : List Entry} {e : Entry} (h : TInv k l) (he : qacd e) : TInv k (addR k m l e) := by
 unfold addR;by_cases h0 : addV k m l e = 0
 ·rw [if_pos h0];obtain ⟨q1, -, q3, -⟩ := qaug h0;have hm : ∀ x, x ∈ qaz2 l (towE e) → x ∈ l ∨ x = towE e := fun x hx => by
   have := (qafd l (towE e)).mem_iff.1 hx;simpa using this
  refine ⟨qbak h.heap _, fun x hx => ?_, fun x hx => ?_, fun x hx => ?_, qagi (qafd l (towE e)).symm ?_⟩
  ·rcases hm x hx with h1 | rfl
   ·exact h.small x h1
   ·exact ⟨he.1, he.2.1, he.2.2⟩
  ·rcases hm x hx with h1 | rfl
   ·exact h.fit x h1
   ·exact q1
  ·rcases hm x hx with h1 | rfl
   ·exact h.len0 x h1
   ·rfl
  ·refine List.pairwise_append.2 ⟨h.no, List.pairwise_singleton _ _, fun a ha b hb => ?_⟩;rw [List.mem_singleton.1 hb];rintro ⟨h1, h2⟩;have := qbmw q3 a ha;have h1' : a.prio = e.prio := h1;have e1 : (a.prio == e.prio) = true := by simpa using h1'
   rw [e1, Bool.true_and] at this;rw [show qam2 a e = true from h2] at this; cases this
 ·rw [if_neg h0]; exact h
theorem sub_inv {k : Int} {l L : List Entry} (h : TInv k l) (hh : Heap L.dropLast) (hp : L.Perm l) : TInv k L.dropLast := by
 have hm : ∀ x, x ∈ L.dropLast → x ∈ l := fun x hx => hp.mem_iff.1 ((List.dropLast_sublist _).mem hx)
 exact ⟨hh, fun x hx => h.small x (hm x hx), fun x hx => h.fit x (hm x hx), fun x hx => h.len0 x (hm x hx), (qagi hp.symm h.no).sublist (List.dropLast_sublist _)⟩
theorem qata {k : Int} {l : List Entry} {e : Entry} (h : TInv k l) : TInv k (qave k l e) := by
 unfold qave;split
 ·exact h
 ·split
  ·exact h
  ·rename_i h1;obtain ⟨i, h2, h3⟩ := qakl l e h1;rw [h2, Int.toNat_natCast];exact sub_inv h (qazu h.heap i h3).1 (qafo l i)
theorem qa1z {k : Int} {l : List Entry} {e : Entry} (h : TInv k l) (he : qacd e) : TInv k (chgR k l e) := by
 unfold chgR;split
 ·exact h
 ·rename_i hf;split
  ·exact h
  ·rename_i h1;obtain ⟨i, h2, h3⟩ := qakl l e h1;rw [h2, Int.toNat_natCast];obtain ⟨hi, ho⟩ := qay1 h2;have hm : ∀ x, x ∈ l.set i (towE e) → x ∈ l ∨ x = towE e := fun x hx => List.mem_or_eq_of_mem_set hx
   obtain ⟨z1, z2, z3⟩ := (qadq _ _).1 ho;refine ⟨qblh h.heap i _ hi (by rw [qa9g hi]; exact ho), fun x hx => ?_, fun x hx => ?_, fun x hx => ?_, ?_⟩
   ·rcases hm x hx with h1 | rfl
    ·exact h.small x h1
    ·exact ⟨he.1, he.2.1, he.2.2⟩
   ·rcases hm x hx with h1 | rfl
    ·exact h.fit x h1
    ·have hff : qagy k e = true := by simpa using hf
     exact hff
   ·rcases hm x hx with h1 | rfl
    ·exact h.len0 x h1
    ·rfl
   ·have q : ∀ j (hj : j < (l.set i (towE e)).length) (hj' : j < l.length), (l.set i (towE e))[j].prio = l[j].prio ∧ (l.set i (towE e))[j].keys = l[j].keys ∧ (l.set i (towE e))[j].masks = l[j].masks := fun j hj hj' => by
     rw [List.getElem_set];split
     ·rename_i e1; subst e1; exact ⟨z1.symm, z2.symm, z3.symm⟩
     ·exact ⟨rfl, rfl, rfl⟩
    refine List.pairwise_iff_getElem.2 fun a b ha hb hab => ?_
    have ha' : a < l.length := by simpa using ha
    have hb' : b < l.length := by simpa using hb
    obtain ⟨a1, a2, a3⟩ := q a ha ha';obtain ⟨b1, b2, b3⟩ := q b hb hb';have := List.pairwise_iff_getElem.1 h.no a b ha' hb' hab;unfold qam2 at this ⊢;rw [a1, a2, a3, b1, b2, b3]; exact this
theorem qbiq {k m : Int} {l : List Entry} {e : Entry} (h : (l.length : Int) ≤ max m 0) : ((addR k m l e).length : Int) ≤ max m 0 := by
 unfold addR;by_cases h0 : addV k m l e = 0
 ·rw [if_pos h0, (qafd l (towE e)).length_eq];have := (qaug h0).2.2.2;simp; omega
 ·rw [if_neg h0]; exact h
theorem qbbo {k : Int} {l : List Entry} {e : Entry} : (qave k l e).length ≤ l.length := by
 unfold qave; split
 ·omega
 ·split
  ·omega
  ·rw [List.length_dropLast, (qafo _ _).length_eq]; omega
theorem qbnk {k : Int} {l : List Entry} {e : Entry} : (chgR k l e).length = l.length := by
 unfold chgR; split
 ·rfl
 ·split
  ·rfl
  ·simp
def fitK (xs : List Int) (e : Entry) : Bool := (List.range xs.length).all fun i => bits .and .u64 (el xs i) (el e.masks i) == el e.keys i
theorem qba8 {xs : List Int} {a b : Entry} (ha : fitK xs a = true) (hb : fitK xs b = true) (hl : a.keys.length ≤ xs.length) : qam2 a b = true :=
 qahl _ _ _ _ fun i hi => qbaz (by have := List.all_eq_true.1 ha i (List.mem_range.2 (by omega)); simpa using this) (by have := List.all_eq_true.1 hb i (List.mem_range.2 (by omega)); simpa using this)
theorem qbmq {a b : Entry} (h : leE a b) : a.prio ≤ b.prio := by
 rw [qanw] at h;rcases h with h | h <;> omega
theorem qaih {k : Int} {l : List Entry} (h : TInv k l) : (qain l).Perm l := by
 have h1 := qay2 l;have h2 : l.map towE = l := by
  have : l.map towE = l.map id := List.map_congr_left fun x hx => qbk7 x (h.len0 x hx)
  rw [this, List.map_id]
 rw [h2] at h1; exact h1
theorem all_lt {k : Int} {l : List Entry} (h : TInv k l) {xs : List Int} (hx : (xs.length : Int) = k) {f i : Nat} (hfi : f < i) (hi : i < (qain l).length) (ha : fitK xs ((qain l)[f]'(by omega)) = true) (hb : fitK xs (qain l)[i] = true) : ((qain l)[f]'(by omega)).prio < (qain l)[i].prio := by
 have hp := qaih h;have h1 := qbmq (List.pairwise_iff_getElem.1 (qajd h.heap) f i (by omega) hi hfi);have h2 := List.pairwise_iff_getElem.1 (qagi hp.symm h.no) f i (by omega) hi hfi;have h3 := (qahs (h.fit _ (hp.mem_iff.1 (List.getElem_mem (show f < (qain l).length by omega))))).1;have h4 := qba8 ha hb (by omega);have : ((qain l)[f]'(by omega)).prio ≠ (qain l)[i].prio := fun e => h2 ⟨e, h4⟩
 omega
theorem qar8 {a m : Int} (ha : 0 ≤ a ∧ a ≤ 18446744073709551615) : bits .andNot .u64 a m = 0 ↔ bits .and .u64 a m = a := by
 obtain ⟨v, rfl⟩ := u64_bv ha;rw [qar7, qae1, qalq, qa9e, show (0 : Int) = ((0#64).toNat : Int) by rfl, qa9e];constructor
 ·intro h;ext i hi
  have := congrArg (fun z => z.getLsbD i) h;simp [hi] at this ⊢;exact this
 ·intro h;ext i hi
  have := congrArg (fun z => z.getLsbD i) h;simp [hi] at this ⊢;exact this
theorem qanr : ∀ ks ms : List Int, ks.length = ms.length → (∀ x ∈ ks, 0 ≤ x ∧ x ≤ 18446744073709551615) → mayB ks ms = qayx ks ms
 | [], ms, _, _ => by cases ms <;> simp [mayB, qayx]
 | _ :: _, [], h, _ => by simp at h
 | a :: ks, m :: ms, h, hf => by
  have ih := qanr ks ms (by simpa using h) fun x hx => hf x (by simp [hx])
  have h1 := qar8 (m := m) (hf a (by simp));have e : mayB (a :: ks) (m :: ms) = ((bits .and .u64 a m == a) && mayB ks ms) := by
   unfold mayB;rw [List.length_cons, List.range_succ_eq_map, List.all_cons, List.all_map];rfl
  rw [e, qayx, ih];by_cases h2 : bits .and .u64 a m = a
  ·rw [if_neg (by rw [h1.2 h2]; simp), beq_iff_eq.2 h2, Bool.true_and]
  ·rw [if_pos (fun h3 => h2 (h1.1 h3)), beq_eq_false_iff_ne.2 h2, Bool.false_and]
theorem qa0p {k wd : Int} {e : Entry} (hf : ∀ x ∈ e.keys, 0 ≤ x ∧ x ≤ 18446744073709551615) : mayC 3 k wd e = if qagy k e = true then 0 else 6 := by
 unfold mayC qagy;rw [if_neg (by decide), if_neg (by decide), if_pos rfl];by_cases h1 : (e.keys.length : Int) = k
 ·by_cases h2 : (e.masks.length : Int) = k
  ·have h3 := qanr e.keys e.masks (by omega) hf;rw [h3, if_neg (show ¬ ((e.keys.length : Int) ≠ k ∨ (e.masks.length : Int) ≠ k) by omega)];by_cases h4 : 0 ≤ e.prio
   ·by_cases h5 : e.prio ≤ 1000
    ·simp [h1, h2, h4, h5]
    ·simp [h5]
   ·simp [h4]
  ·simp [h2]
 ·simp [h1]
theorem qaqx (a b : Entry) : oneB 3 a b = (ordE a b == 0) := by
 have h := qadq a b;unfold oneB;by_cases hz : ordE a b = 0
 ·obtain ⟨h1, h2, h3⟩ := h.1 hz;simp [h1, h2, h3, hz]
 ·rw [beq_eq_false_iff_ne.2 hz];by_cases h1 : a.prio = b.prio
  ·by_cases h2 : a.masks = b.masks
   ·by_cases h3 : a.keys = b.keys
    ·exact absurd (h.2 ⟨h1, h3, h2⟩) hz
    ·simp [h3]
   ·simp [h2]
  ·simp [h1]
theorem qaud (L : List Entry) (e : Entry) : 0 ≤ atI 3 L e ↔ ∃ x ∈ L, ordE x e = 0 := by
 unfold atI;constructor
 ·intro h;split at h
  ·rename_i h1;have := qafs _ _ (show qaey _ L.length < L.length from h1);split at this
   ·rename_i a ha;exact ⟨a, List.mem_of_getElem? ha, by rw [qaqx] at this; simpa using this⟩
   ·cases this
  ·omega
 ·rintro ⟨x, hx, ho⟩;obtain ⟨i, hi, rfl⟩ := List.mem_iff_getElem.1 hx;split
  ·omega
  ·rename_i h1;have h9 : atN 3 L e = L.length := Nat.le_antisymm (qaht _ _) (by omega);have h2 := qan2 _ _ h9 i hi;simp only [List.getElem?_eq_getElem hi] at h2;rw [qaqx, ho] at h2;simp at h2
theorem qay0 (l : List Entry) (e : Entry) : 0 ≤ tatV l e ↔ ∃ x ∈ l, ordE x e = 0 := by
 unfold tatV idxV;split
 ·rename_i i hi;obtain ⟨h1, h2, _⟩ := List.findIdx?_eq_some_iff_getElem.1 hi;exact ⟨fun _ => ⟨_, List.getElem_mem h1, by simpa using h2⟩, fun _ => by omega⟩
 ·rename_i hi;have h1 := List.findIdx?_eq_none_iff.1 hi;constructor
  ·intro h; omega
  ·rintro ⟨x, hx, ho⟩;have := h1 x hx;rw [ho] at this; simp at this
theorem qa1w (l : List Entry) (e : Entry) : 0 ≤ qaod l e ↔ ∃ x ∈ l, (x.prio == e.prio && qam2 x e) = true := by
 unfold qaod idxV;split
 ·rename_i i hi;obtain ⟨h1, h2, _⟩ := List.findIdx?_eq_some_iff_getElem.1 hi;exact ⟨fun _ => ⟨_, List.getElem_mem h1, h2⟩, fun _ => by omega⟩
 ·rename_i hi;have h1 := List.findIdx?_eq_none_iff.1 hi;constructor
  ·intro h; omega
  ·rintro ⟨x, hx, ho⟩;have := h1 x hx;rw [ho] at this; cases this
theorem qbay (a b m n : Int) : (qasx a b m n == 0) = (bits .and .u64 b (bits .and .u64 n m) == bits .and .u64 a (bits .and .u64 n m)) := by
 rw [Bool.eq_iff_iff, beq_iff_eq, beq_iff_eq, qajy, qae1 n m, qae1, qae1, qalq, show (0 : Int) = ((0#64).toNat : Int) by rfl, qa9e, qa9e];constructor
 ·intro h;ext i hi
  have := congrArg (fun z => z.getLsbD i) h;simp [hi] at this ⊢;revert this
  cases (BitVec.ofInt 64 a)[i] <;> cases (BitVec.ofInt 64 b)[i] <;> cases (BitVec.ofInt 64 m)[i] <;> cases (BitVec.ofInt 64 n)[i] <;> decide
 ·intro h;ext i hi
  have := congrArg (fun z => z.getLsbD i) h;simp [hi] at this ⊢;revert this
  cases (BitVec.ofInt 64 a)[i] <;> cases (BitVec.ofInt 64 b)[i] <;> cases (BitVec.ofInt 64 m)[i] <;> cases (BitVec.ofInt 64 n)[i] <;> decide
theorem qaky : ∀ xa xb xm xn : List Int, xb.length = xa.length → xm.length = xa.length → xn.length = xa.length → qasw xa xb xm xn = (List.range xa.length).all fun i => qasx (el xa i) (el xb i) (el xm i) (el xn i) == 0
 | [], xb, xm, xn, _, _, _ => by cases xb <;> cases xm <;> cases xn <;> rfl
 | _ :: _, [], xm, xn, h, _, _ => by simp at h
 | _ :: _, _ :: _, [], xn, _, h, _ => by simp at h
 | _ :: _, _ :: _, _ :: _, [], _, _, h => by simp at h
 | a :: xa, b :: xb, m :: xm, n :: xn, h1, h2, h3 => by
  have ih := qaky xa xb xm xn (by simpa using h1) (by simpa using h2) (by simpa using h3);rw [qasw, ih, List.length_cons, List.range_succ_eq_map, List.all_cons, List.all_map];show (if qasx a b m n ≠ 0 then false else _) = ((qasx a b m n == 0) && _)
  by_cases h : qasx a b m n = 0
  ·rw [if_neg (by simp [h]), beq_iff_eq.2 h, Bool.true_and]; rfl
  ·rw [if_pos h, beq_eq_false_iff_ne.2 h, Bool.false_and]
theorem qakx {k : Int} {a e : Entry} (ha : (a.keys.length : Int) = k ∧ (a.masks.length : Int) = k) (he : (e.keys.length : Int) = k ∧ (e.masks.length : Int) = k) : qakf k.toNat a e = (a.prio == e.prio && qam2 a e) := by
 unfold qakf qam2;rw [qaky _ _ _ _ (by omega) (by omega) (by omega), show k.toNat = a.keys.length by omega];simp only [qbay]
structure RelV (k : Int) (l L : List Entry) : Prop where
 inv : TInv k l
 perm : l.Perm L
theorem qbly (k : Int) : RelV k [] [] := ⟨qayt k, .nil⟩
def qalu (e : Entry) : Prop := ∀ x ∈ e.keys, 0 ≤ x ∧ x ≤ 18446744073709551615
theorem qa03 {α : Type} {p q : Prop} [Decidable p] [Decidable q] (h : p ↔ q) (a b : α) : (if p then a else b) = if q then a else b := by
 by_cases hp : p
 ·rw [if_pos hp, if_pos (h.1 hp)]
 ·rw [if_neg hp, if_neg fun hq => hp (h.2 hq)]
theorem qa9n {k m wd : Int} {l L : List Entry} {e : Entry} (h : RelV k l L) (hf : qalu e) : addC 3 k wd m L e = addV k m l e := by
 unfold addC addV;rw [qa0p hf];by_cases h1 : qagy k e = true
 ·rw [if_pos h1, if_pos rfl, if_neg (show ¬ qagy k e = false by simp [h1])];have h2 : (0 ≤ atI 3 L e) ↔ (0 ≤ tatV l e) := by
   rw [qaud, qay0];exact ⟨fun ⟨x, hx, ho⟩ => ⟨x, h.perm.mem_iff.2 hx, ho⟩, fun ⟨x, hx, ho⟩ => ⟨x, h.perm.mem_iff.1 hx, ho⟩⟩
  have h3 : (((3 : Int) = 3) ∧ L.any (fun a => qakf k.toNat a e) = true) ↔ (0 ≤ qaod l e) := by
   rw [qa1w, List.any_eq_true];constructor
   ·rintro ⟨-, x, hx, ho⟩;have hx' := h.perm.mem_iff.2 hx;exact ⟨x, hx', by rw [← qakx (qahs (h.inv.fit x hx')) (qahs h1)]; exact ho⟩
   ·rintro ⟨x, hx, ho⟩;exact ⟨rfl, x, h.perm.mem_iff.1 hx, by rw [qakx (qahs (h.inv.fit x hx)) (qahs h1)]; exact ho⟩
  rw [qa03 h2, qa03 h3, h.perm.length_eq]
 ·rw [if_neg h1, if_neg (by decide), if_pos (by simpa using h1)]
theorem add_rel {k m wd : Int} {l L : List Entry} {e : Entry} (h : RelV k l L) (hf : qalu e) (he : qacd e) : RelV k (addR k m l e) (if addC 3 k wd m L e = 0 then L ++ [qais 3 e] else L) := by
 refine ⟨qa9o h.inv he, ?_⟩;rw [qa9n h hf];unfold addR;by_cases h0 : addV k m l e = 0
 ·rw [if_pos h0, if_pos h0];exact (qafd l (towE e)).trans (h.perm.append_right _)
 ·rw [if_neg h0, if_neg h0]; exact h.perm
theorem qai5 {k wd : Int} {l L : List Entry} {e : Entry} (h : RelV k l L) (hf : qalu e) : chgC 3 k wd L e = dropV k l e := by
 unfold chgC dropV;rw [qa0p hf];by_cases h1 : qagy k e = true
 ·have h2 : (0 ≤ atI 3 L e) ↔ (0 ≤ tatV l e) := by
   rw [qaud, qay0];exact ⟨fun ⟨x, hx, ho⟩ => ⟨x, h.perm.mem_iff.2 hx, ho⟩, fun ⟨x, hx, ho⟩ => ⟨x, h.perm.mem_iff.1 hx, ho⟩⟩
  rw [if_pos h1, if_pos rfl, if_neg (show ¬ qagy k e = false by simp [h1]), qa03 h2];by_cases h3 : 0 ≤ tatV l e
  ·rw [if_pos h3, if_neg (by omega)]
  ·rw [if_neg h3, if_pos (by omega)]
 ·rw [if_neg h1, if_neg (by decide), if_pos (by simpa using h1)]
theorem qazi {k : Int} {l L : List Entry} {e : Entry} (h : RelV k l L) {i j : Nat} (hi : i < l.length) (hj : j < L.length) (h1 : ordE l[i] e = 0) (h2 : ordE L[j] e = 0) : l[i] = L[j] := by
 obtain ⟨p, hp, he⟩ := List.mem_iff_getElem.1 (h.perm.mem_iff.2 (List.getElem_mem hj));rcases Nat.lt_trichotomy i p with hip | hip | hip
 ·exfalso;have h3 := List.pairwise_iff_getElem.1 h.inv.no i p hi hp hip;rw [he] at h3;obtain ⟨a1, a2, a3⟩ := (qadq _ _).1 h1;obtain ⟨b1, b2, b3⟩ := (qadq _ _).1 h2;refine h3 ⟨by rw [a1, b1], ?_⟩;unfold qam2;rw [a2, b2];exact qahl _ _ _ _ fun i _ => qajx _ _ _
 ·subst hip; exact he
 ·exfalso;have h3 := List.pairwise_iff_getElem.1 h.inv.no p i hp hi hip;rw [he] at h3;obtain ⟨a1, a2, a3⟩ := (qadq _ _).1 h1;obtain ⟨b1, b2, b3⟩ := (qadq _ _).1 h2;refine h3 ⟨by rw [a1, b1], ?_⟩;unfold qam2;rw [a2, b2];exact qahl _ _ _ _ fun i _ => qajx _ _ _
theorem atN_at {L : List Entry} {e : Entry} (h : 0 ≤ atI 3 L e) : ∃ hj : atN 3 L e < L.length, ordE L[atN 3 L e] e = 0 := by
 unfold atI at h;split at h
 ·rename_i h1;refine ⟨h1, ?_⟩;have := qafs _ _ (show qaey _ L.length < L.length from h1);change (match L[atN 3 L e]? with | some a => oneB 3 a e | none => false) = true at this
  rw [List.getElem?_eq_getElem h1] at this;simp only [qaqx] at this;simpa using this
 ·omega
theorem qas9 {k : Int} {l L : List Entry} {e : Entry} (h : RelV k l L) {i j : Nat} (hi : i < l.length) (hj : j < L.length) (h1 : ordE l[i] e = 0) (h2 : ordE L[j] e = 0) : (l.eraseIdx i).Perm (L.eraseIdx j) := by
 have he := qazi h hi hj h1 h2;have p1 := (qaf7 l i hi).symm.trans (h.perm.trans (qaf7 L j hj));rw [he] at p1;exact (List.perm_cons _).1 p1
theorem chg_rel {k wd : Int} {l L : List Entry} {e : Entry} (h : RelV k l L) (hf : qalu e) (he : qacd e) : RelV k (chgR k l e) (chgL 3 k wd L e) := by
 refine ⟨qa1z h.inv he, ?_⟩;unfold chgL;rw [qai5 h hf];unfold chgR dropV;by_cases h1 : qagy k e = false
 ·rw [if_pos h1, if_pos h1, if_neg (by decide)]; exact h.perm
 ·rw [if_neg h1, if_neg h1];by_cases h2 : tatV l e < 0
  ·rw [if_pos h2, if_pos h2, if_neg (by decide)]; exact h.perm
  ·rw [if_neg h2, if_neg h2, if_pos rfl];obtain ⟨i, h3, h4⟩ := qakl l e h2;rw [h3, Int.toNat_natCast];obtain ⟨hi, ho⟩ := qay1 h3;have h5 : 0 ≤ atI 3 L e := (qaud L e).2 ⟨_, h.perm.mem_iff.1 (List.getElem_mem hi), ho⟩;obtain ⟨hj, ho2⟩ := atN_at h5;exact (qaqk l i hi _).trans (((qas9 h hi hj ho ho2).cons _).trans (qaqk L _ hj _).symm)
theorem qbna {k wd : Int} {l L : List Entry} {e : Entry} (h : RelV k l L) (hf : qalu e) : RelV k (qave k l e) (qai6 3 k wd L e) := by
 refine ⟨qata h.inv, ?_⟩;have hd : qaha 3 k wd L e = dropV k l e := qai5 h hf;unfold qai6;rw [hd];unfold qave dropV;by_cases h1 : qagy k e = false
 ·rw [if_pos h1, if_pos h1, if_neg (by decide)]; exact h.perm
 ·rw [if_neg h1, if_neg h1];by_cases h2 : tatV l e < 0
  ·rw [if_pos h2, if_pos h2, if_neg (by decide)]; exact h.perm
  ·rw [if_neg h2, if_neg h2, if_pos rfl];obtain ⟨i, h3, h4⟩ := qakl l e h2;rw [h3, Int.toNat_natCast];obtain ⟨hi, ho⟩ := qay1 h3;have h5 : 0 ≤ atI 3 L e := (qaud L e).2 ⟨_, h.perm.mem_iff.1 (List.getElem_mem hi), ho⟩;obtain ⟨hj, ho2⟩ := atN_at h5;have hr := (qazu h.inv.heap i hi).2;have hrl : (remL l i).length = l.length := (qafo l i).length_eq;have hdl : remL l i = (remL l i).dropLast ++ [l[i]] := by
    rcases List.eq_nil_or_concat (remL l i) with h6 | ⟨Q, x, h6⟩
    ·rw [h6] at hrl; simp at hrl; omega
    ·have hQ : Q.length = l.length - 1 := by rw [h6] at hrl; simp at hrl; omega
     have : atE (remL l i) (l.length - 1) = x := by unfold atE; rw [h6, ← hQ]; simp
     rw [this, qa9g hi] at hr;rw [h6, hr]; simp
   have p1 : (l[i] :: (remL l i).dropLast).Perm (l[i] :: l.eraseIdx i) := by
    refine (List.perm_append_singleton _ _).symm.trans ?_;rw [← hdl];exact (qafo l i).trans (qaf7 l i hi)
   rw [← List.eraseIdx_eq_take_drop_succ];exact ((List.perm_cons _).1 p1).trans (qas9 h hi hj ho ho2)
theorem qa08 (wd : Int) (e : Entry) (xs : List Int) : qak2 3 wd e xs = fitK xs e := by
 unfold qak2 fitK;rw [if_neg (by decide), if_neg (by decide)]
theorem qaua (wd : Int) (L : List Entry) (xs : List Int) (h0 : ∀ x ∈ L, x.len = 0) : ∀ i, i ≤ L.length → (qail 3 wd L xs i = -1 ∧ ∀ j (hj : j < L.length), j < i → fitK xs L[j] = false) ∨ ∃ (b : Nat) (hb : b < L.length), qail 3 wd L xs i = b ∧ fitK xs L[b] = true ∧ ∀ j (hj : j < L.length), j < i → fitK xs L[j] = true → L[b].prio ≤ L[j].prio
 | 0, _ => .inl ⟨rfl, fun j _ hj => absurd hj (by omega)⟩
 | i + 1, h => by
  have ih := qaua wd L xs h0 i (by omega);have hi : i < L.length := by omega
  have e : qail 3 wd L xs (i + 1) = qbi2 3 wd L xs i (qail 3 wd L xs i) := rfl;rw [qajh hi, qa08] at e;rcases ih with ⟨h1, h2⟩ | ⟨b, hb, h1, h2, h3⟩
  ·rw [h1] at e;cases hx : fitK xs L[i]
   ·rw [hx, Bool.false_and, if_neg (by decide)] at e;refine .inl ⟨e, fun j hj hji => ?_⟩;rcases Nat.lt_or_ge j i with h3 | h3
    ·exact h2 j hj h3
    ·obtain rfl : j = i := by omega
     exact hx
   ·rw [hx, Bool.true_and, if_pos (by simp [qafh])] at e;refine .inr ⟨i, hi, e, hx, fun j hj hji hf => ?_⟩;rcases Nat.lt_or_ge j i with h3 | h3
    ·rw [h2 j hj h3] at hf; cases hf
    ·obtain rfl : j = i := by omega
     omega
  ·rw [h1] at e;have hbb : qafh L[i] L (b : Int) = decide (L[i].prio < L[b].prio) := by
    unfold qafh;rw [Int.toNat_natCast, List.getElem?_eq_getElem hb];simp only;rw [h0 _ (List.getElem_mem hi), h0 _ (List.getElem_mem hb)];simp;intro hbn; omega
   rw [hbb] at e;by_cases hc : (fitK xs L[i] && decide (L[i].prio < L[b].prio)) = true
   ·rw [if_pos hc] at e;simp only [Bool.and_eq_true, decide_eq_true_eq] at hc;refine .inr ⟨i, hi, e, hc.1, fun j hj hji hf => ?_⟩;rcases Nat.lt_or_ge j i with h4 | h4
    ·have := h3 j hj h4 hf; omega
    ·obtain rfl : j = i := by omega
     omega
   ·rw [if_neg hc] at e;refine .inr ⟨b, hb, e, h2, fun j hj hji hf => ?_⟩;rcases Nat.lt_or_ge j i with h4 | h4
    ·exact h3 j hj h4 hf
    ·obtain rfl : j = i := by omega
     simp only [Bool.and_eq_true, decide_eq_true_eq, not_and] at hc;have := hc hf; omega
def qal1 (k : Int) (l : List Entry) (xs : List Int) : Option Entry := if (xs.length : Int) = k then (qain l).find? (fitK xs) else none
theorem qbm2 {k wd : Int} {l L : List Entry} (h : RelV k l L) (xs : List Int) : qag9 3 k wd L xs = qal1 k l xs := by
 unfold qag9 qbjs qal1;have hfo : qaia 3 k wd xs = decide ((xs.length : Int) = k) := by simp [qaia]
 rw [hfo];by_cases hx : (xs.length : Int) = k
 ·rw [decide_eq_true hx, if_pos rfl, if_pos hx];have hp := qaih h.inv;have h0 : ∀ x ∈ L, x.len = 0 := fun x hx => h.inv.len0 x (h.perm.mem_iff.2 hx)
  have hmem : ∀ x, x ∈ qain l ↔ x ∈ L := fun x => (hp.mem_iff).trans h.perm.mem_iff
  rcases qaua wd L xs h0 L.length (Nat.le_refl _) with ⟨h1, h2⟩ | ⟨b, hb, h1, h2, h3⟩
  ·rw [h1, if_neg (by decide)];symm;rw [List.find?_eq_none];intro x hxm;obtain ⟨j, hj, rfl⟩ := List.mem_iff_getElem.1 ((hmem x).1 hxm);rw [h2 j hj hj]; decide
  ·rw [h1, if_pos (by omega), Int.toNat_natCast, List.getElem?_eq_getElem hb];symm;obtain ⟨p, hpl, he⟩ := List.mem_iff_getElem.1 ((hmem _).2 (List.getElem_mem hb));rw [List.find?_eq_some_iff_getElem];refine ⟨h2, p, hpl, he, fun j hj => ?_⟩;cases hf : fitK xs ((qain l)[j]'(by omega))
   ·rfl
   ·exfalso;have hlt := all_lt h.inv hx hj hpl hf (by rw [he]; exact h2);obtain ⟨r, hr, hre⟩ := List.mem_iff_getElem.1 ((hmem _).1 (List.getElem_mem (show j < (qain l).length by omega)));have := h3 r hr hr (by rw [hre]; exact hf);rw [hre] at this;rw [he] at hlt;omega
 ·rw [decide_eq_false hx, if_neg hx]; simp
theorem qa9k {a b : Entry} (h : leE a b) (hne : ordE a b ≠ 0) (h1 : a.len = 0) (h2 : b.len = 0) : qacl a b = true := by
 rw [qanw] at h;have hz := qadq a b;unfold qacl;simp only [qanu];rcases h with h | ⟨h, h3⟩
 ·rw [if_neg (by omega)]; simpa using h
 ·rw [if_pos h];rcases h3 with h3 | ⟨h3, h4⟩
  ·rw [if_neg (by omega)]; simpa using h3
  ·have hk := (qad6 a.keys b.keys).2 h3;rw [if_pos hk, if_pos (by rw [h1, h2])];have : cmpL a.masks b.masks ≠ 0 := fun h5 => hne (hz.2 ⟨h, h3, (qad6 _ _).1 h5⟩)
   simp only [decide_eq_true_eq]; omega
theorem qbip {k : Int} {l : List Entry} (h : TInv k l) : (qain l).Pairwise fun a b => qacl a b = true := by
 have hp := qaih h;have h1 := qajd h.heap;have h2 := qagi hp.symm h.no;refine List.pairwise_iff_getElem.2 fun i j hi hj hij => ?_
 have a1 := List.pairwise_iff_getElem.1 h1 i j hi hj hij;have a2 := List.pairwise_iff_getElem.1 h2 i j hi hj hij;refine qa9k a1 (fun h3 => a2 ?_) (h.len0 _ (hp.mem_iff.1 (List.getElem_mem hi))) (h.len0 _ (hp.mem_iff.1 (List.getElem_mem hj)));obtain ⟨b1, b2, b3⟩ := (qadq _ _).1 h3;refine ⟨b1, ?_⟩;unfold qam2;rw [b2];exact qahl _ _ _ _ fun i _ => qajx _ _ _
theorem all_rel {k : Int} {l L : List Entry} (h : RelV k l L) : (qain l).Perm L := (qaih h.inv).trans h.perm
end Go.Proofs.YtalejfkholifpaaGreat
