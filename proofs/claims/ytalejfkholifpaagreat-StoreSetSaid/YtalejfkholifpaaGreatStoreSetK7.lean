/-
  Texts joined: XPfxF. No condition.
-/
import Derived.WalkSpells
import Derived.RegionTactic
import Derived.BigRegion
import Derived.Deep.RegionLaw
import Derived.Test.YtalejfkholifpaaGreatProg
import Derived.Deep.CutRange
import Derived.Deep.CutBlock
import Derived.Test.YtalejfkholifpaaGreatStoreSetK6
namespace Go.Proofs.YtalejfkholifpaaGreat
set_option linter.all false
open Go.RowKit
attribute [local go_sem ↓] Go.wp_at_zero Go.wp_at_succ
def qald (p : Nat → Bool) : Nat → Option Nat
 | 0 => none
 | m + 1 => if p m then some m else qald p m
theorem qah5 {p : Nat → Bool} {m : Nat} (h : p m = true) : qald p (m + 1) = some m := by unfold qald; rw [if_pos h]
theorem qaiu {p : Nat → Bool} {m : Nat} (h : p m = false) : qald p (m + 1) = qald p m := by
 show (if p m then some m else qald p m) = _
 rw [h]; rfl
theorem qaxy {p : Nat → Bool} {j m : Nat} (hj : j ≤ m) (h : ∀ i, j ≤ i → i < m → p i = false) : qald p m = qald p j := by
 obtain ⟨d, rfl⟩ := Nat.exists_eq_add_of_le hj
 clear hj
 induction d with
 | zero => rfl
 | succ d ih => rw [show j + (d + 1) = (j + d) + 1 by omega, qaiu (h _ (by omega) (by omega))]; exact ih fun i h1 h2 => h i h1 (by omega)
theorem qaxx {p : Nat → Bool} {m i : Nat} (h : qald p m = some i) : i < m ∧ p i = true ∧ ∀ j, i < j → j < m → p j = false := by
 induction m with
 | zero => cases h
 | succ m ih =>
  cases e : p m with
  | true => rw [qah5 e] at h; cases h; exact ⟨Nat.lt_succ_self _, e, fun j h1 h2 => by omega⟩
  | false =>
   rw [qaiu e] at h
   obtain ⟨h1, h2, h3⟩ := ih h
   refine ⟨by omega, h2, fun j h4 h5 => ?_⟩
   by_cases hj : j = m
   ·subst hj; exact e
   ·exact h3 j h4 (by omega)
def hasE (E : Nat → Int → Option (Int × List Int)) (W : Nat) (key : Int) (i : Nat) : Bool := (E i (pre W key i)).isSome
def qadp (width : Int) (E : Nat → Int → Option (Int × List Int)) (key : Int) : Option (Nat × Int × List Int) :=
 if qae5 width key width then match qald (hasE E width.toNat key) (width.toNat + 1) with
  | none => none
  | some i => (E i (pre width.toNat key i)).map fun x => (i, x.1, x.2)
 else none
def fLen (R : Option (Nat × Int × List Int)) : Int := match R with | none => 0 | some x => x.1
def fAct (R : Option (Nat × Int × List Int)) : Int := match R with | none => 0 | some x => x.2.1
def qbcy (R : Option (Nat × Int × List Int)) : List Int := match R with | none => [] | some x => x.2.2
theorem Mine.ge_ {w : World} {base : Nat} {e : TypeId} {k : IntKind} {ao : Option Addr} {n cap : Nat} {xs : List Int} (h : Mine w base e k (.slice ao n cap) xs) : ∀ a, ao = some a → base ≤ a.block := by
 obtain ⟨ao', cap', e, _, h3⟩ := h.rd
 cases e
 exact fun a ha => (h3 a ha).1
def FindPost (w : World) (R : Option (Nat × Int × List Int)) (e : Ending) (w' : World) : Prop :=
 ∃ ao c, e = .returned (.tuple #[.agg #[.int .i64 (fAct R), .slice ao (qbcy R).length c], .int .i64 (fLen R), .bool R.isSome]) ∧ Rd w' .u64 ao (qbcy R).length c (qbcy R) ∧ (∀ a, ao = some a → w.heap.size ≤ a.block) ∧ Below w.heap.size w w'
theorem FindPost.none_ {w w' : World} {R : Option (Nat × Int × List Int)} (h : R = none) (hb : Below w.heap.size w w') : FindPost w R (.returned (.tuple #[.agg #[.int .i64 0, .slice none 0 0], .int .i64 0, .bool false])) w' := by
 subst h
 exact ⟨none, 0, rfl, Rd.nil_ _ _, (fun a ha => by cases ha), hb⟩
theorem FindPost.some_ {w w' : World} {R : Option (Nat × Int × List Int)} {i : Nat} {a : Int} {l : List Int} {ao : Option Addr} {n c : Nat} (h : R = some (i, a, l)) (hr : Rd w' .u64 ao n c l) (hfr : ∀ a, ao = some a → w.heap.size ≤ a.block) (hb : Below w.heap.size w w') : FindPost w R (.returned (.tuple #[.agg #[.int .i64 a, .slice ao n c], .int .i64 (i : Int), .bool true])) w' := by
 subst h
 obtain rfl := hr.len
 exact ⟨ao, c, rfl, hr, hfr, hb⟩
set_option maxRecDepth 100000 in
set_option maxHeartbeats 4000000 in
theorem qass (gt : Nat) (Fp : Nat → Prop) (width most n key : Int) (E : Nat → Int → Option (Int × List Int)) (w : World) (h : PfxObj w Fp gt width most n E) (hw : Fits .i64 width) (hkey : Fits .u64 key) (hargs : ∀ i v x, E i v = some x → x.2.length ≤ 1000000) :
  Calls Tryz.prog 126 #[.pointer (some ⟨gt, 0, none⟩), .int .u64 key] w (FindPost w (qadp width E key)) := by
 obtain ⟨M, adr, dat, h1, h2, h3, h4, h5, h6⟩ := h
 have hz0 := Blk.new w 46 #[.int .i64 0, .slice none 0 0]
 have hal := al (rf w) (.cells #[.int .i64 0, .slice none 0 0] 46)
 have g0 := h1.blk.cell 0
 simp at g0
 have hgz := h1.blk.lt
 have H1 := Lib.hid (h1.below hal)
 have hE : ∀ i, hasE E width.toNat key i = (ent adr dat i (pre width.toNat key i)).isSome := fun i => by unfold hasE; rw [h2]
 have HE := Lib.hid hE
 have H2 := Lib.hid h2
 clear h2 h3 h4 h5 h6 h1 hE
 by_cases hf : qae5 width key width = true
 case neg =>
  have hf' : qae5 width key width = false := by simpa using hf
  have hn : Hid (qadp width E key = none) := by show _ = _; unfold qadp; rw [hf']; rfl
  have HF := Lib.hid hf'
  clear hf hf'
  go_enter Tryz.func126, Tryz.ntmps126
  go_wp2_with fail
  refine (qacj _ _ _ _ _ _ _ _ _ _ H1.out hw hw hkey).mono ?_
  rintro e w' ⟨rfl, rfl⟩
  rw [HF.out]
  go_wp2_with fail
  exact bodyPost_ret (v := .tuple #[.agg #[.int .i64 0, .slice none 0 0], .int .i64 0, .bool false]) (by simp [results, Tryz.results126, go_sem]) rfl (FindPost.none_ hn.out hal)
 obtain ⟨W, K, rfl, hKK, hW1, hW, hK, hlt, hmod⟩ := qaek hf
 clear hKK hK hmod K
 have HF := Lib.hid hf
 clear hf
 have hB0 := blk1 (rf (w.alloc (.cells #[.int .i64 0, .slice none 0 0] 46)))
 go_enter Tryz.func126, Tryz.ntmps126
 go_wp2_with fail
 refine (qacj _ _ _ _ _ _ _ _ _ _ H1.out hw hw hkey).mono ?_
 rintro e w' ⟨rfl, rfl⟩
 rw [HF.out]
 generalize w.alloc (.cells #[.int .i64 0, .slice none 0 0] 46) = w1 at *
 obtain ⟨_, B0⟩ := hB0
 have g3 := H1.out.blk.cell 3
 simp at g3
 have hgz1 := H1.out.blk.lt
 obtain ⟨R, hR⟩ : ∃ R, ptr (adr 0 0) = R := ⟨_, rfl⟩
 rw [hR] at g3
 have HR := Lib.hid hR
 have HP0 := Lib.hid (qakn (W := W) hkey.u64.1 hlt)
 have HB0 := Lib.hid B0
 clear hR g0 hgz B0 hz0
 go_upto_block 0 with fail
 go_cut [7, 8] from 24 to 48 (fun out nn wx => Below w1.heap.size w1 wx ∧ ((qald (hasE E W key) (W + 1) = none ∧ out = .pointer none ∧ nn = .int .i64 0) ∨ ∃ b : Nat, qald (hasE E W key) (W + 1) = some b ∧ out = ptr (adr b (pre W key b)) ∧ nn = .int .i64 b))
 case first =>
  go_wp2_with fail
  go_loopw [7, 8, 9, 10] (fun out nn p i wr => ∃ j : Nat, j ≤ W ∧ i = .int .i64 j ∧ p = ptr (adr j (pre W key j)) ∧ Below w1.heap.size w1 wr ∧ ((qald (hasE E W key) j = none ∧ out = .pointer none ∧ nn = .int .i64 0) ∨ ∃ b : Nat, qald (hasE E W key) j = some b ∧ out = ptr (adr b (pre W key b)) ∧ nn = .int .i64 b)) (fun _ _ _ i _ => W - (intOf i).toNat)
  case atStart => exact ⟨0, Nat.zero_le _, rfl, by rw [HP0.out, HR.out], rf _, .inl ⟨rfl, rfl, rfl⟩⟩
  obtain ⟨j, hj, rfl, rfl, hbr, hout⟩ := hrel
  have HPw := Lib.hid (H1.out.below hbr)
  cases e : adr j (pre W key j) with
  | none =>
   have hl : Hid (qald (hasE E W key) (W + 1) = qald (hasE E W key) j) := qaxy (by omega) fun i h1 h2 => by
    have := HE.out i
    rw [show ((W : Nat) : Int).toNat = W from rfl] at this
    rw [this, qadh (HPw.out.trie.none_up h1 (by omega) e)]; rfl
   rw [qado]
   clear e
   go_wp2_with fail
   go_meet
   exact ⟨hbr, by rw [hl.out]; exact hout⟩
  | some g =>
   have HEj := Lib.hid e
   rw [qact]
   obtain ⟨ao, an, ac, b0, b1, b2, b3, b4, _, hgz, _⟩ := HPw.out.trie.cells e
   have g0 := HPw.out.blk.cell 0
   simp at g0
   have tz := HPw.out.blk.lt
   clear e b1 b2
   cases t : (dat j (pre W key j)).there with
   | true =>
    have HT : Hid (hasE E W key j = true) := by show _ = _; have := HE.out j; rw [show ((W : Nat) : Int).toNat = W from rfl] at this; rw [this, qacu HEj.out, t]; rfl
    rw [t] at b0
    clear t
    by_cases hjW : j = W
    ·subst hjW
     have q : ((j : Int) == (j : Int)) = true := by simp
     clear b3 b4
     go_wp2_with fail
     go_meet
     exact ⟨hbr, .inr ⟨j, qah5 HT.out, by rw [HEj.out]; rfl, rfl⟩⟩
    ·have q : ((j : Int) == (W : Int)) = false := by rw [beq_eq_false_iff_ne]; omega
     have hjl : j < W := by omega
     have hs := qagf key hjl
     have hpr := Lib.hid hs
     have HB := fun w' (hb : Below wr.heap.size wr w') => qafn gt W j key most n M adr dat w' (HPw.out.below hb) hW hjl hkey
     have hkb : kbit W key j = 0 ∨ kbit W key j = 1 := by have := qad7 W key j; omega
     clear hs
     rcases hkb with hb | hb
     ·rw [hb] at HB
      have HB2 := Lib.hid HB
      have hn : Hid (pre W key (j + 1) = 2 * pre W key j) := by show _ = _; rw [hpr.out, hb]; omega
      clear HB hb b4
      go_wp2_with fail
      go_big_quiet ((go_at_call 131; exact qaeb (HB2.out _ (qaa7 (rf _) _))))
      go_wp2_with fail
      go_roundw
      case rel => exact ⟨j + 1, by omega, by go_num, by rw [hn.out], qaa7 hbr _, .inr ⟨j, qah5 HT.out, by rw [HEj.out]; rfl, rfl⟩⟩
      case measure => simp [intOf]; omega
     ·rw [hb] at HB
      have HB2 := Lib.hid HB
      have hn : Hid (pre W key (j + 1) = 2 * pre W key j + 1) := by show _ = _; rw [hpr.out, hb]
      clear HB hb b3
      go_wp2_with fail
      go_big_quiet ((go_at_call 131; exact qaeb (HB2.out _ (qaa7 (rf _) _))))
      go_wp2_with fail
      go_roundw
      case rel => exact ⟨j + 1, by omega, by go_num, by rw [hn.out], qaa7 hbr _, .inr ⟨j, qah5 HT.out, by rw [HEj.out]; rfl, rfl⟩⟩
      case measure => simp [intOf]; omega
   | false =>
    have HT : Hid (hasE E W key j = false) := by show _ = _; have := HE.out j; rw [show ((W : Nat) : Int).toNat = W from rfl] at this; rw [this, qacu HEj.out, t]; rfl
    rw [t] at b0
    clear t
    by_cases hjW : j = W
    ·subst hjW
     have q : ((j : Int) == (j : Int)) = true := by simp
     clear b3 b4
     go_wp2_with fail
     go_meet
     exact ⟨hbr, by rw [qaiu HT.out]; exact hout⟩
    ·have q : ((j : Int) == (W : Int)) = false := by rw [beq_eq_false_iff_ne]; omega
     have hjl : j < W := by omega
     have hs := qagf key hjl
     have hpr := Lib.hid hs
     have HB := fun w' (hb : Below wr.heap.size wr w') => qafn gt W j key most n M adr dat w' (HPw.out.below hb) hW hjl hkey
     have hkb : kbit W key j = 0 ∨ kbit W key j = 1 := by have := qad7 W key j; omega
     clear hs
     rcases hkb with hb | hb
     ·rw [hb] at HB
      have HB2 := Lib.hid HB
      have hn : Hid (pre W key (j + 1) = 2 * pre W key j) := by show _ = _; rw [hpr.out, hb]; omega
      clear HB hb b4
      go_wp2_with fail
      go_big_quiet ((go_at_call 131; exact qaeb (HB2.out _ (qaa7 (rf _) _))))
      go_wp2_with fail
      go_roundw
      case rel => exact ⟨j + 1, by omega, by go_num, by rw [hn.out], qaa7 hbr _, by rw [qaiu HT.out]; exact hout⟩
      case measure => simp [intOf]; omega
     ·rw [hb] at HB
      have HB2 := Lib.hid HB
      have hn : Hid (pre W key (j + 1) = 2 * pre W key j + 1) := by show _ = _; rw [hpr.out, hb]
      clear HB hb b3
      go_wp2_with fail
      go_big_quiet ((go_at_call 131; exact qaeb (HB2.out _ (qaa7 (rf _) _))))
      go_wp2_with fail
      go_roundw
      case rel => exact ⟨j + 1, by omega, by go_num, by rw [hn.out], qaa7 hbr _, by rw [qaiu HT.out]; exact hout⟩
      case measure => simp [intOf]; omega
 case rest =>
  obtain ⟨hbc, hcut⟩ := hcut
  have Bc := HB0.out.below hbc HB0.out.lt
  have x0 := Bc.cell 0
  have x1 := Bc.cell 1
  simp at x0 x1
  have xf0 := Bc.frozen 0
  have xf1 := Bc.frozen 1
  have xz := Bc.lt
  have hBc := hal.trans (hbc.mono hal.size)
  rcases hcut with ⟨hl, rfl, rfl⟩ | ⟨b, hl, rfl, rfl⟩
  ·have hn : Hid (qadp (W : Int) E key = none) := by
    show _ = _
    unfold qadp
    rw [HF.out, if_pos rfl]
    show (match qald (hasE E W key) (W + 1) with | none => none | some i => _) = _
    rw [hl]
   clear hl
   go_wp2_with fail
   exact bodyPost_ret (v := .tuple #[.agg #[.int .i64 0, .slice none 0 0], .int .i64 0, .bool false]) (by simp [results, Tryz.results126, go_sem, x0, x1, xf0, xf1, xz]) rfl (FindPost.none_ hn.out (by go_grown))
  ·obtain ⟨hb1, hb2, _⟩ := qaxx hl
   have he := HE.out b
   rw [show ((W : Nat) : Int).toNat = W from rfl] at he
   rw [hb2] at he
   cases e : adr b (pre W key b) with
   | none => rw [qadh e] at he; cases he
   | some g =>
    rw [qacu e] at he
    have ht : (dat b (pre W key b)).there = true := by
     cases t : (dat b (pre W key b)).there with
     | true => rfl
     | false => rw [t] at he; cases he
    have hEb : E b (pre W key b) = some ((dat b (pre W key b)).act, (dat b (pre W key b)).args) := by rw [← H2.out, qacu e, ht]; rfl
    have hn : Hid (qadp (W : Int) E key = some (b, (dat b (pre W key b)).act, (dat b (pre W key b)).args)) := by
     show _ = _
     unfold qadp
     rw [HF.out, if_pos rfl]
     show (match qald (hasE E W key) (W + 1) with | none => none | some i => (E i (pre W key i)).map fun (x : Int × List Int) => (i, x.1, x.2)) = _
     rw [hl]
     show (E b (pre W key b)).map (fun (x : Int × List Int) => (b, x.1, x.2)) = _
     rw [hEb]; rfl
    have hlen := hargs _ _ _ hEb
    simp only at hlen
    obtain ⟨⟨ao, an, ac, B1, R1, _⟩, _⟩ := (H1.out.below hbc).trie.node _ _ _ e
    generalize (dat b (pre W key b)).act = act at *
    generalize (dat b (pre W key b)).args = args at *
    have hr := R1.rd
    have hlen2 : an ≤ 1000000 := by rw [← hr.len]; exact hlen
    have y1 := B1.cell 1
    have y2 := B1.cell 2
    simp at y1 y2
    have yz := B1.lt
    have hgw : ¬ w.heap.size = g := by
     intro hh
     subst hh
     have := HB0.out.below hbc HB0.out.lt
     unfold Blk at this B1
     rw [this] at B1
     injection B1 with B1
     injection B1 with _ B1
     exact absurd B1 (by decide)
    rw [qact]
    clear he hb2 hl e ht hEb
    go_wp2_with fail
    go_region_held3 (fun w' => w'.cell? ⟨g, 1, none⟩ = some (.int .i64 act) ∧ w'.cell? ⟨g, 2, none⟩ = some (.slice ao an ac))
     (first | exact ⟨y1, y2⟩ | exact ⟨keep (w := wc.drew) y1 hb4, keep (w := wc.drew) y2 hb4⟩ | go_keep)
     ((first
      | (go_at_call 32; (with_reducible refine (qaeu _ _ _ _ _ (hr.below (Below.drew0_ wc)) hlen2).mono ?_); rintro e w4 ⟨r4, rfl, hm4, hb4⟩; obtain ⟨a4, c4, rfl⟩ := hm4.form; have B4 : Blk w4 w.heap.size _ _ := Blk.below (w := wc.drew) Bc hb4 Bc.lt; have m0 := B4.cell 0; have m1 := B4.cell 1; simp at m0 m1; have mf0 := B4.frozen 0; have mf1 := B4.frozen 1; have mz := B4.lt; have my1 := keep (w := wc.drew) y1 hb4; have my2 := keep (w := wc.drew) y2 hb4)))
    go_wp2_with fail
    exact bodyPost_ret (v := .tuple #[.agg #[.int .i64 act, .slice a4 args.length c4], .int .i64 (b : Int), .bool true]) (by simp [results, Tryz.results126, go_sem, m0, m1, mf0, mf1, mz]) rfl (FindPost.some_ hn.out ((hm4.set2 (show w.heap.size < wc.drew.heap.size from xz) _ _).rd_) (fun a ha => Nat.le_of_lt (Nat.lt_of_lt_of_le (show w.heap.size < wc.drew.heap.size from xz) (hm4.ge_ a ha))) (below2 (hBc.trans (((Below.drew0_ wc).trans hb4).mono hBc.size)) (Nat.le_refl _) _ _))
end Go.Proofs.YtalejfkholifpaaGreat
