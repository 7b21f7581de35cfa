/-
  Texts joined: XPfxF XPfxD XPfxE XPfxG XPfxO XPfxH XEntA XPfxI XPfxJ XPfxK XPfxU XPfxV XPfxL XPfxM XLongA XStoA XStoB XStoC XStoD. No condition.
-/
import Derived.WalkSpells
import Derived.RegionTactic
import Derived.BigRegion
import Derived.Deep.RegionLaw
import Derived.Test.YtalejfkholifpaaGreatProg
import Derived.KernelRfl
import Derived.Deep.CutRange
import Derived.Deep.CutBlock
import Derived.Laws.Bits64b
import Derived.Test.YtalejfkholifpaaGreatStoreDoesK7
set_option linter.all false
namespace Go.Proofs.YtalejfkholifpaaGreat
open Go.RowKit
section
attribute [local go_sem ↓] Go.wp_at_zero Go.wp_at_succ
def qaiy (p : Nat → Bool) : Nat → Option Nat
 | 0 => none
 | m + 1 => if p m then some m else qaiy p m
theorem qaho {p : Nat → Bool} {m : Nat} (h : p m = true) : qaiy p (m + 1) = some m := by unfold qaiy; rw [if_pos h]
theorem qah7 {p : Nat → Bool} {m : Nat} (h : p m = false) : qaiy p (m + 1) = qaiy p m := by
 show (if p m then some m else qaiy p m) = _;rw [h]; rfl
theorem qa00 {p : Nat → Bool} {j m : Nat} (hj : j ≤ m) (h : ∀ i, j ≤ i → i < m → p i = false) : qaiy p m = qaiy p j := by
 obtain ⟨d, rfl⟩ := Nat.exists_eq_add_of_le hj;clear hj;induction d with
 | zero => rfl
 | succ d ih => rw [show j + (d + 1) = (j + d) + 1 by omega, qah7 (h _ (by omega) (by omega))]; exact ih fun i h1 h2 => h i h1 (by omega)
theorem qaj2 {p : Nat → Bool} {m i : Nat} (h : qaiy p m = some i) : i < m ∧ p i = true ∧ ∀ j, i < j → j < m → p j = false := by
 induction m with
 | zero => cases h
 | succ m ih =>
  cases e : p m with
  | true => rw [qaho e] at h; cases h; exact ⟨Nat.lt_succ_self _, e, fun j h1 h2 => by omega⟩
  | false =>
   rw [qah7 e] at h;obtain ⟨h1, h2, h3⟩ := ih h;refine ⟨by omega, h2, fun j h4 h5 => ?_⟩;by_cases hj : j = m
   ·subst hj; exact e
   ·exact h3 j h4 (by omega)
theorem qa01 {p : Nat → Bool} {m : Nat} (h : qaiy p m = none) : ∀ j, j < m → p j = false := by
 induction m with
 | zero => intro j hj; omega
 | succ m ih =>
  cases e : p m with
  | true => rw [qaho e] at h; cases h
  | false =>
   rw [qah7 e] at h;intro j hj;by_cases hj2 : j = m
   ·subst hj2; exact e
   ·exact ih h j (by omega)
def hasE (E : Nat → Int → Option (Int × List Int)) (W : Nat) (key : Int) (i : Nat) : Bool := (E i (pre W key i)).isSome
def qac9 (width : Int) (E : Nat → Int → Option (Int × List Int)) (key : Int) : Option (Nat × Int × List Int) :=
 if qafj width key width then match qaiy (hasE E width.toNat key) (width.toNat + 1) with
  | none => none
  | some i => (E i (pre width.toNat key i)).map fun x => (i, x.1, x.2)
 else none
def fLen (R : Option (Nat × Int × List Int)) : Int := match R with | none => 0 | some x => x.1
def fAct (R : Option (Nat × Int × List Int)) : Int := match R with | none => 0 | some x => x.2.1
def qbbf (R : Option (Nat × Int × List Int)) : List Int := match R with | none => [] | some x => x.2.2
theorem Mine.ge_ {w : World} {base : Nat} {e : TypeId} {k : IntKind} {ao : Option Addr} {n cap : Nat} {xs : List Int} (h : Mine w base e k (.slice ao n cap) xs) : ∀ a, ao = some a → base ≤ a.block := by
 obtain ⟨ao', cap', e, _, h3⟩ := h.rd;cases e
 exact fun a ha => (h3 a ha).1
def FindPost (w : World) (R : Option (Nat × Int × List Int)) (e : Ending) (w' : World) : Prop :=
 ∃ ao c, e = .returned (.tuple #[.agg #[.int .i64 (fAct R), .slice ao (qbbf R).length c], .int .i64 (fLen R), .bool R.isSome]) ∧ Rd w' .u64 ao (qbbf R).length c (qbbf R) ∧ (∀ a, ao = some a → w.heap.size ≤ a.block) ∧ Below w.heap.size w w'
theorem FindPost.none_ {w w' : World} {R : Option (Nat × Int × List Int)} (h : R = none) (hb : Below w.heap.size w w') : FindPost w R (.returned (.tuple #[.agg #[.int .i64 0, .slice none 0 0], .int .i64 0, .bool false])) w' := by
 subst h;exact ⟨none, 0, rfl, Rd.nil_ _ _, (fun a ha => by cases ha), hb⟩
theorem FindPost.some_ {w w' : World} {R : Option (Nat × Int × List Int)} {i : Nat} {a : Int} {l : List Int} {ao : Option Addr} {n c : Nat} (h : R = some (i, a, l)) (hr : Rd w' .u64 ao n c l) (hfr : ∀ a, ao = some a → w.heap.size ≤ a.block) (hb : Below w.heap.size w w') : FindPost w R (.returned (.tuple #[.agg #[.int .i64 a, .slice ao n c], .int .i64 (i : Int), .bool true])) w' := by
 subst h;obtain rfl := hr.len;exact ⟨ao, c, rfl, hr, hfr, hb⟩
set_option maxRecDepth 100000 in
set_option maxHeartbeats 4000000 in
theorem qauw (gt : Nat) (Fp : Nat → Prop) (width most n key : Int) (E : Nat → Int → Option (Int × List Int)) (w : World) (h : PfxObj w Fp gt width most n E) (hw : Fits .i64 width) (hkey : Fits .u64 key) (hargs : ∀ i v x, E i v = some x → x.2.length ≤ 1000000) :
  Calls Tryz.prog 126 #[.pointer (some ⟨gt, 0, none⟩), .int .u64 key] w (FindPost w (qac9 width E key)) := by
 obtain ⟨M, adr, dat, h1, h2, h3, h4, h5, h6⟩ := h;have hz0 := Blk.new w 46 #[.int .i64 0, .slice none 0 0];have hal := al (rf w) (.cells #[.int .i64 0, .slice none 0 0] 46);have g0 := h1.blk.cell 0;simp at g0;have hgz := h1.blk.lt;have H1 := Lib.hid (h1.below hal);have hE : ∀ i, hasE E width.toNat key i = (ent adr dat i (pre width.toNat key i)).isSome := fun i => by unfold hasE; rw [h2]
 have HE := Lib.hid hE;have H2 := Lib.hid h2;clear h2 h3 h4 h5 h6 h1 hE;by_cases hf : qafj width key width = true
 case neg =>
  have hf' : qafj width key width = false := by simpa using hf
  have hn : Hid (qac9 width E key = none) := by show _ = _; unfold qac9; rw [hf']; rfl
  have HF := Lib.hid hf';clear hf hf';go_enter Tryz.func126, Tryz.ntmps126
  go_wp2_with fail
  refine (qacv _ _ _ _ _ _ _ _ _ _ H1.out hw hw hkey).mono ?_;rintro e w' ⟨rfl, rfl⟩;rw [HF.out];go_wp2_with fail
  exact bodyPost_ret (v := .tuple #[.agg #[.int .i64 0, .slice none 0 0], .int .i64 0, .bool false]) (by simp [results, Tryz.results126, go_sem]) rfl (FindPost.none_ hn.out hal)
 obtain ⟨W, K, rfl, hKK, hW1, hW, hK, hlt, hmod⟩ := qadj hf;clear hKK hK hmod K;have HF := Lib.hid hf;clear hf;have hB0 := blk1 (rf (w.alloc (.cells #[.int .i64 0, .slice none 0 0] 46)));go_enter Tryz.func126, Tryz.ntmps126
 go_wp2_with fail
 refine (qacv _ _ _ _ _ _ _ _ _ _ H1.out hw hw hkey).mono ?_;rintro e w' ⟨rfl, rfl⟩;rw [HF.out];generalize w.alloc (.cells #[.int .i64 0, .slice none 0 0] 46) = w1 at *;obtain ⟨_, B0⟩ := hB0;have g3 := H1.out.blk.cell 3;simp at g3;have hgz1 := H1.out.blk.lt;obtain ⟨R, hR⟩ : ∃ R, ptr (adr 0 0) = R := ⟨_, rfl⟩
 rw [hR] at g3;have HR := Lib.hid hR;have HP0 := Lib.hid (qamb (W := W) hkey.u64.1 hlt);have HB0 := Lib.hid B0;clear hR g0 hgz B0 hz0;go_upto_block 0 with fail
 go_cut [7, 8] from 24 to 48 (fun out nn wx => Below w1.heap.size w1 wx ∧ ((qaiy (hasE E W key) (W + 1) = none ∧ out = .pointer none ∧ nn = .int .i64 0) ∨ ∃ b : Nat, qaiy (hasE E W key) (W + 1) = some b ∧ out = ptr (adr b (pre W key b)) ∧ nn = .int .i64 b))
 case first =>
  go_wp2_with fail
  go_loopw [7, 8, 9, 10] (fun out nn p i wr => ∃ j : Nat, j ≤ W ∧ i = .int .i64 j ∧ p = ptr (adr j (pre W key j)) ∧ Below w1.heap.size w1 wr ∧ ((qaiy (hasE E W key) j = none ∧ out = .pointer none ∧ nn = .int .i64 0) ∨ ∃ b : Nat, qaiy (hasE E W key) j = some b ∧ out = ptr (adr b (pre W key b)) ∧ nn = .int .i64 b)) (fun _ _ _ i _ => W - (intOf i).toNat)
  case atStart => exact ⟨0, Nat.zero_le _, rfl, by rw [HP0.out, HR.out], rf _, .inl ⟨rfl, rfl, rfl⟩⟩
  obtain ⟨j, hj, rfl, rfl, hbr, hout⟩ := hrel;have HPw := Lib.hid (H1.out.below hbr);cases e : adr j (pre W key j) with
  | none =>
   have hl : Hid (qaiy (hasE E W key) (W + 1) = qaiy (hasE E W key) j) := qa00 (by omega) fun i h1 h2 => by
    have := HE.out i;rw [show ((W : Nat) : Int).toNat = W from rfl] at this;rw [this, qadl (HPw.out.trie.none_up h1 (by omega) e)]; rfl
   rw [qadp];clear e;go_wp2_with fail
   go_meet
   exact ⟨hbr, by rw [hl.out]; exact hout⟩
  | some g =>
   have HEj := Lib.hid e;rw [qacz];obtain ⟨ao, an, ac, b0, b1, b2, b3, b4, _, hgz, _⟩ := HPw.out.trie.cells e;have g0 := HPw.out.blk.cell 0;simp at g0;have tz := HPw.out.blk.lt;clear e b1 b2;cases t : (dat j (pre W key j)).there with
   | true =>
    have HT : Hid (hasE E W key j = true) := by show _ = _; have := HE.out j; rw [show ((W : Nat) : Int).toNat = W from rfl] at this; rw [this, qac1 HEj.out, t]; rfl
    rw [t] at b0;clear t;by_cases hjW : j = W
    ·subst hjW;have q : ((j : Int) == (j : Int)) = true := by simp
     clear b3 b4;go_wp2_with fail
     go_meet
     exact ⟨hbr, .inr ⟨j, qaho HT.out, by rw [HEj.out]; rfl, rfl⟩⟩
    ·have q : ((j : Int) == (W : Int)) = false := by rw [beq_eq_false_iff_ne]; omega
     have hjl : j < W := by omega
     have hs := qag3 key hjl;have hpr := Lib.hid hs;have HB := fun w' (hb : Below wr.heap.size wr w') => qaf5 gt W j key most n M adr dat w' (HPw.out.below hb) hW hjl hkey
     have hkb : kbit W key j = 0 ∨ kbit W key j = 1 := by have := qaea W key j; omega
     clear hs;rcases hkb with hb | hb
     ·rw [hb] at HB;have HB2 := Lib.hid HB;have hn : Hid (pre W key (j + 1) = 2 * pre W key j) := by show _ = _; rw [hpr.out, hb]; omega
      clear HB hb b4;go_wp2_with fail
      go_big_quiet ((go_at_call 131; exact qaee (HB2.out _ (qaa0 (rf _) _))))
      go_wp2_with fail
      go_roundw
      case rel => exact ⟨j + 1, by omega, by go_num, by rw [hn.out], qaa0 hbr _, .inr ⟨j, qaho HT.out, by rw [HEj.out]; rfl, rfl⟩⟩
      case measure => simp [intOf]; omega
     ·rw [hb] at HB;have HB2 := Lib.hid HB;have hn : Hid (pre W key (j + 1) = 2 * pre W key j + 1) := by show _ = _; rw [hpr.out, hb]
      clear HB hb b3;go_wp2_with fail
      go_big_quiet ((go_at_call 131; exact qaee (HB2.out _ (qaa0 (rf _) _))))
      go_wp2_with fail
      go_roundw
      case rel => exact ⟨j + 1, by omega, by go_num, by rw [hn.out], qaa0 hbr _, .inr ⟨j, qaho HT.out, by rw [HEj.out]; rfl, rfl⟩⟩
      case measure => simp [intOf]; omega
   | false =>
    have HT : Hid (hasE E W key j = false) := by show _ = _; have := HE.out j; rw [show ((W : Nat) : Int).toNat = W from rfl] at this; rw [this, qac1 HEj.out, t]; rfl
    rw [t] at b0;clear t;by_cases hjW : j = W
    ·subst hjW;have q : ((j : Int) == (j : Int)) = true := by simp
     clear b3 b4;go_wp2_with fail
     go_meet
     exact ⟨hbr, by rw [qah7 HT.out]; exact hout⟩
    ·have q : ((j : Int) == (W : Int)) = false := by rw [beq_eq_false_iff_ne]; omega
     have hjl : j < W := by omega
     have hs := qag3 key hjl;have hpr := Lib.hid hs;have HB := fun w' (hb : Below wr.heap.size wr w') => qaf5 gt W j key most n M adr dat w' (HPw.out.below hb) hW hjl hkey
     have hkb : kbit W key j = 0 ∨ kbit W key j = 1 := by have := qaea W key j; omega
     clear hs;rcases hkb with hb | hb
     ·rw [hb] at HB;have HB2 := Lib.hid HB;have hn : Hid (pre W key (j + 1) = 2 * pre W key j) := by show _ = _; rw [hpr.out, hb]; omega
      clear HB hb b4;go_wp2_with fail
      go_big_quiet ((go_at_call 131; exact qaee (HB2.out _ (qaa0 (rf _) _))))
      go_wp2_with fail
      go_roundw
      case rel => exact ⟨j + 1, by omega, by go_num, by rw [hn.out], qaa0 hbr _, by rw [qah7 HT.out]; exact hout⟩
      case measure => simp [intOf]; omega
     ·rw [hb] at HB;have HB2 := Lib.hid HB;have hn : Hid (pre W key (j + 1) = 2 * pre W key j + 1) := by show _ = _; rw [hpr.out, hb]
      clear HB hb b3;go_wp2_with fail
      go_big_quiet ((go_at_call 131; exact qaee (HB2.out _ (qaa0 (rf _) _))))
      go_wp2_with fail
      go_roundw
      case rel => exact ⟨j + 1, by omega, by go_num, by rw [hn.out], qaa0 hbr _, by rw [qah7 HT.out]; exact hout⟩
      case measure => simp [intOf]; omega
 case rest =>
  obtain ⟨hbc, hcut⟩ := hcut;have Bc := HB0.out.below hbc HB0.out.lt;have x0 := Bc.cell 0;have x1 := Bc.cell 1;simp at x0 x1;have xf0 := Bc.frozen 0;have xf1 := Bc.frozen 1;have xz := Bc.lt;have hBc := hal.trans (hbc.mono hal.size);rcases hcut with ⟨hl, rfl, rfl⟩ | ⟨b, hl, rfl, rfl⟩
  ·have hn : Hid (qac9 (W : Int) E key = none) := by
    show _ = _;unfold qac9;rw [HF.out, if_pos rfl];show (match qaiy (hasE E W key) (W + 1) with | none => none | some i => _) = _;rw [hl]
   clear hl;go_wp2_with fail
   exact bodyPost_ret (v := .tuple #[.agg #[.int .i64 0, .slice none 0 0], .int .i64 0, .bool false]) (by simp [results, Tryz.results126, go_sem, x0, x1, xf0, xf1, xz]) rfl (FindPost.none_ hn.out (by go_grown))
  ·obtain ⟨hb1, hb2, _⟩ := qaj2 hl;have he := HE.out b;rw [show ((W : Nat) : Int).toNat = W from rfl] at he;rw [hb2] at he;cases e : adr b (pre W key b) with
   | none => rw [qadl e] at he; cases he
   | some g =>
    rw [qac1 e] at he;have ht : (dat b (pre W key b)).there = true := by
     cases t : (dat b (pre W key b)).there with
     | true => rfl
     | false => rw [t] at he; cases he
    have hEb : E b (pre W key b) = some ((dat b (pre W key b)).act, (dat b (pre W key b)).args) := by rw [← H2.out, qac1 e, ht]; rfl
    have hn : Hid (qac9 (W : Int) E key = some (b, (dat b (pre W key b)).act, (dat b (pre W key b)).args)) := by
     show _ = _;unfold qac9;rw [HF.out, if_pos rfl];show (match qaiy (hasE E W key) (W + 1) with | none => none | some i => (E i (pre W key i)).map fun (x : Int × List Int) => (i, x.1, x.2)) = _;rw [hl];show (E b (pre W key b)).map (fun (x : Int × List Int) => (b, x.1, x.2)) = _;rw [hEb]; rfl
    have hlen := hargs _ _ _ hEb;simp only at hlen;obtain ⟨⟨ao, an, ac, B1, R1, _⟩, _⟩ := (H1.out.below hbc).trie.node _ _ _ e;generalize (dat b (pre W key b)).act = act at *;generalize (dat b (pre W key b)).args = args at *;have hr := R1.rd;have hlen2 : an ≤ 1000000 := by rw [← hr.len]; exact hlen
    have y1 := B1.cell 1;have y2 := B1.cell 2;simp at y1 y2;have yz := B1.lt;have hgw : ¬ w.heap.size = g := by
     intro hh;subst hh;have := HB0.out.below hbc HB0.out.lt;unfold Blk at this B1;rw [this] at B1;injection B1 with B1
     injection B1 with _ B1
     exact absurd B1 (by decide)
    rw [qacz];clear he hb2 hl e ht hEb;go_wp2_with fail
    go_region_held3 (fun w' => w'.cell? ⟨g, 1, none⟩ = some (.int .i64 act) ∧ w'.cell? ⟨g, 2, none⟩ = some (.slice ao an ac))
     (first | exact ⟨y1, y2⟩ | exact ⟨keep (w := wc.drew) y1 hb4, keep (w := wc.drew) y2 hb4⟩ | go_keep)
     ((first
      | (go_at_call 32; (with_reducible refine (qae3 _ _ _ _ _ (hr.below (Below.drew0_ wc)) hlen2).mono ?_); rintro e w4 ⟨r4, rfl, hm4, hb4⟩; obtain ⟨a4, c4, rfl⟩ := hm4.form; have B4 : Blk w4 w.heap.size _ _ := Blk.below (w := wc.drew) Bc hb4 Bc.lt; have m0 := B4.cell 0; have m1 := B4.cell 1; simp at m0 m1; have mf0 := B4.frozen 0; have mf1 := B4.frozen 1; have mz := B4.lt; have my1 := keep (w := wc.drew) y1 hb4; have my2 := keep (w := wc.drew) y2 hb4)))
    go_wp2_with fail
    exact bodyPost_ret (v := .tuple #[.agg #[.int .i64 act, .slice a4 args.length c4], .int .i64 (b : Int), .bool true]) (by simp [results, Tryz.results126, go_sem, m0, m1, mf0, mf1, mz]) rfl (FindPost.some_ hn.out ((hm4.set2 (show w.heap.size < wc.drew.heap.size from xz) _ _).rd_) (fun a ha => Nat.le_of_lt (Nat.lt_of_lt_of_le (show w.heap.size < wc.drew.heap.size from xz) (hm4.ge_ a ha))) (below2 (hBc.trans (((Below.drew0_ wc).trans hb4).mono hBc.size)) (Nat.le_refl _) _ _))
end
section
attribute [local go_sem ↓] Go.wp_at_zero Go.wp_at_succ
structure Pruned (W K : Nat) (key : Int) (M : Nat → Prop) (adr : Nat → Int → Option Nat) (dat : Nat → Int → Dat) (i : Nat) (w w' : World) (adr' : Nat → Int → Option Nat) : Prop where
 sub : ∀ j v g, adr' j v = some g → adr j v = some g
 off : ∀ j v, ¬ (i ≤ j ∧ j ≤ K ∧ v = pre W key j) → adr' j v = adr j v
 node : ∀ j g, i ≤ j → j ≤ K → adr' j (pre W key j) = some g → NodeAt w' M adr' j (pre W key j) g (qaft dat K (pre W key K) qam1 j (pre W key j))
 step : Step (fun b => ∃ q, i ≤ q ∧ q ≤ K ∧ adr q (pre W key q) = some b) w w'
 gone : ∀ q, i ≤ q → q ≤ K → adr' q (pre W key q) = none → (q < K → (dat q (pre W key q)).there = false) ∧ adr' (q + 1) (2 * pre W key q) = none ∧ adr' (q + 1) (2 * pre W key q + 1) = none
theorem step3 (w : World) (g : Nat) (a b c : Value) : Step (fun k => k = g) w (((w.setCell ⟨g, 0, none⟩ a).setCell ⟨g, 1, none⟩ b).setCell ⟨g, 2, none⟩ c) :=
 ((Step.set (fun k => k = g) w ⟨g, 0, none⟩ rfl _).trans (Step.set (fun k => k = g) _ ⟨g, 1, none⟩ rfl _)).trans (Step.set (fun k => k = g) _ ⟨g, 2, none⟩ rfl _)
theorem Pruned.last {W K : Nat} {key : Int} {M : Nat → Prop} {adr : Nat → Int → Option Nat} {dat : Nat → Int → Dat} {w : World} (ht : Trie w M adr dat) {g : Nat} (hg : adr K (pre W key K) = some g) (keepIt : Bool)
  (hk : keepIt = false → adr (K + 1) (2 * pre W key K) = none ∧ adr (K + 1) (2 * pre W key K + 1) = none) :
  Pruned W K key M adr dat K w (((w.setCell ⟨g, 0, none⟩ (.bool false)).setCell ⟨g, 1, none⟩ (.int .i64 0)).setCell ⟨g, 2, none⟩ (.slice none 0 0)) (if keepIt then adr else qafv adr K (pre W key K) none) := by
 obtain ⟨⟨ao, an, ac, b1, b2, b3⟩, b4⟩ := ht.node _ _ _ hg;have hs := step3 w g (.bool false) (.int .i64 0) (.slice none 0 0);refine ⟨fun j v h e => ?_, fun j v hn => ?_, fun j h h1 h2 e => ?_, hs.mono fun b hb => ⟨K, Nat.le_refl _, Nat.le_refl _, by rw [show b = g from hb]; exact hg⟩, fun q h1 h2 e => ?_⟩
 ·cases keepIt with
  | true => exact e
  | false =>
   by_cases hx : j = K ∧ v = pre W key K
   ·obtain ⟨rfl, rfl⟩ := hx;rw [if_neg (by decide), qab7] at e; cases e
   ·rw [if_neg (by decide), qabp hx] at e; exact e
 ·cases keepIt with
  | true => rfl
  | false => rw [if_neg (by decide), qabp fun hx => hn ⟨by omega, by omega, by rw [hx.2, hx.1]⟩]
 ·obtain rfl : j = K := by omega
  cases keepIt with
  | true =>
   rw [if_pos rfl] at e ⊢;rw [hg] at e;cases e
   rw [qae0];refine ⟨none, 0, 0, ?_, RdL.nil_ _ _ _, Fits.of_i64 (by decide) (by decide)⟩;have := ((b1.set_ 0 (.bool false)).set_ 1 (.int .i64 0)).set_ 2 (.slice none 0 0);simpa [qam1] using this
  | false => rw [if_neg (by decide), qab7] at e; cases e
 ·obtain rfl : q = K := by omega
  cases keepIt with
  | true => rw [if_pos rfl, hg] at e; cases e
  | false =>
   rw [if_neg (by decide), qabp (by omega), qabp (by omega)];exact ⟨fun h => by omega, hk rfl⟩
theorem Pruned.back {W K i : Nat} {key : Int} {M : Nat → Prop} {adr adr' : Nat → Int → Option Nat} {dat : Nat → Int → Dat} {w w1 w2 : World} (ht : Trie w M adr dat) (hb1 : Below w.heap.size w w1) (hi : i < K) (hK : K ≤ W) {g c : Nat} (hg : adr i (pre W key i) = some g) (hc : c = 0 ∨ c = 1) (hp : pre W key (i + 1) = 2 * pre W key i + c)
  (h : Pruned W K key M adr dat (i + 1) w1 w2 adr') (keepIt : Bool) (hk : keepIt = false → (dat i (pre W key i)).there = false ∧ adr' (i + 1) (2 * pre W key i) = none ∧ adr' (i + 1) (2 * pre W key i + 1) = none) :
  Pruned W K key M adr dat i w (w2.setCell ⟨g, 3 + c, none⟩ (ptr (adr' (i + 1) (pre W key (i + 1))))) (if keepIt then adr' else qafv adr' i (pre W key i) none) := by
 have hsame : adr' i (pre W key i) = some g := by rw [h.off _ _ (by omega)]; exact hg
 obtain ⟨⟨ao, an, ac, b1, b2, b3⟩, b4⟩ := (ht.below hb1).node _ _ _ hg;have hng : ¬ (fun b => ∃ q, i + 1 ≤ q ∧ q ≤ K ∧ adr q (pre W key q) = some b) g := fun ⟨q, q1, q2, q3⟩ => by
  have := (ht.inj _ _ _ _ _ hg q3).1; omega
 have B2 : Blk w2 g _ _ := (h.step.block g b1.lt hng).trans b1;have R2 : RdL (Lay.int .u64) (fun k => ¬ M k) w2 ao an ac (dat i (pre W key i)).args := b2.step (h.step.mono fun b ⟨q, _, _, q3⟩ => (ht.node _ _ _ q3).2);have hs := Step.set (fun k => k = g) w2 ⟨g, 3 + c, none⟩ rfl (ptr (adr' (i + 1) (pre W key (i + 1))))
 have hst : Step (fun b => ∃ q, i ≤ q ∧ q ≤ K ∧ adr q (pre W key q) = some b) w (w2.setCell ⟨g, 3 + c, none⟩ (ptr (adr' (i + 1) (pre W key (i + 1))))) :=
  ((Step.of hb1).trans (h.step.mono fun b ⟨q, q1, q2, q3⟩ => ⟨q, by omega, q2, q3⟩)).trans (hs.mono fun b hb => ⟨i, Nat.le_refl _, by omega, by rw [show b = g from hb]; exact hg⟩)
 have hnode : NodeAt (w2.setCell ⟨g, 3 + c, none⟩ (ptr (adr' (i + 1) (pre W key (i + 1))))) M adr' i (pre W key i) g (dat i (pre W key i)) := by
  refine ⟨ao, an, ac, ?_, R2.step (hs.mono fun b hb => by rw [show b = g from hb]; exact b4), b3⟩;have B3 := B2.set_ (3 + c) (ptr (adr' (i + 1) (pre W key (i + 1))));rcases hc with rfl | rfl
  ·have e1 : adr' (i + 1) (2 * pre W key i + 1) = adr (i + 1) (2 * pre W key i + 1) := h.off _ _ (by rw [hp]; omega);have e2 : pre W key (i + 1) = 2 * pre W key i := by rw [hp]; simp
   rw [e1, show adr' (i + 1) (2 * pre W key i) = adr' (i + 1) (pre W key (i + 1)) by rw [e2]];simpa using B3
  ·have e1 : adr' (i + 1) (2 * pre W key i) = adr (i + 1) (2 * pre W key i) := h.off _ _ (by rw [hp]; omega);have e2 : pre W key (i + 1) = 2 * pre W key i + 1 := by rw [hp]; simp
   rw [e1, show adr' (i + 1) (2 * pre W key i + 1) = adr' (i + 1) (pre W key (i + 1)) by rw [e2]];simpa using B3
 have hoth : ∀ j h', i + 1 ≤ j → j ≤ K → adr' j (pre W key j) = some h' → NodeAt (w2.setCell ⟨g, 3 + c, none⟩ (ptr (adr' (i + 1) (pre W key (i + 1))))) M adr' j (pre W key j) h' (qaft dat K (pre W key K) qam1 j (pre W key j)) := fun j h' j1 j2 e =>
  (h.node j h' j1 j2 e).step hs (fun b hb => by rw [show b = g from hb]; exact b4) (fun hb => by
   have := (ht.inj _ _ _ _ _ hg ((h.sub _ _ _ e).trans (by rw [show h' = g from hb]))).1; omega)
 have hdat : qaft dat K (pre W key K) qam1 i (pre W key i) = dat i (pre W key i) := qad5 (by omega);refine ⟨fun j v b e => ?_, fun j v hn => ?_, fun j b h1 h2 e => ?_, hst, fun q h1 h2 e => ?_⟩
 ·cases keepIt with
  | true => exact h.sub j v b e
  | false =>
   by_cases hx : j = i ∧ v = pre W key i
   ·obtain ⟨rfl, rfl⟩ := hx;rw [if_neg (by decide), qab7] at e; cases e
   ·rw [if_neg (by decide), qabp hx] at e; exact h.sub j v b e
 ·have e1 : adr' j v = adr j v := h.off j v fun hx => hn ⟨by omega, hx.2.1, hx.2.2⟩
  cases keepIt with
  | true => exact e1
  | false => rw [if_neg (by decide), qabp fun hx => hn ⟨by omega, by omega, by rw [hx.2, hx.1]⟩]; exact e1
 ·cases keepIt with
  | true =>
   rw [if_pos rfl] at e ⊢;by_cases hj : j = i
   ·subst hj;rw [hsame] at e;cases e
    rw [hdat];exact hnode
   ·exact hoth j b (by omega) h2 e
  | false =>
   rw [if_neg (by decide)] at e ⊢;by_cases hj : j = i
   ·subst hj;rw [qab7] at e; cases e
   ·rw [qabp (by omega)] at e;obtain ⟨x, y, z, n1, n2, n3⟩ := hoth j b (by omega) h2 e;exact ⟨x, y, z, by rw [qabp (by omega), qabp (by omega)]; exact n1, n2, n3⟩
 ·cases keepIt with
  | true =>
   rw [if_pos rfl] at e ⊢;by_cases hq : q = i
   ·subst hq;rw [hsame] at e; cases e
   ·exact h.gone q (by omega) h2 e
  | false =>
   rw [if_neg (by decide)] at e ⊢;by_cases hq : q = i
   ·subst hq;rw [qabp (by omega), qabp (by omega)];exact ⟨fun _ => (hk rfl).1, (hk rfl).2⟩
   ·rw [qabp (by omega)] at e;rw [qabp (by omega), qabp (by omega)];exact h.gone q (by omega) h2 e
set_option maxRecDepth 100000 in
set_option maxHeartbeats 4000000 in
theorem qaqr (gt W K : Nat) (key most n : Int) (M : Nat → Prop) (adr : Nat → Int → Option Nat) (dat : Nat → Int → Dat) (hW : W ≤ 64) (hK : K ≤ W) (hkey : Fits .u64 key) (hlt : key < 2 ^ W) :
  ∀ (d i : Nat), i + d = K → ∀ (w : World), Pfx w gt (W : Int) most n M adr dat → ∀ (g : Nat), adr i (pre W key i) = some g → adr K (pre W key K) ≠ none →
  Calls Tryz.prog 130 #[.pointer (some ⟨gt, 0, none⟩), .pointer (some ⟨g, 0, none⟩), .int .u64 key, .int .i64 (i : Int), .int .i64 (K : Int)] w fun e w' => ∃ adr', e = .returned (ptr (adr' i (pre W key i))) ∧ Pruned W K key M adr dat i w w' adr' := by
 intro d;induction d with
 | zero =>
  intro i hi w h g hg hne;obtain rfl : i = K := by omega
  obtain ⟨⟨ao, an, ac, B1, _, _⟩, _⟩ := h.trie.node _ _ _ hg;have q : ((i : Int) == (i : Int)) = true := by simp
  have b0 := B1.cell 0;have b1 := B1.cell 1;have b2 := B1.cell 2;have b3 := B1.cell 3;have b4 := B1.cell 4;simp at b0 b1 b2 b3 b4;have bz := B1.lt;have f0 := B1.frozen 0;have f1 := B1.frozen 1;have f2 := B1.frozen 2;have HL := Lib.hid (fun keepIt hk => Pruned.last h.trie hg keepIt hk);have Hg := Lib.hid hg;obtain ⟨x, hx⟩ : ∃ x, adr (i + 1) (2 * pre W key i) = x := ⟨_, rfl⟩
  obtain ⟨y, hy⟩ : ∃ y, adr (i + 1) (2 * pre W key i + 1) = y := ⟨_, rfl⟩
  rw [hx] at b3;rw [hy] at b4;have HX := Lib.hid hx;have HY := Lib.hid hy;have hEq := fun (p q : Option Addr) (w : World) => qa1j p q w
  clear h hg hne hx hy B1 hi;cases x with
  | none =>
   cases y with
   | none =>
    rw [qadp] at b3 b4;go_enter Tryz.func130, Tryz.ntmps130
    go_wp2_with fail
    go_ret
    exact ⟨_, by rw [show (if (false : Bool) then adr else qafv adr i (pre W key i) none) = qafv adr i (pre W key i) none from rfl, qab7]; rfl, HL.out false fun _ => ⟨HX.out, HY.out⟩⟩
   | some y =>
    rw [qadp] at b3;rw [qacz] at b4;go_enter Tryz.func130, Tryz.ntmps130
    go_wp2_with fail
    go_ret
    exact ⟨adr, by rw [Hg.out]; rfl, HL.out true fun h => by cases h⟩
  | some x =>
   rw [qacz] at b3;have hptr : ∃ py, ptr y = .pointer py := ⟨_, rfl⟩
   obtain ⟨py, hpy⟩ := hptr;rw [hpy] at b4;clear hpy;go_enter Tryz.func130, Tryz.ntmps130
   go_wp2_with fail
   go_ret
   exact ⟨adr, by rw [Hg.out]; rfl, HL.out true fun h => by cases h⟩
 | succ d ih =>
  intro i hi w h g hg hne;have q : ((i : Int) == (K : Int)) = false := by rw [beq_eq_false_iff_ne]; omega
  have hs := qag3 key (show i < W by omega);have hpr := Lib.hid hs;have HB := fun w' (hb : Below w.heap.size w w') => qaf5 gt W i key most n M adr dat w' (h.below hb) hW (by omega) hkey
  have hkb : kbit W key i = 0 ∨ kbit W key i = 1 := by have := qaea W key i; omega
  have hwr : IntKind.i64.wrap ((i : Int) + 1) = (i : Int) + 1 := qadt (by omega) (by omega);have H := Lib.hid h;clear hs;rcases hkb with hb | hb
  ·rw [hb] at HB;have hn : pre W key (i + 1) = 2 * pre W key i := by rw [hpr.out, hb]; omega
   have HN := Lib.hid hn;have hch : ∃ g1, adr (i + 1) (2 * pre W key i) = some g1 := by
    cases e1 : adr (i + 1) (2 * pre W key i) with
    | none => exact absurd (h.trie.none_up (show i + 1 ≤ K by omega) hK (by rw [hn]; exact e1)) hne
    | some g1 => exact ⟨g1, rfl⟩
   obtain ⟨g1, hg1⟩ := hch;have hg1' : Hid (adr (i + 1) (pre W key (i + 1)) = some g1) := by show _ = _; rw [hn]; exact hg1
   obtain ⟨sb, hsb⟩ : ∃ sb, adr (i + 1) (2 * pre W key i + 1) = sb := ⟨_, rfl⟩
   have hIH0 : ∀ w1, Below w.heap.size w w1 → Calls Tryz.prog 130 #[.pointer (some ⟨gt, 0, none⟩), .pointer (some ⟨g1, 0, none⟩), .int .u64 key, .int .i64 ((i : Int) + 1), .int .i64 (K : Int)] w1 (fun e w' => ∃ adr', e = .returned (ptr (adr' (i + 1) (pre W key (i + 1)))) ∧ Pruned W K key M adr dat (i + 1) w1 w' adr') := by
    intro w1 hb1;have e : (((i + 1 : Nat)) : Int) = (i : Int) + 1 := by omega
    have := ih (i + 1) (by omega) w1 (h.below hb1) g1 hg1'.out hne;rw [e] at this;exact this
   have hIH := Lib.hid hIH0;clear hIH0;obtain ⟨⟨ao, an, ac, B1, _, _⟩, _⟩ := h.trie.node _ _ _ hg;rw [hg1, hsb, qacz] at B1;have HSb := Lib.hid hsb;have b3 := B1.cell 3;simp at b3;have bz := B1.lt;have HB2 := Lib.hid HB;have Hg := Lib.hid hg;have Hne := Lib.hid hne;have hEq := fun (p q : Option Addr) (w : World) => qa1j p q w
   clear HB hb hg1 hsb hn h hg hne ih;go_enter Tryz.func130, Tryz.ntmps130
   go_wp2_with fail
   refine (HB2.out _ (rf _)).mono ?_;rintro e w' ⟨rfl, rfl⟩;go_wp2_with fail
   go_region_law ((first
    | (go_simp; go_at_call 130; refine (hIH.out w.drew (Below.drew0_ w)).mono ?_; rintro e w4 ⟨adr', rfl, hPr⟩; obtain ⟨pv, hpv⟩ : ∃ pv, ptr (adr' (i + 1) (pre W key (i + 1))) = Value.pointer pv := ⟨_, rfl⟩; rw [hpv]; have HPv := Lib.hid hpv; clear hpv; have hB4 : Blk w4 g _ _ := (hPr.step.block g B1.lt (fun ⟨q, q1, q2, q3⟩ => by have := (H.out.trie.inj _ _ _ _ _ Hg.out q3).1; omega)).trans B1; have fz := hB4.frozen 3; have z4 := hB4.lt; have q3 := hB4.cell 3; simp at q3)))
   all_goals
    have hBk := fun keepIt hk => Pruned.back (c := 0) H.out.trie (Below.drew0_ w) (show i < K by omega) hK Hg.out (.inl rfl) (by rw [HN.out]; simp) hPr keepIt hk
    have hch : (pv = none → adr' (i + 1) (pre W key (i + 1)) = none) := by
     intro hp;have := HPv.out;rw [hp] at this;cases e1 : adr' (i + 1) (pre W key (i + 1)) with
     | none => rfl
     | some x => rw [e1] at this; cases this
    rw [HPv.out] at hBk;have hsib : adr' (i + 1) (2 * pre W key i + 1) = sb := by rw [hPr.off _ _ (by rw [HN.out]; omega)]; exact HSb.out
    have hsm : adr' i (pre W key i) = some g := by rw [hPr.off _ _ (by omega)]; exact Hg.out
    have HBk := Lib.hid hBk;have HC := Lib.hid hch;have HSm := Lib.hid hsm;have HSib := Lib.hid hsib;have B5 := hB4.set_ 3 (.pointer pv);have c0 := B5.cell 0;have c3 := B5.cell 3;have c4 := B5.cell 4;simp at c0 c3 c4;have c5 := B5.lt;clear hBk hch hsm hsib B5 hB4 hPr q3 fz z4 HPv b3 bz B1;change Exit.then _ _ _ _ (w4.setCell ⟨g, 3 + 0, none⟩ (.pointer pv))
    generalize w4.setCell ⟨g, 3 + 0, none⟩ (.pointer pv) = w5 at *;cases hth : (dat i (pre W key i)).there with
    | true =>
     rw [hth] at c0;clear hth;go_wp2_with fail
     go_ret
     exact ⟨adr', by rw [HSm.out]; rfl, HBk.out true fun h => by cases h⟩
    | false =>
     rw [hth] at c0;have HTh := Lib.hid hth;clear hth;cases pv with
     | some px =>
      have hptr : ∃ py, ptr sb = Value.pointer py := ⟨_, rfl⟩
      obtain ⟨py, hpy⟩ := hptr;rw [hpy] at c4;clear hpy;go_wp2_with fail
      go_ret
      exact ⟨adr', by rw [HSm.out]; rfl, HBk.out true fun h => by cases h⟩
     | none =>
      cases sb with
      | some sx =>
       rw [qacz] at c4;go_wp2_with fail
       go_ret
       exact ⟨adr', by rw [HSm.out]; rfl, HBk.out true fun h => by cases h⟩
      | none =>
       rw [qadp] at c4;go_wp2_with fail
       go_ret
       refine ⟨_, ?_, HBk.out false fun _ => ⟨HTh.out, ?_⟩⟩
       ·rw [show (if (false : Bool) then adr' else qafv adr' i (pre W key i) none) = qafv adr' i (pre W key i) none from rfl, qab7]; rfl
       ·have hch0 := HC.out (by first | rfl | trivial);exact ⟨by rw [HN.out] at hch0; exact hch0, by rw [HSib.out]⟩
  ·rw [hb] at HB;have hn : pre W key (i + 1) = 2 * pre W key i + 1 := by rw [hpr.out, hb]
   have HN := Lib.hid hn;have hch : ∃ g1, adr (i + 1) (2 * pre W key i + 1) = some g1 := by
    cases e1 : adr (i + 1) (2 * pre W key i + 1) with
    | none => exact absurd (h.trie.none_up (show i + 1 ≤ K by omega) hK (by rw [hn]; exact e1)) hne
    | some g1 => exact ⟨g1, rfl⟩
   obtain ⟨g1, hg1⟩ := hch;have hg1' : Hid (adr (i + 1) (pre W key (i + 1)) = some g1) := by show _ = _; rw [hn]; exact hg1
   obtain ⟨sb, hsb⟩ : ∃ sb, adr (i + 1) (2 * pre W key i) = sb := ⟨_, rfl⟩
   have hIH0 : ∀ w1, Below w.heap.size w w1 → Calls Tryz.prog 130 #[.pointer (some ⟨gt, 0, none⟩), .pointer (some ⟨g1, 0, none⟩), .int .u64 key, .int .i64 ((i : Int) + 1), .int .i64 (K : Int)] w1 (fun e w' => ∃ adr', e = .returned (ptr (adr' (i + 1) (pre W key (i + 1)))) ∧ Pruned W K key M adr dat (i + 1) w1 w' adr') := by
    intro w1 hb1;have e : (((i + 1 : Nat)) : Int) = (i : Int) + 1 := by omega
    have := ih (i + 1) (by omega) w1 (h.below hb1) g1 hg1'.out hne;rw [e] at this;exact this
   have hIH := Lib.hid hIH0;clear hIH0;obtain ⟨⟨ao, an, ac, B1, _, _⟩, _⟩ := h.trie.node _ _ _ hg;rw [hg1, hsb, qacz] at B1;have HSb := Lib.hid hsb;have b3 := B1.cell 4;simp at b3;have bz := B1.lt;have HB2 := Lib.hid HB;have Hg := Lib.hid hg;have Hne := Lib.hid hne;have hEq := fun (p q : Option Addr) (w : World) => qa1j p q w
   clear HB hb hg1 hsb hn h hg hne ih;go_enter Tryz.func130, Tryz.ntmps130
   go_wp2_with fail
   refine (HB2.out _ (rf _)).mono ?_;rintro e w' ⟨rfl, rfl⟩;go_wp2_with fail
   go_region_law ((first
    | (go_simp; go_at_call 130; refine (hIH.out w.drew (Below.drew0_ w)).mono ?_; rintro e w4 ⟨adr', rfl, hPr⟩; obtain ⟨pv, hpv⟩ : ∃ pv, ptr (adr' (i + 1) (pre W key (i + 1))) = Value.pointer pv := ⟨_, rfl⟩; rw [hpv]; have HPv := Lib.hid hpv; clear hpv; have hB4 : Blk w4 g _ _ := (hPr.step.block g B1.lt (fun ⟨q, q1, q2, q3⟩ => by have := (H.out.trie.inj _ _ _ _ _ Hg.out q3).1; omega)).trans B1; have fz := hB4.frozen 4; have z4 := hB4.lt; have q3 := hB4.cell 4; simp at q3)))
   all_goals
    have hBk := fun keepIt hk => Pruned.back (c := 1) H.out.trie (Below.drew0_ w) (show i < K by omega) hK Hg.out (.inr rfl) (by rw [HN.out]; simp) hPr keepIt hk
    have hch : (pv = none → adr' (i + 1) (pre W key (i + 1)) = none) := by
     intro hp;have := HPv.out;rw [hp] at this;cases e1 : adr' (i + 1) (pre W key (i + 1)) with
     | none => rfl
     | some x => rw [e1] at this; cases this
    rw [HPv.out] at hBk;have hsib : adr' (i + 1) (2 * pre W key i) = sb := by rw [hPr.off _ _ (by rw [HN.out]; omega)]; exact HSb.out
    have hsm : adr' i (pre W key i) = some g := by rw [hPr.off _ _ (by omega)]; exact Hg.out
    have HBk := Lib.hid hBk;have HC := Lib.hid hch;have HSm := Lib.hid hsm;have HSib := Lib.hid hsib;have B5 := hB4.set_ 4 (.pointer pv);have c0 := B5.cell 0;have c3 := B5.cell 3;have c4 := B5.cell 4;simp at c0 c3 c4;have c5 := B5.lt;clear hBk hch hsm hsib B5 hB4 hPr q3 fz z4 HPv b3 bz B1;change Exit.then _ _ _ _ (w4.setCell ⟨g, 3 + 1, none⟩ (.pointer pv))
    generalize w4.setCell ⟨g, 3 + 1, none⟩ (.pointer pv) = w5 at *;cases hth : (dat i (pre W key i)).there with
    | true =>
     rw [hth] at c0;clear hth;go_wp2_with fail
     go_ret
     exact ⟨adr', by rw [HSm.out]; rfl, HBk.out true fun h => by cases h⟩
    | false =>
     rw [hth] at c0;have HTh := Lib.hid hth;clear hth;cases pv with
     | some px =>
      have hptr : ∃ py, ptr sb = Value.pointer py := ⟨_, rfl⟩
      obtain ⟨py, hpy⟩ := hptr;rw [hpy] at c3;clear hpy;go_wp2_with fail
      go_ret
      exact ⟨adr', by rw [HSm.out]; rfl, HBk.out true fun h => by cases h⟩
     | none =>
      cases sb with
      | some sx =>
       rw [qacz] at c3;go_wp2_with fail
       go_ret
       exact ⟨adr', by rw [HSm.out]; rfl, HBk.out true fun h => by cases h⟩
      | none =>
       rw [qadp] at c3;go_wp2_with fail
       go_ret
       refine ⟨_, ?_, HBk.out false fun _ => ⟨HTh.out, ?_⟩⟩
       ·rw [show (if (false : Bool) then adr' else qafv adr' i (pre W key i) none) = qafv adr' i (pre W key i) none from rfl, qab7]; rfl
       ·have hch0 := HC.out (by first | rfl | trivial);exact ⟨by rw [HSib.out], by rw [HN.out] at hch0; exact hch0⟩
end
section
attribute [local go_sem ↓] Go.wp_at_zero Go.wp_at_succ
theorem Pruned.trie {W K : Nat} {key : Int} {M : Nat → Prop} {adr adr' : Nat → Int → Option Nat} {dat : Nat → Int → Dat} {w w' : World} (h : Pruned W K key M adr dat 0 w w' adr') (ht : Trie w M adr dat) (hK : K ≤ W) (hkey : 0 ≤ key) (hlt : key < 2 ^ W) : Trie w' M adr' (qaft dat K (pre W key K) qam1) := by
 have hpar : ∀ j c : Nat, j < W → c ≤ 1 → ∀ v : Int, 2 * v + c = pre W key (j + 1) → v = pre W key j := fun j c hj hc v e => by
  have := qag3 key hj;have := qaea W key j;omega
 refine ⟨fun j v g e => ?_, fun j v i u g e1 e2 => ht.inj _ _ _ _ _ (h.sub _ _ _ e1) (h.sub _ _ _ e2), fun j v hne => ?_, fun k hk => Nat.lt_of_lt_of_le (ht.lt k hk) h.step.size⟩
 ·have hM := (ht.node _ _ _ (h.sub _ _ _ e)).2;refine ⟨?_, hM⟩;by_cases hx : j ≤ K ∧ v = pre W key j
  ·obtain ⟨h1, rfl⟩ := hx;exact h.node j g (Nat.zero_le _) h1 e
  ·have hg := h.sub _ _ _ e;obtain ⟨x, y, z, n1, n2, n3⟩ := ((ht.node _ _ _ hg).1).step h.step (fun b ⟨q, _, _, q3⟩ => (ht.node _ _ _ q3).2) (fun ⟨q, q1, q2, q3⟩ => hx (by obtain ⟨rfl, rfl⟩ := ht.inj _ _ _ _ _ hg q3; exact ⟨q2, rfl⟩));rw [qad5 (fun hx2 => hx ⟨by omega, by rw [hx2.2, hx2.1]⟩)];refine ⟨x, y, z, ?_, n2, n3⟩;rw [h.off (j + 1) (2 * v) (fun ⟨_, k1, k2⟩ => hx ⟨by omega, hpar j 0 (by omega) (by omega) v (by simpa using k2)⟩), h.off (j + 1) (2 * v + 1) (fun ⟨_, k1, k2⟩ => hx ⟨by omega, hpar j 1 (by omega) (by omega) v (by simpa using k2)⟩)];exact n1
 ·intro hn;by_cases hx : j ≤ K ∧ v / 2 = pre W key j
  ·obtain ⟨h1, h2⟩ := hx;rw [h2] at hn;obtain ⟨_, c0, c1⟩ := h.gone j (Nat.zero_le _) h1 hn;have : v = 2 * pre W key j ∨ v = 2 * pre W key j + 1 := by omega
   rcases this with rfl | rfl
   ·exact hne c0
   ·exact hne c1
  ·rw [h.off j (v / 2) (fun ⟨_, k1, k2⟩ => hx ⟨k1, k2⟩)] at hn;cases e : adr' (j + 1) v with
   | none => exact hne e
   | some g => exact ht.up j v (by rw [h.sub _ _ _ e]; simp) hn
theorem Pruned.ent {W K : Nat} {key : Int} {M : Nat → Prop} {adr adr' : Nat → Int → Option Nat} {dat : Nat → Int → Dat} {w w' : World} (h : Pruned W K key M adr dat 0 w w' adr') (i : Nat) (v : Int) :
  ent adr' (qaft dat K (pre W key K) qam1) i v = qaef (ent adr dat) K (pre W key K) none i v := by
 unfold qaef;by_cases hx : i = K ∧ v = pre W key K
 ·rw [if_pos hx];obtain ⟨rfl, rfl⟩ := hx;cases e : adr' i (pre W key i) with
  | none => rw [qadl e]
  | some g => rw [qac1 e, qae0]; rfl
 ·rw [if_neg hx];cases e : adr' i v with
  | some g => rw [qac1 e, qac1 (h.sub _ _ _ e), qad5 hx]
  | none =>
   rw [qadl e];by_cases hp : i ≤ K ∧ v = pre W key i
   ·obtain ⟨h1, rfl⟩ := hp;obtain ⟨t, _⟩ := h.gone i (Nat.zero_le _) h1 e;have t := t (by rcases Nat.lt_or_ge i K with h2 | h2; exact h2; exact absurd ⟨Nat.le_antisymm h1 h2, by rw [Nat.le_antisymm h1 h2]⟩ hx);cases e2 : adr i (pre W key i) with
    | none => rw [qadl e2]
    | some g => rw [qac1 e2, t]; rfl
   ·rw [h.off i v (fun ⟨_, k1, k2⟩ => hp ⟨k1, k2⟩)] at e;rw [qadl e]
theorem Trie.addRoot {w : World} {M : Nat → Prop} {adr : Nat → Int → Option Nat} {dat : Nat → Int → Dat} (h : Trie w M adr dat) (h0 : adr 0 0 = none) (h1 : adr 1 0 = none) (h2 : adr 1 1 = none) :
  Trie (w.alloc (.cells qa9w 103)) M (qafv adr 0 0 (some w.heap.size)) (qaft dat 0 0 qam1) := by
 have hal := al (rf w) (.cells qa9w 103);have hlt : ∀ i v b, adr i v = some b → b < w.heap.size := fun i v b e => by obtain ⟨⟨_, _, _, h1, _⟩, _⟩ := h.node i v b e; exact h1.lt
 refine ⟨fun i v g e => ?_, fun i v j u g e1 e2 => ?_, fun i v hne => ?_, fun k hk => Nat.lt_of_lt_of_le (h.lt k hk) hal.size⟩
 ·by_cases hx : i = 0 ∧ v = 0
  ·obtain ⟨rfl, rfl⟩ := hx;rw [qab7] at e;cases e
   refine ⟨?_, fun hk => Nat.lt_irrefl _ (h.lt _ hk)⟩;rw [qae0];refine ⟨none, 0, 0, ?_, RdL.nil_ _ _ _, Fits.of_i64 (by decide) (by decide)⟩;rw [qabp (by omega), qabp (by omega), show (2 * (0 : Int)) = 0 by rfl, show ((0 : Int) + 1) = 1 by rfl, show (0 + 1) = 1 from rfl, h1, h2];exact Blk.new w 103 qa9w
  ·rw [qabp hx] at e;rw [qad5 hx];obtain ⟨n, m⟩ := (h.below hal).node i v g e;obtain ⟨x, y, z, n1, n2, n3⟩ := n;refine ⟨⟨x, y, z, ?_, n2, n3⟩, m⟩;rw [qabp (by omega), qabp (by omega)];exact n1
 ·by_cases hx : i = 0 ∧ v = 0
  ·by_cases hy : j = 0 ∧ u = 0
   ·exact ⟨hx.1.trans hy.1.symm, hx.2.trans hy.2.symm⟩
   ·obtain ⟨rfl, rfl⟩ := hx;rw [qab7] at e1;rw [qabp hy] at e2;cases e1
    exact absurd (hlt _ _ _ e2) (Nat.lt_irrefl _)
  ·rw [qabp hx] at e1;by_cases hy : j = 0 ∧ u = 0
   ·obtain ⟨rfl, rfl⟩ := hy;rw [qab7] at e2;cases e2
    exact absurd (hlt _ _ _ e1) (Nat.lt_irrefl _)
   ·rw [qabp hy] at e2;exact h.inj _ _ _ _ _ e1 e2
 ·rw [qabp (by omega)] at hne;have := h.up i v hne;unfold qafv;split
  ·simp
  ·exact this
def qab5 (width : Int) (E : Nat → Int → Option (Int × List Int)) (key k : Int) : Int :=
 if qafj width key k = false then 6 else if (E k.toNat (pre width.toNat key k.toNat)).isSome then 0 else 9
def qad0 (width n : Int) (E : Nat → Int → Option (Int × List Int)) (key k : Int) : Int := if qab5 width E key k = 0 then n - 1 else n
def qaer (width : Int) (E : Nat → Int → Option (Int × List Int)) (key k : Int) : Nat → Int → Option (Int × List Int) := if qab5 width E key k = 0 then qaef E k.toNat (pre width.toNat key k.toNat) none else E
theorem qaf4 {width n : Int} {E : Nat → Int → Option (Int × List Int)} {key k : Int} (h : qab5 width E key k ≠ 0) : qad0 width n E key k = n ∧ qaer width E key k = E := by unfold qad0 qaer; rw [if_neg h, if_neg h]; exact ⟨rfl, rfl⟩
theorem qagh {width n : Int} {E : Nat → Int → Option (Int × List Int)} {key k : Int} (h : qab5 width E key k = 0) : qad0 width n E key k = n - 1 ∧ qaer width E key k = qaef E k.toNat (pre width.toNat key k.toNat) none := by unfold qad0 qaer; rw [if_pos h, if_pos h]; exact ⟨rfl, rfl⟩
end
section
attribute [local go_sem ↓] Go.wp_at_zero Go.wp_at_succ
theorem Trie.far {w : World} {M : Nat → Prop} {adr : Nat → Int → Option Nat} {dat : Nat → Int → Dat} (h : Trie w M adr dat) {gt j : Nat} (hM : ¬ M gt) (hn : ∀ i v, adr i v ≠ some gt) (u : Value) : Trie (w.setCell ⟨gt, j, none⟩ u) M adr dat :=
 h.step (Step.set (fun k => k = gt) w ⟨gt, j, none⟩ rfl u) (fun k hk => by rw [show k = gt from hk]; exact hM) (fun i v g e hg => hn i v (by rw [e, show g = gt from hg]))
set_option maxRecDepth 100000 in
set_option maxHeartbeats 4000000 in
theorem qaux (gt : Nat) (Fp : Nat → Prop) (width most n key k : Int) (E : Nat → Int → Option (Int × List Int)) (w : World) (h : PfxObj w Fp gt width most n E) (hw : Fits .i64 width) (hkey : Fits .u64 key) (hk : Fits .i64 k) (hn : -1000000 ≤ n ∧ n ≤ 1000000) :
  Calls Tryz.prog 125 #[.pointer (some ⟨gt, 0, none⟩), .int .u64 key, .int .i64 k] w fun e w' => e = .returned (.int .i64 (qab5 width E key k)) ∧
   ∃ Fp', PfxObj w' Fp' gt width most (qad0 width n E key k) (qaer width E key k) ∧ (∀ b, Fp' b → Fp b ∨ w.heap.size ≤ b) ∧ Step Fp w w' := by
 have HO := Lib.hid h;obtain ⟨M, adr, dat, h1, h2, h3, h4, h5, h6⟩ := h;have H1 := Lib.hid h1;by_cases hf : qafj width key k = true
 case neg =>
  have hf' : qafj width key k = false := by simpa using hf
  have hc : qab5 width E key k = 6 := by unfold qab5; rw [if_pos hf']
  obtain ⟨e1, e2⟩ := qaf4 (n := n) (show qab5 width E key k ≠ 0 by rw [hc]; decide);rw [hc, e1, e2];have HF := Lib.hid hf';clear hf hf' hc e1 e2 h6 h5 h4 h3 h2 h1;go_enter Tryz.func125, Tryz.ntmps125
  go_wp2_with fail
  refine (qacv _ _ _ _ _ _ _ _ _ _ H1.out hw hk hkey).mono ?_;rintro e w' ⟨rfl, rfl⟩;rw [HF.out];go_wp2_with fail
  go_ret
  exact ⟨rfl, Fp, HO.out, fun b hb => .inl hb, Step.refl _ _⟩
 obtain ⟨W, K, rfl, rfl, hW1, hW, hK, hlt, hmod⟩ := qadj hf;have HF := Lib.hid hf;have hE := h2 K (pre W key K);have hdc : qab5 (W : Int) E key (K : Int) = if (E K (pre W key K)).isSome then 0 else 9 := by unfold qab5; rw [if_neg (by rw [hf]; decide)]; rfl
 have H2 := Lib.hid h2;have H4 := Lib.hid h4;have H5 := Lib.hid h5;have H6 := Lib.hid h6;clear h1 h2 h4 h5 h6 hf;go_enter Tryz.func125, Tryz.ntmps125
 go_wp2_with fail
 refine (qacv _ _ _ _ _ _ _ _ _ _ H1.out hw hk hkey).mono ?_;rintro e w' ⟨rfl, rfl⟩;rw [HF.out];go_wp2_with fail
 refine (qaix gt W K key most n M adr dat _ H1.out hW hK hkey hlt).mono ?_;rintro e w2 ⟨rfl, hb2⟩;have HP2 := Lib.hid (H1.out.below hb2);have hcs : (∃ g, adr K (pre W key K) = some g ∧ (dat K (pre W key K)).there = true) ∨ (E K (pre W key K) = none ∧ (adr K (pre W key K) = none ∨ ∃ g, adr K (pre W key K) = some g ∧ (dat K (pre W key K)).there = false)) := by
  cases e : adr K (pre W key K) with
  | none => exact .inr ⟨by rw [← hE, qadl e], .inl rfl⟩
  | some g =>
   cases t : (dat K (pre W key K)).there with
   | true => exact .inl ⟨g, rfl, rfl⟩
   | false => exact .inr ⟨by rw [← hE, qac1 e, t]; rfl, .inr ⟨g, rfl, rfl⟩⟩
 rcases hcs with ⟨g, eg, tg⟩ | ⟨hE0, hcs⟩
 case inr =>
  have hc : Hid (qab5 (W : Int) E key (K : Int) = 9) := by show _ = _; rw [hdc, hE0]; rfl
  have hmd : ∃ p : Value, ptr (adr K (pre W key K)) = p ∧ (p = .pointer none ∨ ∃ g, p = .pointer (some ⟨g, 0, none⟩) ∧ w2.cell? ⟨g, 0, none⟩ = some (.bool false) ∧ g < w2.heap.size) := by
   rcases hcs with e | ⟨g, e, t⟩
   ·exact ⟨_, by rw [e]; rfl, .inl rfl⟩
   ·obtain ⟨_, _, _, y0, _, _, _, _, _, hgz, _⟩ := HP2.out.trie.cells e;rw [t] at y0;exact ⟨_, by rw [e]; rfl, .inr ⟨g, rfl, y0, hgz⟩⟩
  obtain ⟨p, hp, hpc⟩ := hmd;rw [hp];clear hp hcs hE0 hdc hE;rcases hpc with rfl | ⟨g, rfl, y0, hgz⟩
  all_goals
   go_wp2_with fail
   go_ret
   obtain ⟨e1, e2⟩ := qaf4 (n := n) (show qab5 (W : Int) E key (K : Int) ≠ 0 by rw [hc.out]; decide);rw [hc.out, e1, e2];exact ⟨rfl, Fp, HO.out.below hb2, fun b hb => .inl hb, Step.of hb2⟩
 have hc : Hid (qab5 (W : Int) E key (K : Int) = 0) := by show _ = _; rw [hdc, ← hE, qac1 eg, tg]; rfl
 obtain ⟨_, _, _, y0, _, _, _, _, _, hgz, _⟩ := HP2.out.trie.cells eg;rw [tg] at y0;have hroot : ∃ r, adr 0 0 = some r := by
  cases e : adr 0 0 with
  | none => exact absurd e H1.out.root
  | some r => exact ⟨r, rfl⟩
 obtain ⟨r, hr⟩ := hroot;have p0 := qamb (W := W) hkey.u64.1 hlt;have hPr := qaqr gt W K key most n M adr dat hW hK hkey hlt K 0 (by omega) w2 HP2.out r (by rw [p0]; exact hr) (by rw [eg]; simp);rw [p0, show ((0 : Nat) : Int) = 0 from rfl] at hPr;have HPr := Lib.hid hPr;have Bt := HP2.out.blk;rw [hr] at Bt;have t3 := Bt.cell 3;simp [ptr] at t3;have tz := Bt.lt;have tf3 := Bt.frozen 3;have BT := Lib.hid Bt;rw [eg, qacz];have HR := Lib.hid hr;have P0 := Lib.hid p0;have hNT : Hid (∀ i v, adr i v ≠ some gt) := fun i v e => H1.out.ne e rfl
 clear hdc hE hPr Bt eg tg hr p0;go_wp2_with fail
 refine HPr.out.mono ?_;rintro e w3 ⟨adr', rfl, hD⟩;have B3 : Blk w3 gt _ _ := (hD.step.block gt BT.out.lt (fun ⟨q, _, _, q3⟩ => hNT.out _ _ q3)).trans BT.out;have hT := Lib.hid (hD.trie HP2.out.trie hK hkey.u64.1 hlt);have hEn := Lib.hid (fun i v => hD.ent i v);have hsub := Lib.hid hD.sub;have hgone := Lib.hid (hD.gone 0 (Nat.le_refl _) (Nat.zero_le _));have hst : Hid (Step Fp w w3) := (Step.of hb2).trans (hD.step.mono fun b ⟨q, _, _, q3⟩ => H5.out _ _ _ q3);have hwr : IntKind.i64.wrap (n - 1) = n - 1 := qadt (by omega) (by omega);have hsz : w.heap.size ≤ w3.heap.size := hst.out.size;have c3 := B3.cell 3;have c2 := B3.cell 2;simp at c3 c2;have cz := B3.lt;have f3 := B3.frozen 3;have f2 := B3.frozen 2;have HB3 := Lib.hid B3;obtain ⟨q, hq⟩ : ∃ q, adr' 0 0 = q := ⟨_, rfl⟩
 have HQ := Lib.hid hq;rw [hq];clear hD B3 hq t3 tz tf3 y0 hgz hb2 HPr;cases q with
 | some r' =>
  rw [qacz];go_wp2_with fail
  go_ret
  obtain ⟨e1, e2⟩ := qagh (n := n) (show qab5 (W : Int) E key (K : Int) = 0 from hc.out);rw [hc.out, e1, e2];have hn' : ∀ i v, adr' i v ≠ some gt := fun i v e => hNT.out i v (hsub.out _ _ _ e)
  have hEE : ent adr dat = E := funext fun i => funext fun v => H2.out i v
  refine ⟨rfl, Fp, ⟨M, adr', qaft dat K (pre W key K) qam1, ⟨?_, ((hT.out.far H1.out.out hn' _).far H1.out.out hn' _), H1.out.out, by rw [HQ.out]; simp⟩, fun i v => by rw [hEn.out i v, hEE]; rfl, h3, H4.out, fun i v g e => H5.out i v g (hsub.out _ _ _ e), fun b hb => ?_⟩, fun b hb => .inl hb, (hst.out.trans (Step.set Fp _ ⟨gt, 3, none⟩ h3 _)).trans (Step.set Fp _ ⟨gt, 2, none⟩ h3 _)⟩
  ·have := (HB3.out.set_ 3 (.pointer (some ⟨r', 0, none⟩))).set_ 2 (.int .i64 (n - 1));rw [HQ.out];simpa [ptr] using this
  ·have := H6.out b hb;simp [World.setCell]; omega
 | none =>
  rw [qadp];go_wp2_with fail
  go_ret
  obtain ⟨e1, e2⟩ := qagh (n := n) (show qab5 (W : Int) E key (K : Int) = 0 from hc.out);rw [hc.out, e1, e2];have hn' : ∀ i v, adr' i v ≠ some gt := fun i v e => hNT.out i v (hsub.out _ _ _ e)
  have hEE : ent adr dat = E := funext fun i => funext fun v => H2.out i v
  obtain ⟨_, g1, g2⟩ := hgone.out (by rw [P0.out]; exact HQ.out);rw [P0.out] at g1 g2;have hT5 := (((hT.out.far H1.out.out hn' (j := 3) (.pointer none)).far H1.out.out hn' (j := 3) (.pointer (some ⟨w3.heap.size, 0, none⟩))).far H1.out.out hn' (j := 2) (.int .i64 (n - 1)))
  have hR := hT5.addRoot HQ.out (by simpa using g1) (by simpa using g2);rw [show (((w3.setCell ⟨gt, 3, none⟩ (.pointer none)).setCell ⟨gt, 3, none⟩ (.pointer (some ⟨w3.heap.size, 0, none⟩))).setCell ⟨gt, 2, none⟩ (.int .i64 (n - 1))).heap.size = w3.heap.size by simp [World.setCell]] at hR;refine ⟨rfl, fun b => Fp b ∨ b = w3.heap.size, ⟨M, _, _, ⟨?_, hR, H1.out.out, by rw [qab7]; simp⟩, fun i v => ?_, .inl h3, fun b hb => .inl (H4.out b hb), fun i v g e => ?_, fun b hb => ?_⟩, fun b hb => hb.imp id fun e => by rw [e]; exact hsz, ((((hst.out.trans (Step.set Fp _ ⟨gt, 3, none⟩ h3 _)).trans (Step.set Fp _ ⟨gt, 3, none⟩ h3 _)).trans (Step.set Fp _ ⟨gt, 2, none⟩ h3 _)).trans (Step.alloc Fp _ _))⟩
  ·have := (((HB3.out.set_ 3 (.pointer none)).set_ 3 (.pointer (some ⟨w3.heap.size, 0, none⟩))).set_ 2 (.int .i64 (n - 1))).alloc (.cells qa9w 103);rw [qab7];simpa [ptr, qa9w] using this
  ·by_cases hx : i = 0 ∧ v = 0
   ·obtain ⟨rfl, rfl⟩ := hx;rw [qac1 (qab7 _ _ _ _), qae0];have := hEn.out 0 0;rw [qadl HQ.out, hEE] at this;exact this
   ·have := hEn.out i v;rw [hEE] at this;rw [show ent (qafv adr' 0 0 (some w3.heap.size)) (qaft (qaft dat K (pre W key K) qam1) 0 0 qam1) i v = ent adr' (qaft dat K (pre W key K) qam1) i v by unfold ent; rw [qabp hx, qad5 hx]];exact this
  ·by_cases hx : i = 0 ∧ v = 0
   ·obtain ⟨rfl, rfl⟩ := hx;rw [qab7] at e;cases e
    exact .inr rfl
   ·rw [qabp hx] at e;exact .inl (H5.out i v g (hsub.out _ _ _ e))
  ·rcases hb with hb | rfl
   ·have := H6.out b hb;simp [World.setCell]; omega
   ·simp [World.setCell]
end
section
attribute [local go_sem ↓] Go.wp_at_zero Go.wp_at_succ
theorem qam9 {w : World} {g j : Nat} {t : TypeId} {cs : Array Value} {v : Value} (h : Blk w g t cs) (hv : cs[j]? = some v) : w.setCell ⟨g, j, none⟩ v = w := by
 have hcs : cs.setIfInBounds j v = cs := by
  apply Array.ext_getElem?;intro i;by_cases e : j = i
  ·subst e;obtain ⟨hj, _⟩ := Array.getElem?_eq_some_iff.1 hv;rw [Array.getElem?_setIfInBounds_self_of_lt hj, hv]
  ·rw [Array.getElem?_setIfInBounds_ne e]
 have hh : (w.setCell ⟨g, j, none⟩ v).heap = w.heap := by
  apply Array.ext_getElem?;intro k;by_cases e : k = g
  ·subst e;rw [heap_setCell_same w k j cs t v h, hcs]; exact h.symm
  ·exact heap_setCell_other w _ k v e
 cases w with
 | mk heap tape drawn os output =>
  simp only [World.setCell] at hh ⊢;rw [hh]
def qac0 (width : Int) (E : Nat → Int → Option (Int × List Int)) (key k : Int) : Int :=
 if qafj width key k = false then 6 else if (E k.toNat (pre width.toNat key k.toNat)).isSome then 0 else 9
def qahk (width : Int) (E : Nat → Int → Option (Int × List Int)) (key k act : Int) (args : List Int) : Nat → Int → Option (Int × List Int) := if qac0 width E key k = 0 then qaef E k.toNat (pre width.toNat key k.toNat) (some (act, args)) else E
theorem qahj {width : Int} {E : Nat → Int → Option (Int × List Int)} {key k : Int} (h : qac0 width E key k ≠ 0) (act : Int) (args : List Int) : qahk width E key k act args = E := by unfold qahk; rw [if_neg h]
theorem qajr {width : Int} {E : Nat → Int → Option (Int × List Int)} {key k : Int} (h : qac0 width E key k = 0) (act : Int) (args : List Int) : qahk width E key k act args = qaef E k.toNat (pre width.toNat key k.toNat) (some (act, args)) := by unfold qahk; rw [if_pos h]
set_option maxRecDepth 100000 in
set_option maxHeartbeats 4000000 in
theorem qaz8 (gt : Nat) (Fp : Nat → Prop) (width most n key k act : Int) (ao : Option Addr) (an ac : Nat) (args : List Int) (E : Nat → Int → Option (Int × List Int)) (w : World) (h : PfxObj w Fp gt width most n E) (hw : Fits .i64 width) (hkey : Fits .u64 key) (hk : Fits .i64 k) (hact : Fits .i64 act) (hr : Rd w .u64 ao an ac args) (han : an ≤ 1000000) :
  Calls Tryz.prog 124 #[.pointer (some ⟨gt, 0, none⟩), .int .u64 key, .int .i64 k, .agg #[.int .i64 act, .slice ao an ac]] w fun e w' => e = .returned (.int .i64 (qac0 width E key k)) ∧
   ∃ Fp', PfxObj w' Fp' gt width most n (qahk width E key k act args) ∧ (∀ b, Fp' b → Fp b ∨ w.heap.size ≤ b) ∧ Step Fp w w' := by
 have HO := Lib.hid h;obtain ⟨M, adr, dat, h1, h2, h3, h4, h5, h6⟩ := h;have hal := al (rf w) (.cells #[.int .i64 act, .slice ao an ac] 46);have H1 := Lib.hid (h1.below hal);by_cases hf : qafj width key k = true
 case neg =>
  have hf' : qafj width key k = false := by simpa using hf
  have hc : qac0 width E key k = 6 := by unfold qac0; rw [if_pos hf']
  have e2 := qahj (show qac0 width E key k ≠ 0 by rw [hc]; decide) act args;rw [hc, e2];have HF := Lib.hid hf';clear hf hf' hc e2 h6 h5 h4 h3 h2;go_enter Tryz.func124, Tryz.ntmps124
  go_wp2_with fail
  refine (qacv _ _ _ _ _ _ _ _ _ _ H1.out hw hk hkey).mono ?_;rintro e w' ⟨rfl, rfl⟩;rw [HF.out];go_wp2_with fail
  go_ret
  exact ⟨rfl, Fp, HO.out.below hal, fun b hb => .inl hb, Step.of hal⟩
 obtain ⟨W, K, rfl, rfl, hW1, hW, hK, hlt, hmod⟩ := qadj hf;have HF := Lib.hid hf;have hE := h2 K (pre W key K);go_enter Tryz.func124, Tryz.ntmps124
 go_wp2_with fail
 refine (qacv _ _ _ _ _ _ _ _ _ _ H1.out hw hk hkey).mono ?_;rintro e w' ⟨rfl, rfl⟩;rw [HF.out];go_wp2_with fail
 refine (qaix gt W K key most n M adr dat _ H1.out hW hK hkey hlt).mono ?_;rintro e w2 ⟨rfl, hb2⟩;have hB2 := ov hal hb2;have H2 := Lib.hid (H1.out.below hb2);have hbox : w2.cell? ⟨w.heap.size, 0, none⟩ = some (.int .i64 act) ∧ w2.cell? ⟨w.heap.size, 1, none⟩ = some (.slice ao an ac) := by
  obtain ⟨x, y⟩ := (Blk.new w 46 #[.int .i64 act, .slice ao an ac]).two;exact ⟨keep x hb2, keep y hb2⟩
 obtain ⟨hx0, hx1⟩ := hbox;have hxz : w.heap.size < w2.heap.size := by have := hb2.size; simp at this; omega
 clear hb2 hal;have hcs : (∃ g, adr K (pre W key K) = some g ∧ (dat K (pre W key K)).there = true) ∨ (E K (pre W key K) = none ∧ (adr K (pre W key K) = none ∨ ∃ g, adr K (pre W key K) = some g ∧ (dat K (pre W key K)).there = false)) := by
  cases e : adr K (pre W key K) with
  | none => exact .inr ⟨by rw [← hE, qadl e], .inl rfl⟩
  | some g =>
   cases t : (dat K (pre W key K)).there with
   | true => exact .inl ⟨g, rfl, rfl⟩
   | false => exact .inr ⟨by rw [← hE, qac1 e, t]; rfl, .inr ⟨g, rfl, rfl⟩⟩
 rcases hcs with ⟨g, e, t⟩ | ⟨hE0, hcs⟩
 ·have hc : Hid (qac0 (W : Int) E key (K : Int) = 0) := by
   show _ = _;unfold qac0;rw [if_neg (by rw [HF.out]; decide), if_pos];show (E K (pre W key K)).isSome = true;rw [← hE, qac1 e, t]; rfl
  rw [e, qacz];obtain ⟨_, _, _, y0, _, _, _, _, _, hgz, hfz⟩ := H2.out.trie.cells e;rw [t] at y0;have hnb : ∀ i v b, adr i v = some b → b < w.heap.size := fun i v b hb => h6 b (h5 i v b hb)
  have hr2 : Rd w2 .u64 ao an ac args := hr.below hB2;obtain ⟨⟨na, nn, nc, B3, _, _⟩, nM⟩ := H2.out.trie.node _ _ _ e;rw [t] at B3;have hgne : ¬ w.heap.size = g := fun hh => by have := hnb _ _ _ e; omega
  have HT := Lib.hid t;have HE := Lib.hid e;have H24 := Lib.hid (And.intro h2 h4);have H5 := Lib.hid h5;have H6 := Lib.hid h6;clear hE t e h2 h4 h5 h6 h1 hnb;go_wp2_with fail
  go_region_law ((first
    | (go_simp; go_at_call 32; refine (qae3 _ _ _ _ _ ((hr2.below (Below.drew0_ w2)).below (rf _)) han).mono ?_; rintro e w4 ⟨r4, rfl, hm4, hb4⟩; obtain ⟨a4, c4, rfl⟩ := hm4.form; have B4 : Blk w4 g _ _ := Blk.below (w := w2.drew) B3 hb4 B3.lt; have m0 := B4.cell 0; have m1 := B4.cell 1; have m2 := B4.cell 2; simp at m0 m1 m2; have mf0 := B4.frozen 0; have mf1 := B4.frozen 1; have mf2 := B4.frozen 2; have mz := B4.lt; have m5 := keep (w := w2.drew) hx0 hb4; have m6 := keep (w := w2.drew) hx1 hb4; have m7 : w.heap.size < w4.heap.size := Nat.lt_of_lt_of_le hxz hb4.size)))
  all_goals
   have hFin := PfxObj.added n H24.out.1 h3 H24.out.2 H5.out H6.out hB2 (Grown.refl w2 adr dat) H2.out HE.out ((Below.drew0_ w2).trans hb4) hm4 hact;have hPs := H2.out.said HE.out ((Below.drew0_ w2).trans hb4) hm4 hact;have q1 := qam9 hPs.blk (j := 2) (v := .int .i64 n) (by simp);rw [q1] at hFin;have q2 := qam9 B4 (j := 0) (v := .bool true) (by simp);unfold qasl at hFin;rw [q2] at hFin;have HFin := Lib.hid hFin;clear hFin hPs q1 q2 m0 m1 m2 mf0 mf1 mf2 m5 m6 B4 B3 hx0 hx1 hm4 hb4;generalize ((w4.setCell ⟨g, 1, none⟩ (.int .i64 act)).setCell ⟨g, 2, none⟩ (.slice a4 args.length c4)) = wF at *;go_wp2_with fail
   go_ret
   have e2 := qajr (show qac0 (W : Int) E key (K : Int) = 0 from hc.out) act args;rw [hc.out, e2];exact ⟨rfl, HFin.out⟩
 have HE0 := Lib.hid hE0;have hc : Hid (qac0 (W : Int) E key (K : Int) = 9) := by
  show _ = _;unfold qac0;rw [if_neg (by rw [HF.out]; decide), if_neg];show ¬ (E K (pre W key K)).isSome = true;rw [HE0.out]; decide
 have hmd : ∃ p : Value, ptr (adr K (pre W key K)) = p ∧ (p = .pointer none ∨ ∃ g, p = .pointer (some ⟨g, 0, none⟩) ∧ w2.cell? ⟨g, 0, none⟩ = some (.bool false) ∧ g < w2.heap.size) := by
  rcases hcs with e | ⟨g, e, t⟩
  ·exact ⟨_, by rw [e]; rfl, .inl rfl⟩
  ·obtain ⟨_, _, _, y0, _, _, _, _, _, hgz, _⟩ := H2.out.trie.cells e;rw [t] at y0;exact ⟨_, by rw [e]; rfl, .inr ⟨g, rfl, y0, hgz⟩⟩
 obtain ⟨p, hp, hpc⟩ := hmd;rw [hp];clear hp hcs hE hE0 hx0 hx1 h1 h2 h4 h5 h6;rcases hpc with rfl | ⟨g, rfl, y0, hgz⟩
 all_goals
  go_wp2_with fail
  go_ret
  have e2 := qahj (show qac0 (W : Int) E key (K : Int) ≠ 0 by rw [hc.out]; decide) act args;rw [hc.out, e2];exact ⟨rfl, Fp, HO.out.step (S := fun _ => False) (Step.of hB2) (fun _ h => h.elim), fun b hb => .inl hb, Step.of hB2⟩
end
section
attribute [local go_sem ↓] Go.wp_at_zero Go.wp_at_succ
def entL (E : Nat → Int → Option (Int × List Int)) (W i : Nat) (v : Int) : List Entry := match E i v with
 | none => []
 | some x => [⟨[v * 2 ^ (W - i)], [], i, 0, x.1, x.2⟩]
def allF (E : Nat → Int → Option (Int × List Int)) (W : Nat) : Nat → Nat → Int → List Entry
 | 0, i, v => entL E W i v
 | d + 1, i, v => entL E W i v ++ (allF E W d (i + 1) (2 * v) ++ allF E W d (i + 1) (2 * v + 1))
theorem qamo {E : Nat → Int → Option (Int × List Int)} {W i : Nat} {v : Int} (h : E i v = none) : entL E W i v = [] := by unfold entL; rw [h]
theorem qbbh {E : Nat → Int → Option (Int × List Int)} {W i : Nat} {v : Int} {x : Int × List Int} (h : E i v = some x) : entL E W i v = [⟨[v * 2 ^ (W - i)], [], i, 0, x.1, x.2⟩] := by unfold entL; rw [h]
theorem Trie.allF_nil {w : World} {M : Nat → Prop} {adr : Nat → Int → Option Nat} {dat : Nat → Int → Dat} (h : Trie w M adr dat) (W : Nat) : ∀ d i v, adr i v = none → allF (ent adr dat) W d i v = [] := by
 intro d;induction d with
 | zero => intro i v e; exact qamo (qadl e)
 | succ d ih =>
  intro i v e;have hc : ∀ c : Int, c = 0 ∨ c = 1 → adr (i + 1) (2 * v + c) = none := fun c hc => by
   cases e2 : adr (i + 1) (2 * v + c) with
   | none => rfl
   | some g =>
    have := h.up i (2 * v + c) (by rw [e2]; simp);rw [show (2 * v + c) / 2 = v by omega, e] at this;exact absurd rfl this
  have h0 := hc 0 (.inl rfl);rw [Int.add_zero] at h0;show entL _ _ _ _ ++ (allF _ _ _ _ _ ++ allF _ _ _ _ _) = []
  rw [qamo (qadl e), ih _ _ h0, ih _ _ (hc 1 (.inr rfl))]; rfl
structure OwnE (w : World) (B : Nat) (v : Value) (xs : List Entry) : Prop where
 mine : MineL entryLay (fun k => v.ownBlock = some k ∨ k < B) w 0 38 v xs
 ge : ∀ k, v.ownBlock = some k → B ≤ k
theorem OwnE.nil (w : World) (B : Nat) : OwnE w B (.slice none 0 0) [] := ⟨MineL.nil _ _ _ _ _, by simp [Value.ownBlock]⟩
theorem OwnE.below {w w' : World} {B : Nat} {v : Value} {xs : List Entry} (h : OwnE w B v xs) (hb : Below w.heap.size w w') : OwnE w' B v xs := ⟨h.mine.below hb, h.ge⟩
theorem OwnE.own {w : World} {B : Nat} {v : Value} {xs : List Entry} (h : OwnE w B v xs) : OwnL entryLay (fun k => v.ownBlock = some k ∨ k < B ∨ w.heap.size ≤ k) w (fun k => v.ownBlock = some k) 38 v xs := by
 obtain ⟨⟨cs, ho, hr⟩, _⟩ := h;exact ⟨⟨cs, ho, hr.weaken fun k hk hlt => hk.elim .inl fun h2 => h2.elim .inr fun h3 => absurd hlt (Nat.not_lt_of_le h3)⟩, fun k hk => hk⟩
theorem OwnE.of {w w' : World} {B : Nat} {v v' : Value} {xs : List Entry} (h : OwnL entryLay (fun k => v.ownBlock = some k ∨ k < B ∨ w.heap.size ≤ k) w' (fun k => v.ownBlock = some k ∨ k = w.heap.size) 38 v' xs) (hge : ∀ k, v.ownBlock = some k → B ≤ k) (hB : B ≤ w.heap.size) : OwnE w' B v' xs := by
 obtain ⟨⟨cs, ho, hr⟩, hrow⟩ := h;refine ⟨⟨cs, ho, hr.weaken fun k hk _ => hk.elim (fun hk => (hrow k hk).imp id fun e => by rw [e]; exact .inr (Nat.le_refl _)) fun h => .inr (.inl h)⟩, fun k hk => ?_⟩;rcases hrow k hk with e | e
 ·exact hge k e
 ·rw [e]; exact hB
theorem or_key {W i : Nat} {v : Int} (hi : i < W) (hW : W ≤ 64) (h0 : 0 ≤ v) (hv : v < 2 ^ i) : bits .or .u64 (v * 2 ^ (W - i)) (2 ^ (W - 1 - i)) = (2 * v + 1) * 2 ^ (W - (i + 1)) := by
 obtain ⟨n, rfl⟩ := Int.eq_ofNat_of_zero_le h0;obtain ⟨m, hm⟩ : ∃ m, W - 1 - i = m := ⟨_, rfl⟩
 rw [hm, show W - i = m + 1 by omega, show W - (i + 1) = m by omega];have e1 : ((n : Int) * 2 ^ (m + 1)) = ((n * 2 ^ (m + 1) : Nat) : Int) := by simp
 have e2 : ((2 : Int) ^ m) = ((2 ^ m : Nat) : Int) := by simp
 have hn : n < 2 ^ i := by have : ((2 : Int) ^ i) = ((2 ^ i : Nat) : Int) := by simp
                           omega
 have hb : n * 2 ^ (m + 1) + 2 ^ m < 2 ^ W := by
  have h1 : (n + 1) * 2 ^ (m + 1) ≤ 2 ^ i * 2 ^ (m + 1) := Nat.mul_le_mul_right _ hn;rw [← Nat.pow_add, show i + (m + 1) = W by omega, Nat.add_mul, Nat.one_mul] at h1;have h2 : 2 ^ (m + 1) = 2 * 2 ^ m := by rw [Nat.pow_succ, Nat.mul_comm]
  have h3 : 0 < 2 ^ m := Nat.two_pow_pos m;omega
 have hW2 : 2 ^ W ≤ 2 ^ 64 := Nat.pow_le_pow_right (by omega) hW;have h64 : (2 ^ 64 : Nat) = 18446744073709551616 := by decide
 have hx : n * 2 ^ (m + 1) < 18446744073709551616 := by
  rw [← h64]; exact Nat.lt_of_le_of_lt (Nat.le_add_right _ _) (Nat.lt_of_lt_of_le hb hW2)
 have hy : 2 ^ m < 18446744073709551616 := by
  rw [← h64]; exact Nat.lt_of_le_of_lt (Nat.le_add_left _ _) (Nat.lt_of_lt_of_le hb hW2)
 rw [e1, e2, bits_or_u64_nat _ _ hx hy];have h4 : n * 2 ^ (m + 1) ||| 2 ^ m = n * 2 ^ (m + 1) + 2 ^ m := by
  rw [Nat.mul_comm n, Nat.two_pow_add_eq_or_of_lt (show 2 ^ m < 2 ^ (m + 1) by rw [Nat.pow_succ]; have := Nat.two_pow_pos m; omega)]
 rw [h4];simp [Nat.pow_succ, Int.pow_succ];rw [Int.add_mul, Int.one_mul, Int.mul_assoc, Int.mul_comm 2, Int.mul_assoc]
end
theorem RdL.litE {α : Type} {L : Lay α} {A : Nat → Prop} {w : World} {xs : List α} {cs : List Value} {e : TypeId} {g n : Nat} (h : RepAll L A w xs cs) (hb : Blk w g e cs.toArray) (hn : xs.length = n) (hm : n ≤ maxLen) (hA : ¬ A g) : RdL L A w (some ⟨g, 0, none⟩) n n xs := by
 refine ⟨hn, Nat.le_refl _, hm, by simp, fun _ => ⟨g, 0, rfl, hA, hb.lt, fun i hi => ?_⟩⟩;obtain ⟨c, hc, hj⟩ := h.at_ i hi;refine ⟨c, hc, fun j hj' => ?_⟩;rw [Nat.zero_add, hb.cell, ← hj j hj'];simp
theorem Blk.new1 (w : World) (o : Obj) (t : TypeId) (cs : Array Value) : Blk ((w.alloc o).alloc (.cells cs t)) (w.heap.size + 1) t cs := by
 have := Blk.new (w.alloc o) t cs;simpa using this
theorem Mine.layA {w : World} {base : Nat} {e : TypeId} {k : IntKind} {ao : Option Addr} {n c : Nat} {xs : List Int} (h : Mine w base e k (.slice ao n c) xs) (A : Nat → Prop) (hA : ∀ g, base ≤ g → g < w.heap.size → ¬ A g) : RdL (Lay.int k) A w ao n c xs := by
 obtain ⟨ao', cap', e', hr, hb⟩ := h.rd;cases e'
 refine hr.lay A fun a ha h0 => ?_
 subst ha;obtain ⟨b, off, e2, hc⟩ := hr.here (by have := hr.len; omega);cases e2
 exact hA _ (hb _ rfl).1 (block_lt_of_cell (hc 0 (by have := hr.len; omega)))
theorem OwnE.lt {w : World} {B : Nat} {v : Value} {xs : List Entry} (h : OwnE w B v xs) : ∀ k, v.ownBlock = some k → k < w.heap.size := fun k hk => (h.mine.lt k hk).2
theorem key_fit {W i : Nat} {v : Int} (hi : i ≤ W) (hW : W ≤ 64) (h0 : 0 ≤ v) (hv : v < 2 ^ i) : Fits .u64 (v * 2 ^ (W - i)) := by
 obtain ⟨n, rfl⟩ := Int.eq_ofNat_of_zero_le h0
 have hn : n < 2 ^ i := by have : ((2 : Int) ^ i) = ((2 ^ i : Nat) : Int) := by simp
                           omega
 have h1 : (n + 1) * 2 ^ (W - i) ≤ 2 ^ i * 2 ^ (W - i) := Nat.mul_le_mul_right _ hn;rw [← Nat.pow_add, show i + (W - i) = W by omega, Nat.add_mul, Nat.one_mul] at h1;have hp : 0 < 2 ^ (W - i) := Nat.two_pow_pos _;have hW2 : 2 ^ W ≤ 2 ^ 64 := Nat.pow_le_pow_right (by omega) hW;have h64 : (2 ^ 64 : Nat) = 18446744073709551616 := by decide
 have e1 : ((n : Int) * 2 ^ (W - i)) = ((n * 2 ^ (W - i) : Nat) : Int) := by simp
 rw [e1];exact Fits.of_u64 (by omega) (by omega)
theorem entSrc {w W : World} {B kb eb : Nat} {v : Value} {xs : List Entry} {key i act : Int} {a : Option Addr} {n c : Nat} {args : List Int} (hB : B ≤ w.heap.size) (ho : OwnE w B v xs)
  (hk : Blk W kb 70 #[.int .u64 key]) (hkb : w.heap.size ≤ kb) (hkf : Fits .u64 key)
  (ha : Mine W w.heap.size 70 .u64 (.slice a n c) args)
  (he : Blk W eb 38 #[.slice (some ⟨kb, 0, none⟩) 1 1, .slice none 0 0, .int .i64 i, .int .i64 0, .int .i64 act, .slice a n c])
  (hi : Fits .i64 i) (hact : Fits .i64 act) : Src entryLay (fun k => v.ownBlock = some k ∨ k < B ∨ W.heap.size ≤ k) W (some ⟨eb, 0, none⟩) 1 1 [⟨[key], [], i, 0, act, args⟩] := by
 obtain ⟨_, _, e, hrd, _⟩ := ha.rd;cases e
 have hl := hrd.len;have hav : ∀ g, w.heap.size ≤ g → g < W.heap.size → ¬ (v.ownBlock = some g ∨ g < B ∨ W.heap.size ≤ g) := by
  rintro g h1 h2 (h3 | h3 | h3)
  ·have := ho.lt g h3; omega
  ·omega
  ·omega
 refine Src.lit1 (cs := [.slice (some ⟨kb, 0, none⟩) 1 1, .slice none 0 0, .int .i64 i, .int .i64 0, .int .i64 act, .slice a _ c]) he ?_;exact qbbg (e := ⟨[key], [], i, 0, act, args⟩) (RdL.litE (cs := [.int .u64 key]) ⟨[_], _, rfl, ⟨rfl, hkf⟩, rfl⟩ hk rfl (by simp [maxLen]) (hav _ hkb hk.lt)) (RdL.nil_ _ _ _) (ha.layA _ hav) hi (Fits.of_i64 (x := 0) (by decide) (by decide)) hact
section
attribute [local go_sem ↓] Go.wp_at_zero Go.wp_at_succ
theorem Pfx.belowB {w w' : World} {B : Nat} {gt : Nat} {width most n : Int} {M : Nat → Prop} {adr : Nat → Int → Option Nat} {dat : Nat → Int → Dat} (h : Pfx w gt width most n M adr dat) (hM : ∀ k, M k → k < B) (hN : ∀ i v g, adr i v = some g → g < B) (hg : gt < B) (hb : Below B w w') : Pfx w' gt width most n M adr dat := by
 have hs : Step (fun k => B ≤ k) w w' := Step.ofBelow hb fun _ h => h
 exact ⟨h.blk.below hb hg, h.trie.step hs (fun k hk hm => Nat.not_lt_of_le hk (hM k hm)) (fun i v g e hk => Nat.not_lt_of_le hk (hN i v g e)), h.out, h.root⟩
theorem qaqd {m : Nat} (h : m ≤ 63) : IntKind.u64.wrap ((2 : Int) ^ m) = 2 ^ m := by
 have e : ((2 : Int) ^ m) = ((2 ^ m : Nat) : Int) := by simp
 have h2 : 2 ^ m ≤ 2 ^ 63 := Nat.pow_le_pow_right (by omega) h;rw [e];generalize 2 ^ m = x at *;simp [IntKind.wrap, IntKind.bits, IntKind.signed];omega
theorem entL_le (E : Nat → Int → Option (Int × List Int)) (W d i : Nat) (v : Int) : (entL E W i v).length ≤ (allF E W d i v).length := by
 cases d with
 | zero => exact Nat.le_refl _
 | succ d => show _ ≤ (entL _ _ _ _ ++ _).length; rw [List.length_append]; omega
set_option maxRecDepth 100000 in
set_option maxHeartbeats 3000000 in
theorem qaut (gt W B : Nat) (most n : Int) (M : Nat → Prop) (adr : Nat → Int → Option Nat) (dat : Nat → Int → Dat) (hW : W ≤ 64) (hargs : ∀ i v x, ent adr dat i v = some x → x.2.length ≤ 1000000) (hM : ∀ k, M k → k < B) (hN : ∀ i v g, adr i v = some g → g < B) (hgt : gt < B) :
  ∀ (d i : Nat), i + d = W → ∀ (v : Int), 0 ≤ v → v < 2 ^ i → ∀ (w : World), Pfx w gt (W : Int) most n M adr dat → B ≤ w.heap.size → ∀ (ao : Option Addr) (ac : Nat) (xs : List Entry), OwnE w B (.slice ao xs.length ac) xs → (xs ++ allF (ent adr dat) W d i v).length ≤ 1000000 →
  Calls Tryz.prog 129 #[.pointer (some ⟨gt, 0, none⟩), ptr (adr i v), .int .u64 (v * 2 ^ (W - i)), .int .i64 (i : Int), .slice ao xs.length ac] w fun e w' => ∃ ao' c', e = .returned (.slice ao' (xs ++ allF (ent adr dat) W d i v).length c') ∧ OwnE w' B (.slice ao' (xs ++ allF (ent adr dat) W d i v).length c') (xs ++ allF (ent adr dat) W d i v) ∧ Below B w w' := by
 intro d;induction d using Nat.strongRecOn with
 | ind d ih =>
  intro i hi v h0 hv w h hB ao ac xs ho hlen;cases e : adr i v with
  | none =>
   have hnil : Hid (xs ++ allF (ent adr dat) W d i v = xs) := by show _ = _; rw [h.trie.allF_nil W d i v e, List.append_nil]
   rw [qadp];clear ih hlen e h;go_enter Tryz.func129, Tryz.ntmps129
   go_wp2_with fail
   go_ret
   rw [hnil.out];exact ⟨ao, ac, rfl, ho, Below.refl _ _⟩
  | some g =>
   obtain ⟨⟨ga, gn, gc, B1, R1, R1act⟩, _⟩ := h.trie.node i v g e;have hlen0 : (xs ++ entL (ent adr dat) W i v).length ≤ 1000000 := by have := entL_le (ent adr dat) W d i v; rw [List.length_append] at hlen ⊢; omega
   have b0 := B1.cell 0;have b1 := B1.cell 1;have b2 := B1.cell 2;have b3 := B1.cell 3;have b4 := B1.cell 4;simp at b0 b1 b2 b3 b4;have bz := B1.lt;have H := Lib.hid h;have He := Lib.hid e;have HO := Lib.hid ho;rw [qacz];clear h e ho;go_enter Tryz.func129, Tryz.ntmps129
   go_upto_if 17 with fail
   go_cut [4, 17] from 18 to 35 (fun o t wx => ∃ ao2 c2, o = .slice ao2 (xs ++ entL (ent adr dat) W i v).length c2 ∧ OwnE wx B (.slice ao2 (xs ++ entL (ent adr dat) W i v).length c2) (xs ++ entL (ent adr dat) W i v) ∧ Below B w wx ∧ t = t)
   case first =>
    cases ht : (dat i v).there with
    | false =>
     rw [ht] at b0;have hx : Hid (xs ++ entL (ent adr dat) W i v = xs) := by show _ = _; rw [qamo (by rw [qac1 He.out, ht]; rfl), List.append_nil]
     clear ht;go_wp2_with fail
     go_meet
     rw [hx.out];exact ⟨ao, ac, rfl, HO.out, Below.refl _ _, trivial⟩
    | true =>
     rw [ht] at b0;have hent : ent adr dat i v = some ((dat i v).act, (dat i v).args) := by rw [qac1 He.out, ht]; rfl
     have hx : Hid (xs ++ entL (ent adr dat) W i v = xs ++ [⟨[v * 2 ^ (W - i)], [], i, 0, (dat i v).act, (dat i v).args⟩]) := by show _ = _; rw [qbbh hent]
     have hal := hargs _ _ _ hent;simp only at hal;have hgn : gn ≤ 1000000 := by have := R1.len; omega
     go_wp2_with fail
     have hd0 : Below w.heap.size w w.drew := Below.drew0_ w;have h63 : Hid (xs.length + 1 ≤ maxLen) := by show _ ≤ _; rw [hx.out] at hlen0; simp at hlen0; simp [maxLen]; omega
     have hsz : Hid ((xs.length + 1) * 96 ≤ 140737488355328) := by show _ ≤ _; rw [hx.out] at hlen0; simp at hlen0; omega
     have hkf : Hid (Fits .u64 (v * 2 ^ (W - i))) := key_fit (by omega) hW h0 hv;have hif : Hid (Fits .i64 (i : Int)) := Fits.of_i64 (by omega) (by omega);have haf : Hid (Fits .i64 (dat i v).act) := R1act
     go_region_law ((first
      | (go_simp; go_at_call 32; refine (qae3 ga gn gc _ _ (R1.rd.below (by first | exact Below.drew0_ w | exact al (Below.drew0_ w) _)) hgn).mono ?_; rintro e w4 ⟨r4, rfl, hm4, hb4⟩; obtain ⟨a4, c4, rfl⟩ := hm4.form; (first | (have n1 := keep (w := w.drew) b1 hb4; have n2 := keep (w := w.drew) b2 hb4) | (have n1 := keep (keep (w := w.drew) b1 (al (rf _) _)) hb4; have n2 := keep (keep (w := w.drew) b2 (al (rf _) _)) hb4)); have n3 : g < w4.heap.size := block_lt_of_cell n1)
      | (refine qaf2 (L := entryLay) (by rfl) _ _ 42 (by rfl) qakn (by rfl) (HO.out.below (al (ov (al (Below.drew0_ w) _) hb4) _)).own (fun _ hk => .inl hk) (by rfl) (entSrc (kb := w.heap.size) hB HO.out (((Blk.new w.drew _ _).below hb4 (Blk.new w.drew _ _).lt).alloc _) (Nat.le_refl _) hkf.out ((Mine.base_le hm4 (by simp)).below (al (rf _) _)) (Blk.new _ _ _) hif.out haf.out) h63.out hsz.out ?_; intro v9 w9 hm9 hs9; obtain ⟨a9, c9, rfl⟩ := hm9.form (n := xs.length + 1) (by simp); have HQ := Lib.hid (OwnE.of hm9 (fun k hk => HO.out.ge k hk) (Nat.le_trans hB (al (ov (al (Below.drew0_ w) _) hb4) _).size)); have HW := Lib.hid (Below.trans (Below.mono (al (ov (al (Below.drew0_ w) _) hb4) _) hB) (Step.below hs9 (Nat.le_trans hB (al (ov (al (Below.drew0_ w) _) hb4) _).size) (fun k hk => HO.out.ge k hk))); clear hm9 hs9)
      | (refine qaf2 (L := entryLay) (by rfl) _ _ 42 (by rfl) qakn (by rfl) (HO.out.below (al (al (ov (Below.drew0_ w) hb4) _) _)).own (fun _ hk => .inl hk) (by rfl) (entSrc (kb := w4.heap.size) hB HO.out ((Blk.new w4 _ _).alloc _) (hb4.size) hkf.out (Mine.below hm4 (al (al (rf _) _) _)) (Blk.new1 _ _ _ _) hif.out haf.out) h63.out hsz.out ?_; intro v9 w9 hm9 hs9; obtain ⟨a9, c9, rfl⟩ := hm9.form (n := xs.length + 1) (by simp); have HQ := Lib.hid (OwnE.of hm9 (fun k hk => HO.out.ge k hk) (Nat.le_trans hB (al (al (ov (Below.drew0_ w) hb4) _) _).size)); have HW := Lib.hid (Below.trans (Below.mono (al (al (ov (Below.drew0_ w) hb4) _) _) hB) (Step.below hs9 (Nat.le_trans hB (al (al (ov (Below.drew0_ w) hb4) _) _).size) (fun k hk => HO.out.ge k hk))); clear hm9 hs9)
      | (go_simp; trace_state; fail)))
     all_goals
      go_wp2_with fail
      go_meet
      rw [hx.out];refine ⟨a9, c9, by simp, ?_, HW.out, trivial⟩;simpa using HQ.out
   case rest =>
    cases d with
    | zero =>
     obtain ⟨ao2, c2, rfl, ho2, hb2, _⟩ := hcut;have hPc := H.out.belowB hM hN hgt hb2;have t0 := hPc.blk.cell 0;simp at t0;have tz := hPc.blk.lt;have hlt : decide ((i : Int) < (W : Int)) = false := by simp; omega
     have HAll : Hid (xs ++ allF (ent adr dat) W 0 i v = xs ++ entL (ent adr dat) W i v) := rfl;have HL : Hid (xs.length + (allF (ent adr dat) W 0 i v).length = (xs ++ entL (ent adr dat) W i v).length) := by show _ = _; rw [List.length_append]; rfl
     have HQ := Lib.hid ho2;have HW := Lib.hid hb2;clear ho2 hb2 hPc b0 b1 b2 b3 b4 bz B1 ih hlen;go_wp2_with fail
     go_ret
     rw [HAll.out, HL.out];exact ⟨ao2, c2, by first | rfl | (rw [List.length_append]; rfl) | (simp [List.length_append]; rfl) | simp [List.length_append, Array.getD], HQ.out, HW.out⟩
    | succ d =>
    obtain ⟨ao2, c2, rfl, ho2, hb2, _⟩ := hcut;have hPc := H.out.belowB hM hN hgt hb2;have Bc := B1.below hb2 (hN _ _ _ He.out);have hBc : B ≤ wc.heap.size := Nat.le_trans hB hb2.size;have c3 := Bc.cell 3;simp at c3;have cz := Bc.lt;have t0 := hPc.blk.cell 0;simp at t0;have tz := hPc.blk.lt;have hlt : (i : Int) < (W : Int) := by omega
    have hall : allF (ent adr dat) W (d + 1) i v = entL (ent adr dat) W i v ++ (allF (ent adr dat) W d (i + 1) (2 * v) ++ allF (ent adr dat) W d (i + 1) (2 * v + 1)) := rfl;rw [hall] at hlen;rw [← List.append_assoc, ← List.append_assoc] at hlen;obtain ⟨ys, hys⟩ : ∃ ys, xs ++ entL (ent adr dat) W i v = ys := ⟨_, rfl⟩
    rw [hys] at ho2 hlen ⊢;have hAll : xs ++ allF (ent adr dat) W (d + 1) i v = ys ++ allF (ent adr dat) W d (i + 1) (2 * v) ++ allF (ent adr dat) W d (i + 1) (2 * v + 1) := by rw [hall, ← hys, List.append_assoc, List.append_assoc]
    have hkL : 2 * v * 2 ^ (W - (i + 1)) = v * 2 ^ (W - i) := by
     rw [show W - i = (W - (i + 1)) + 1 by omega, Int.pow_succ, Int.mul_comm 2 v, Int.mul_assoc, Int.mul_comm 2]
    have hv2 : 2 * v < 2 ^ (i + 1) := by rw [Int.pow_succ]; omega
    have hv3 : 2 * v + 1 < 2 ^ (i + 1) := by rw [Int.pow_succ]; omega
    have hcast : (((i + 1 : Nat)) : Int) = (i : Int) + 1 := by omega
    obtain ⟨L1, hL1⟩ : ∃ L1, allF (ent adr dat) W d (i + 1) (2 * v) = L1 := ⟨_, rfl⟩
    obtain ⟨L2, hL2⟩ : ∃ L2, allF (ent adr dat) W d (i + 1) (2 * v + 1) = L2 := ⟨_, rfl⟩
    have hl1 : (ys ++ L1).length ≤ 1000000 := by rw [hL1, hL2] at hlen; simp at hlen ⊢; omega
    have I1 := ih d (by omega) (i + 1) (by omega) (2 * v) (by omega) hv2 wc hPc hBc ao2 c2 ys ho2 (by rw [hL1]; exact hl1);rw [hkL, hcast, hL1] at I1;have I2 := fun (w2 : World) (hb : Below B wc w2) (ao3 : Option Addr) (c3 : Nat) (ho3 : OwnE w2 B (.slice ao3 (ys ++ L1).length c3) (ys ++ L1)) => ih d (by omega) (i + 1) (by omega) (2 * v + 1) (by omega) hv3 w2 (hPc.belowB hM hN hgt hb) (Nat.le_trans hBc hb.size) ao3 c3 (ys ++ L1) ho3 (by rw [← hL1]; exact hlen)
    rw [hL1, hL2] at hlen hAll;have HAll := Lib.hid hAll;clear hAll;rw [hcast, hL2] at I2;have hor := or_key (show i < W by omega) hW h0 hv;rw [← hor] at I2;have hwr : IntKind.i64.wrap ((i : Int) + 1) = (i : Int) + 1 := qadt (by omega) (by omega);have hwr2 : IntKind.i64.wrap ((W : Int) - 1) = (W : Int) - 1 := qadt (by omega) (by omega);have hwr3 : IntKind.i64.wrap ((W : Int) - 1 - (i : Int)) = (W : Int) - 1 - (i : Int) := qadt (by omega) (by omega);have hsh : IntKind.u64.wrap ((2 : Int) ^ (W - 1 - i)) = 2 ^ (W - 1 - i) := qaqd (by omega);simp only [List.length_append] at I1 I2;have J1 := Lib.hid I1;have J2 := Lib.hid I2;have HPc := Lib.hid hPc;have HBc := Lib.hid Bc;clear I1 I2 hPc Bc ih hall hys hkL hcast hL1 hL2 b0 b1 b2 b3 b4 bz B1 hor;go_wp2_with fail
    refine J1.out.mono ?_;rintro e w3 ⟨ao3, c3', rfl, ho3, hb3⟩;have B3 := HBc.out.below hb3 (hN _ _ _ He.out);have d4 := B3.cell 4;simp at d4;have dz := B3.lt;have P3 := HPc.out.belowB hM hN hgt hb3;have u0 := P3.blk.cell 0;simp at u0;have uz := P3.blk.lt;clear c3 cz t0 tz J1 B3 P3;go_wp2_with fail
    go_region_law ((go_simp; go_at_call 129; refine (J2.out w3.drew ((hb3.mono (Nat.le_refl _)).trans (Below.mono (Below.drew0_ w3) (Nat.le_trans (Nat.le_trans hB hb2.size) hb3.size))) ao3 c3' (ho3.below (Below.drew0_ w3))).mono ?_; rintro e w4 ⟨ao4, c4', rfl, ho4, hb4⟩))
    all_goals
     go_wp2_with fail
     go_ret
     rw [HAll.out];refine ⟨ao4, c4', by simp [Nat.add_assoc], ?_, ?_⟩
     ·simpa [Nat.add_assoc] using ho4
     ·exact ((hb2.trans hb3).trans (Below.mono (Below.drew0_ w3) (Nat.le_trans (Nat.le_trans hB hb2.size) hb3.size))).trans hb4
end
section
attribute [local go_sem ↓] Go.wp_at_zero Go.wp_at_succ
abbrev PE := Nat → Int → Option (Int × List Int)
def qag4 (width most n : Int) (E : PE) : AbsI where
 I w _ Fp b := PfxObj w Fp b width most n E
 lt := fun h k hk => by obtain ⟨M, adr, dat, _, _, _, _, _, h6⟩ := h; exact h6 k hk
 keep := fun {w w' A A' Fp b} h hs _ hb => h.step (S := fun k => ¬ Fp k) ⟨hs.os, hs.tape, hs.output, hs.size, fun k _ hk => hb k (Classical.not_not.1 hk)⟩ fun k hk hk2 => hk hk2
def noE : PE := fun _ _ => none
set_option maxRecDepth 100000 in
set_option maxHeartbeats 2000000 in
theorem qauu (width most : Int) (w : World) :
  Calls Tryz.prog 34 #[.int .i64 width, .int .i64 most] w fun e w' => ∃ gt Fp, e = .returned (.pointer (some ⟨gt, 0, none⟩)) ∧ PfxObj w' Fp gt width most 0 noE ∧ (∀ k, Fp k → w.heap.size ≤ k) ∧ Below w.heap.size w w' := by
 go_enter Tryz.func34, Tryz.ntmps34
 go_wp2_with fail
 go_ret
 refine ⟨w.heap.size + 1, fun k => k = w.heap.size ∨ k = w.heap.size + 1, rfl, ⟨fun _ => False, fun i v => if i = 0 ∧ v = 0 then some w.heap.size else none, fun _ _ => qam1, ⟨?_, ⟨?_, ?_, ?_, fun _ h => h.elim⟩, fun h => h, by simp⟩, ?_, .inr rfl, fun _ h => h.elim, ?_, ?_⟩, ?_, al (al (rf w) _) _⟩
 ·have := Blk.new (w.alloc (.cells #[.bool false, .int .i64 0, .slice none 0 0, .pointer none, .pointer none] 103)) 105 #[.int .i64 width, .int .i64 most, .int .i64 0, .pointer (some ⟨w.heap.size, 0, none⟩)];simpa [ptr] using this
 ·intro i v g e;by_cases h : i = 0 ∧ v = 0
  ·rw [if_pos h] at e;cases e
   refine ⟨⟨none, 0, 0, ?_, RdL.nil_ _ _ _, Fits.of_i64 (by decide) (by decide)⟩, fun h => h⟩;have := (Blk.new w 103 #[.bool false, .int .i64 0, .slice none 0 0, .pointer none, .pointer none]).alloc (.cells #[.int .i64 width, .int .i64 most, .int .i64 0, .pointer (some ⟨w.heap.size, 0, none⟩)] 105);simpa [ptr, qam1] using this
  ·rw [if_neg h] at e; cases e
 ·intro i v j u g e1 e2;by_cases h : i = 0 ∧ v = 0
  ·by_cases h2 : j = 0 ∧ u = 0
   ·exact ⟨h.1.trans h2.1.symm, h.2.trans h2.2.symm⟩
   ·rw [if_neg h2] at e2; cases e2
  ·rw [if_neg h] at e1; cases e1
 ·intro i v h;simp at h
 ·intro i v;unfold ent noE;dsimp only;by_cases h : i = 0 ∧ v = 0
  ·rw [if_pos h]; rfl
  ·rw [if_neg h]
 ·intro i v g e;dsimp only at e;by_cases h : i = 0 ∧ v = 0
  ·rw [if_pos h] at e; cases e; exact .inl rfl
  ·rw [if_neg h] at e; cases e
 ·rintro k (rfl | rfl) <;> simp <;> omega
 ·rintro k (rfl | rfl) <;> omega
theorem reps1 {w : World} {A : Nat → Prop} {ρ : qact} {x : SV} {vs : List Value} (h : Reps w A ρ [x] vs) : ∃ v, vs = [v] ∧ RepV w A ρ x v := by
 obtain ⟨v, us, rfl, h1, h2⟩ := h.cons_inv;cases h2.nil_inv
 exact ⟨v, rfl, h1⟩
theorem qac3 {w : World} {A : Nat → Prop} {ρ : qact} {k : IntKind} {x : Int} {xs : List SV} {vs : List Value} (h : Reps w A ρ (.int k x :: xs) vs) : ∃ us, vs = .int k x :: us ∧ Reps w A ρ xs us := by
 obtain ⟨v, us, rfl, h1, h2⟩ := h.cons_inv;cases h1
 exact ⟨us, rfl, h2⟩
theorem qaso {w : World} {A : Nat → Prop} {ρ : qact} {a : Int} {l : List Int} {v : Value} (h : RepV w A ρ (.agg (qacc a l)) v) (hf : AllFit .u64 l) : ∃ ao c, v = .agg #[.int .i64 a, .slice ao l.length c] ∧ Rd w .u64 ao l.length c l := by
 cases h with
 | agg ho hl h =>
  rename_i vs;have hr : Reps w A ρ (qacc a l) vs := ⟨hl, h⟩
  obtain ⟨us, rfl, h2⟩ := qac3 hr;obtain ⟨v, rfl, h3⟩ := reps1 h2;obtain ⟨ao, c, rfl, h4, _⟩ := view_rd h3 hf;exact ⟨ao, c, rfl, h4⟩
theorem qbl3 (width most : Int) (q : Nat) : SCalls Tryz.prog 34 [.int .i64 width, .int .i64 most] [] q (.ptr q 0) [(q, .abs (qag4 width most 0 noE))] := by
 refine qana (Enters.of Tryz.func34 rfl (by kernel_rfl)) (fun O w vs hO hr => ?_) (fun σ => rfl) q;obtain ⟨us, rfl, hr1⟩ := qac3 hr;obtain ⟨us2, rfl, hr2⟩ := qac3 hr1;cases hr2.nil_inv
 refine (qauu width most w).mono ?_;rintro e w' ⟨gt, Fp, rfl, h1, h2, h3⟩;exact ⟨gt, Fp, rfl, h1, h2, h3⟩
theorem qbl6 (width most n : Int) (E : PE) (key k act : Int) (args : List Int) (hw : Fits .i64 width) (hkey : Fits .u64 key) (hk : Fits .i64 k) (hact : Fits .i64 act) (hf : AllFit .u64 args) (han : args.length ≤ 1000000) (hn : 0 ≤ n ∧ n ≤ 1000000) (id q : Nat) :
  SCalls Tryz.prog 122 [.ptr id 0, .int .u64 key, .int .i64 k, .agg (qacc act args)] [(id, .abs (qag4 width most n E))] q (.int .i64 (qach width most n E key k)) [(id, .abs (qag4 width most (qafx width most n E key k) (qaf6 width most n E key k act args)))] := by
 refine qado (Enters.of Tryz.func122 rfl (by kernel_rfl)) (fun O Fp w b vs hI hO hd hr => ?_) (fun σ => rfl) id q;obtain ⟨us, rfl, hr1⟩ := qac3 hr;obtain ⟨us2, rfl, hr2⟩ := qac3 hr1;obtain ⟨v, rfl, hr3⟩ := reps1 hr2;obtain ⟨ao, c, rfl, hr4⟩ := qaso hr3 hf;refine (qa0a b Fp width most n key k act ao _ c args E w hI hw hkey hk hact hr4 han hn).mono ?_;rintro e w' ⟨rfl, Fp', h1, h2, h3⟩;exact ⟨_, Fp', rfl, h1, h2, h3, .int⟩
theorem qbao (width most n : Int) (E : PE) (key k : Int) (hw : Fits .i64 width) (hkey : Fits .u64 key) (hk : Fits .i64 k) (hn : -1000000 ≤ n ∧ n ≤ 1000000) (id q : Nat) :
  SCalls Tryz.prog 125 [.ptr id 0, .int .u64 key, .int .i64 k] [(id, .abs (qag4 width most n E))] q (.int .i64 (qab5 width E key k)) [(id, .abs (qag4 width most (qad0 width n E key k) (qaer width E key k)))] := by
 refine qado (Enters.of Tryz.func125 rfl (by kernel_rfl)) (fun O Fp w b vs hI hO hd hr => ?_) (fun σ => rfl) id q;obtain ⟨us, rfl, hr1⟩ := qac3 hr;obtain ⟨us2, rfl, hr2⟩ := qac3 hr1;cases hr2.nil_inv
 refine (qaux b Fp width most n key k E w hI hw hkey hk hn).mono ?_;rintro e w' ⟨rfl, Fp', h1, h2, h3⟩;exact ⟨_, Fp', rfl, h1, h2, h3, .int⟩
theorem qbl4 (width most n : Int) (E : PE) (id q : Nat) :
  SCalls Tryz.prog 115 [.ptr id 0] [(id, .abs (qag4 width most n E))] q (.int .i64 n) [(id, .abs (qag4 width most n E))] := by
 refine qado (Enters.of Tryz.func115 rfl (by kernel_rfl)) (fun O Fp w b vs hI hO hd hr => ?_) (fun σ => rfl) id q;cases hr.nil_inv
 have hI0 := hI;obtain ⟨M, adr, dat, h1, _⟩ := hI;refine (qanl b width most n M adr dat w h1).mono ?_;rintro e w' ⟨rfl, rfl⟩;exact ⟨_, Fp, rfl, hI0, fun k hk => .inl hk, .refl _ _, .int⟩
def qbm3 (R : Option (Nat × Int × List Int)) : SV := .tup [.agg (qacc (fAct R) (qbbf R)), .int .i64 (fLen R), .bool R.isSome]
theorem qban (width most n : Int) (E : PE) (key : Int) (hw : Fits .i64 width) (hkey : Fits .u64 key) (hargs : ∀ i v x, E i v = some x → x.2.length ≤ 1000000) (id q : Nat) :
  SCalls Tryz.prog 126 [.ptr id 0, .int .u64 key] [(id, .abs (qag4 width most n E))] q (qbm3 (qac9 width E key)) [(id, .abs (qag4 width most n E))] := by
 refine qado (Enters.of Tryz.func126 rfl (by kernel_rfl)) (fun O Fp w b vs hI hO hd hr => ?_) (fun σ => rfl) id q;obtain ⟨us, rfl, hr1⟩ := qac3 hr;cases hr1.nil_inv
 refine (qauw b Fp width most n key E w hI hw hkey hargs).mono ?_;rintro e w' ⟨ao, c, rfl, h1, h2, h3⟩;have hlt := (qag4 width most n E).lt hI;refine ⟨_, Fp, rfl, PfxObj.below hI h3, fun k hk => .inl hk, .of h3, .tup rfl ?_⟩
 have hv : RepV w' (fun k => O k ∨ Fp k) noPl (nums .u64 (qbbf (qac9 width E key))) (.slice ao (qbbf (qac9 width E key)).length c) :=
  rd_view h1 fun a ha _ hk => by
   have := h2 a ha;rcases hk with hk | hk
   ·have := hO _ hk; omega
   ·have := hlt _ hk; omega
 intro j x v hx hv2;match j with
 | 0 =>
  simp at hx hv2; subst hx hv2
  refine .agg (vs := [_, _]) (by simp [Value.oneCell']) rfl fun j x v hx hv2 => ?_
  match j with
  | 0 => simp [qacc] at hx hv2; subst hx hv2; exact .int
  | 1 => simp [qacc] at hx hv2; subst hx hv2; exact hv
  | j + 2 => simp at hv2
 | 1 => simp at hx hv2; subst hx hv2; exact .int
 | 2 => simp at hx hv2; subst hx hv2; exact .bool
 | j + 3 => simp at hv2
end
section
attribute [local go_sem ↓] Go.wp_at_zero Go.wp_at_succ
set_option maxRecDepth 100000 in
set_option maxHeartbeats 2000000 in
theorem qaz9 (gt : Nat) (Fp : Nat → Prop) (W : Nat) (most n : Int) (E : PE) (w : World) (h : PfxObj w Fp gt (W : Int) most n E) (hW : W ≤ 64) (hargs : ∀ i v x, E i v = some x → x.2.length ≤ 1000000) (hlen : (allF E W W 0 0).length ≤ 1000000) :
  Calls Tryz.prog 123 #[.pointer (some ⟨gt, 0, none⟩)] w fun e w' => ∃ ao c, e = .returned (.slice ao (allF E W W 0 0).length c) ∧ OwnE w' w.heap.size (.slice ao (allF E W W 0 0).length c) (allF E W W 0 0) ∧ Below w.heap.size w w' := by
 obtain ⟨M, adr, dat, h1, h2, h3, h4, h5, h6⟩ := h;have hE : ent adr dat = E := by funext i v; exact h2 i v
 have I := qaut gt W w.heap.size most n M adr dat hW (by rw [hE]; exact hargs) (fun k hk => h6 k (h4 k hk)) (fun i v g e => h6 g (h5 i v g e)) (h6 gt h3) W 0 (by omega) 0 (by omega) (by simp) w h1 (Nat.le_refl _) none 0 [] (OwnE.nil _ _) (by rw [hE]; simpa using hlen);rw [hE] at I;have e0 : (0 : Int) * 2 ^ (W - 0) = 0 := by simp
 rw [e0] at I;simp only [List.nil_append, List.length_nil] at I;have HI := Lib.hid I;have g3 := h1.blk.cell 3;simp at g3;have gz := h1.blk.lt;clear I h1 h2 h3 h4 h5 h6 hE e0;generalize allF E W W 0 0 = L at *;generalize ptr (adr 0 0) = R at *;go_enter Tryz.func123, Tryz.ntmps123
 go_wp2_with fail
 refine HI.out.mono ?_;rintro e w' ⟨ao, c, rfl, ho, hb⟩;go_wp2_with fail
 go_ret
 exact ⟨ao, c, rfl, ho, hb⟩
theorem qanx : LayP entryLay qaaa :=
 qag6 (fun e : Entry => (e.keys, e.masks, e.len, e.prio, e.act, e.args)) (qacr (qadr (qacy .u64)) (qacr (qadr (qacy .u64)) (qacr (qacy .i64) (qacr (qacy .i64) (qacr (qacy .i64) (qadr (qacy .u64)))))))
theorem OwnE.mineB {w : World} {B : Nat} {v : Value} {xs : List Entry} (h : OwnE w B v xs) : MineL entryLay (fun k => v.ownBlock = some k ∨ k < B) w B 38 v xs := by
 obtain ⟨⟨cs, ⟨hl, ho⟩, hr⟩, hge⟩ := h;refine ⟨cs, ⟨hl, ?_⟩, hr⟩;rcases ho with h0 | ⟨g, cap, cur, rfl, hg, rest⟩
 ·exact .inl h0
 ·exact .inr ⟨g, cap, cur, rfl, hge g rfl, rest⟩
theorem OwnE.view {w : World} {B : Nat} {v : Value} {xs : List Entry} (h : OwnE w B v xs) {A : Nat → Prop} {ρ : qact} (hA : ∀ k, A k → k < B) : RepV w A ρ (ents xs) v := by
 obtain ⟨ao, c, rfl, hr, hb⟩ := h.mineB.rd (A' := fun k => k < B) (fun k hk _ => .inr hk) (fun k h1 _ h2 => Nat.not_lt_of_le h1 h2);exact (qagl qanx hr).weaken fun k hk _ => hA k hk
theorem qbl5 (W : Nat) (most n : Int) (E : PE) (hW : W ≤ 64) (hargs : ∀ i v x, E i v = some x → x.2.length ≤ 1000000) (hlen : (allF E W W 0 0).length ≤ 1000000) (id q : Nat) :
  SCalls Tryz.prog 123 [.ptr id 0] [(id, .abs (qag4 (W : Int) most n E))] q (ents (allF E W W 0 0)) [(id, .abs (qag4 (W : Int) most n E))] := by
 refine qado (Enters.of Tryz.func123 rfl (by kernel_rfl)) (fun O Fp w b vs hI hO hd hr => ?_) (fun σ => rfl) id q;cases hr.nil_inv
 refine (qaz9 b Fp W most n E w hI hW hargs hlen).mono ?_;rintro e w' ⟨ao, c, rfl, ho, hb⟩;have hlt := (qag4 (W : Int) most n E).lt hI;exact ⟨_, Fp, rfl, PfxObj.below hI hb, fun k hk => .inl hk, .of hb, ho.view fun k hk => hk.elim (hO k) (hlt k)⟩
end
section
attribute [local go_sem ↓] Go.wp_at_zero Go.wp_at_succ
def Pfx0 (w : World) (gt gr : Nat) (width most : Int) : Prop := Blk w gt 105 #[.int .i64 width, .int .i64 most, .int .i64 0, .pointer (some ⟨gr, 0, none⟩)] ∧ Blk w gr 103 #[.bool false, .int .i64 0, .slice none 0 0, .pointer none, .pointer none]
def adr0 (gr : Nat) (i : Nat) (v : Int) : Option Nat := if i = 0 ∧ v = 0 then some gr else none
theorem Pfx0.pfx {w : World} {gt gr : Nat} {width most : Int} (h : Pfx0 w gt gr width most) : Pfx w gt width most 0 (fun _ => False) (adr0 gr) (fun _ _ => qam1) := by
 refine ⟨h.1, ⟨?_, ?_, ?_, fun _ h => h.elim⟩, fun h => h, by simp [adr0]⟩
 ·intro i v g e;unfold adr0 at e;by_cases h0 : i = 0 ∧ v = 0
  ·rw [if_pos h0] at e;cases e
   refine ⟨⟨none, 0, 0, ?_, RdL.nil_ _ _ _, Fits.of_i64 (by decide) (by decide)⟩, fun h => h⟩;have := h.2;simpa [ptr, qam1, adr0] using this
  ·rw [if_neg h0] at e; cases e
 ·intro i v j u g e1 e2;unfold adr0 at e1 e2;by_cases h : i = 0 ∧ v = 0
  ·by_cases h2 : j = 0 ∧ u = 0
   ·exact ⟨h.1.trans h2.1.symm, h.2.trans h2.2.symm⟩
   ·rw [if_neg h2] at e2; cases e2
  ·rw [if_neg h] at e1; cases e1
 ·intro i v h;simp [adr0] at h
theorem Pfx0.below {w w' : World} {gt gr : Nat} {width most : Int} (h : Pfx0 w gt gr width most) (hb : Below w.heap.size w w') : Pfx0 w' gt gr width most := ⟨h.1.below hb h.1.lt, h.2.below hb h.2.lt⟩
def qann (width most : Int) : AbsI where
 I w _ Fp b := ∃ gr, Pfx0 w b gr width most ∧ ∀ k, Fp k ↔ k = b ∨ k = gr
 lt := fun h k hk => by
  obtain ⟨gr, h1, h2⟩ := h;rcases (h2 k).1 hk with rfl | rfl
  ·exact h1.1.lt
  ·exact h1.2.lt
 keep := fun {w w' A A' Fp b} h _ _ hb => by
  obtain ⟨gr, h1, h2⟩ := h;exact ⟨gr, ⟨(hb _ ((h2 _).2 (.inl rfl))).trans h1.1, (hb _ ((h2 _).2 (.inr rfl))).trans h1.2⟩, h2⟩
theorem qa92 {width key k : Int} (hw : ¬ (1 ≤ width ∧ width ≤ 64)) : qafj width key k = false := by
 unfold qafj; rw [decide_eq_false_iff_not]; omega
set_option maxRecDepth 100000 in
set_option maxHeartbeats 2000000 in
theorem qauv (width most : Int) (w : World) :
  Calls Tryz.prog 34 #[.int .i64 width, .int .i64 most] w fun e w' => e = .returned (.pointer (some ⟨w.heap.size + 1, 0, none⟩)) ∧ Pfx0 w' (w.heap.size + 1) w.heap.size width most ∧ Below w.heap.size w w' := by
 go_enter Tryz.func34, Tryz.ntmps34
 go_wp2_with fail
 go_ret
 refine ⟨rfl, ⟨?_, ?_⟩, al (al (rf w) _) _⟩
 ·have := Blk.new (w.alloc (.cells #[.bool false, .int .i64 0, .slice none 0 0, .pointer none, .pointer none] 103)) 105 #[.int .i64 width, .int .i64 most, .int .i64 0, .pointer (some ⟨w.heap.size, 0, none⟩)];simpa using this
 ·exact (Blk.new w 103 #[.bool false, .int .i64 0, .slice none 0 0, .pointer none, .pointer none]).alloc (.cells #[.int .i64 width, .int .i64 most, .int .i64 0, .pointer (some ⟨w.heap.size, 0, none⟩)] 105)
set_option maxRecDepth 100000 in
set_option maxHeartbeats 2000000 in
theorem qau0 (gt gr : Nat) (width most key k act : Int) (ao : Option Addr) (an ac : Nat) (w : World) (h : Pfx0 w gt gr width most) (hu : ¬ (1 ≤ width ∧ width ≤ 64)) (hw : Fits .i64 width) (hkey : Fits .u64 key) (hk : Fits .i64 k) :
  Calls Tryz.prog 122 #[.pointer (some ⟨gt, 0, none⟩), .int .u64 key, .int .i64 k, .agg #[.int .i64 act, .slice ao an ac]] w fun e w' => e = .returned (.int .i64 6) ∧ Below w.heap.size w w' := by
 have hal := al (rf w) (.cells #[.int .i64 act, .slice ao an ac] 46);have H1 := Lib.hid (h.pfx.below hal);have HF := Lib.hid (qa92 (key := key) (k := k) hu);clear h hu;go_enter Tryz.func122, Tryz.ntmps122
 go_wp2_with fail
 refine (qacv _ _ _ _ _ _ _ _ _ _ H1.out hw hk hkey).mono ?_;rintro e w' ⟨rfl, rfl⟩;rw [HF.out];go_wp2_with fail
 go_ret
 exact ⟨rfl, hal⟩
set_option maxRecDepth 100000 in
set_option maxHeartbeats 2000000 in
theorem qauy (gt gr : Nat) (width most key k act : Int) (ao : Option Addr) (an ac : Nat) (w : World) (h : Pfx0 w gt gr width most) (hu : ¬ (1 ≤ width ∧ width ≤ 64)) (hw : Fits .i64 width) (hkey : Fits .u64 key) (hk : Fits .i64 k) :
  Calls Tryz.prog 124 #[.pointer (some ⟨gt, 0, none⟩), .int .u64 key, .int .i64 k, .agg #[.int .i64 act, .slice ao an ac]] w fun e w' => e = .returned (.int .i64 6) ∧ Below w.heap.size w w' := by
 have hal := al (rf w) (.cells #[.int .i64 act, .slice ao an ac] 46);have H1 := Lib.hid (h.pfx.below hal);have HF := Lib.hid (qa92 (key := key) (k := k) hu);clear h hu;go_enter Tryz.func124, Tryz.ntmps124
 go_wp2_with fail
 refine (qacv _ _ _ _ _ _ _ _ _ _ H1.out hw hk hkey).mono ?_;rintro e w' ⟨rfl, rfl⟩;rw [HF.out];go_wp2_with fail
 go_ret
 exact ⟨rfl, hal⟩
set_option maxRecDepth 100000 in
set_option maxHeartbeats 2000000 in
theorem qaqt (gt gr : Nat) (width most key k : Int) (w : World) (h : Pfx0 w gt gr width most) (hu : ¬ (1 ≤ width ∧ width ≤ 64)) (hw : Fits .i64 width) (hkey : Fits .u64 key) (hk : Fits .i64 k) :
  Calls Tryz.prog 125 #[.pointer (some ⟨gt, 0, none⟩), .int .u64 key, .int .i64 k] w fun e w' => e = .returned (.int .i64 6) ∧ Below w.heap.size w w' := by
 have H1 := Lib.hid h.pfx;have HF := Lib.hid (qa92 (key := key) (k := k) hu);clear h hu;go_enter Tryz.func125, Tryz.ntmps125
 go_wp2_with fail
 refine (qacv _ _ _ _ _ _ _ _ _ _ H1.out hw hk hkey).mono ?_;rintro e w' ⟨rfl, rfl⟩;rw [HF.out];go_wp2_with fail
 go_ret
 exact ⟨rfl, Below.refl _ _⟩
set_option maxRecDepth 100000 in
set_option maxHeartbeats 2000000 in
theorem qaqs (gt gr : Nat) (width most key : Int) (w : World) (h : Pfx0 w gt gr width most) (hu : ¬ (1 ≤ width ∧ width ≤ 64)) (hw : Fits .i64 width) (hkey : Fits .u64 key) :
  Calls Tryz.prog 126 #[.pointer (some ⟨gt, 0, none⟩), .int .u64 key] w fun e w' => e = .returned (.tuple #[.agg #[.int .i64 0, .slice none 0 0], .int .i64 0, .bool false]) ∧ Below w.heap.size w w' := by
 have hal := al (rf w) (.cells #[.int .i64 0, .slice none 0 0] 46);have hz0 := Blk.new w 46 #[.int .i64 0, .slice none 0 0];have h0 := h.1.cell 0;simp at h0;have hz := h.1.lt;have H1 := Lib.hid (h.pfx.below hal);have HF := Lib.hid (qa92 (key := key) (k := width) hu);clear h hu;go_enter Tryz.func126, Tryz.ntmps126
 go_wp2_with fail
 refine (qacv _ _ _ _ _ _ _ _ _ _ H1.out hw hw hkey).mono ?_;rintro e w' ⟨rfl, rfl⟩;rw [HF.out];go_wp2_with fail
 exact bodyPost_ret (v := .tuple #[.agg #[.int .i64 0, .slice none 0 0], .int .i64 0, .bool false]) (by simp [results, Tryz.results126, go_sem]) rfl ⟨rfl, hal⟩
set_option maxRecDepth 100000 in
set_option maxHeartbeats 2000000 in
theorem qahi (gt : Nat) (key n : Int) (v : Value) (w : World) :
  Calls Tryz.prog 129 #[.pointer (some ⟨gt, 0, none⟩), .pointer none, .int .u64 key, .int .i64 n, v] w fun e w' => e = .returned v ∧ w = w' := by
 go_enter Tryz.func129, Tryz.ntmps129
 go_wp2_with fail
 go_ret
 exact ⟨rfl, rfl⟩
set_option maxRecDepth 100000 in
set_option maxHeartbeats 2000000 in
theorem qaqq (gt gr : Nat) (width most : Int) (w : World) (h : Pfx0 w gt gr width most) (hu : ¬ (1 ≤ width ∧ width ≤ 64)) (hw : Fits .i64 width) :
  Calls Tryz.prog 129 #[.pointer (some ⟨gt, 0, none⟩), .pointer (some ⟨gr, 0, none⟩), .int .u64 0, .int .i64 0, .slice none 0 0] w fun e w' => e = .returned (.slice none 0 0) ∧ Below w.heap.size w w' := by
 have H := Lib.hid h;have t0 := h.1.cell 0;have t1 := h.2.cell 0;have t2 := h.2.cell 3;have t3 := h.2.cell 4;simp at t0 t1 t2 t3;have z0 := h.1.lt;have z1 := h.2.lt;have hwi := hw.i64;clear h;by_cases hp : 0 < width
 ·have hl : decide ((0 : Int) < width) = true := decide_eq_true hp;obtain ⟨N, rfl⟩ : ∃ N : Nat, width = (N : Int) + 1 := ⟨(width - 1).toNat, by omega⟩
  have hwr2 : IntKind.i64.wrap ((N : Int) + 1 - 1) = N := by rw [Int.add_sub_cancel]; exact qadt (by omega) (by omega)
  have hwr3 : IntKind.i64.wrap ((N : Int) - 0) = N := by rw [Int.sub_zero]; exact qadt (by omega) (by omega)
  have hwr4 : IntKind.i64.wrap (N : Int) = N := qadt (by omega) (by omega);go_enter Tryz.func129, Tryz.ntmps129
  go_wp2_with fail
  refine (qahi _ _ _ _ _).mono ?_;rintro e w' ⟨rfl, rfl⟩;go_wp2_with fail
  go_region_law ((go_simp; go_at_call 129; refine (qahi _ _ _ _ _).mono ?_; rintro e w4 ⟨rfl, rfl⟩))
  all_goals
   go_wp2_with fail
   go_ret
   exact ⟨rfl, Below.drew0_ w⟩
 ·have hl : decide ((0 : Int) < width) = false := decide_eq_false hp;go_enter Tryz.func129, Tryz.ntmps129
  go_wp2_with fail
  go_ret
  exact ⟨rfl, by first | exact Below.refl _ _ | go_grown⟩
set_option maxRecDepth 100000 in
set_option maxHeartbeats 2000000 in
theorem qauz (gt gr : Nat) (width most : Int) (w : World) (h : Pfx0 w gt gr width most) (hu : ¬ (1 ≤ width ∧ width ≤ 64)) (hw : Fits .i64 width) :
  Calls Tryz.prog 123 #[.pointer (some ⟨gt, 0, none⟩)] w fun e w' => e = .returned (.slice none 0 0) ∧ Below w.heap.size w w' := by
 have H := Lib.hid h;have g3 := h.1.cell 3;simp at g3;have gz := h.1.lt;clear h;go_enter Tryz.func123, Tryz.ntmps123
 go_wp2_with fail
 refine (qaqq gt gr width most _ H.out hu hw).mono ?_;rintro e w' ⟨rfl, hb⟩;go_wp2_with fail
 go_ret
 exact ⟨rfl, hb⟩
end
def okWd (width : Int) : Prop := 1 ≤ width ∧ width ≤ 64
instance (width : Int) : Decidable (okWd width) := by unfold okWd; infer_instance
def pT (width most n : Int) (E : PE) : AbsI := if okWd width then qag4 width most n E else qann width most
theorem qaki {width most n : Int} {E : PE} (h : okWd width) : pT width most n E = qag4 width most n E := if_pos h
theorem qa9t {width most n : Int} {E : PE} (h : ¬ okWd width) : pT width most n E = qann width most := if_neg h
theorem newT_s (width most : Int) (q : Nat) : SCalls Tryz.prog 34 [.int .i64 width, .int .i64 most] [] q (.ptr q 0) [(q, .abs (pT width most 0 noE))] := by
 by_cases hw : okWd width
 ·rw [qaki hw]; exact qbl3 width most q
 ·rw [qa9t hw];refine qana (Enters.of Tryz.func34 rfl (by kernel_rfl)) (fun O w vs hO hr => ?_) (fun σ => rfl) q;obtain ⟨us, rfl, hr1⟩ := qac3 hr;obtain ⟨us2, rfl, hr2⟩ := qac3 hr1;cases hr2.nil_inv
  refine (qauv width most w).mono ?_;rintro e w' ⟨rfl, h1, h2⟩;refine ⟨_, fun k => k = w.heap.size + 1 ∨ k = w.heap.size, rfl, ⟨_, h1, fun k => Iff.rfl⟩, ?_, h2⟩;rintro k (rfl | rfl) <;> omega
theorem qaui {f : FuncId} {args : List SV} {width most : Int} {r : SV} (he : Enters Tryz.prog f)
  (h : ∀ (O : Nat → Prop) (gr : Nat) (w : World) (b : Nat) (vs : List Value), Pfx0 w b gr width most → (∀ k, O k → k < w.heap.size) → Reps w O noPl args vs → Calls Tryz.prog f (.pointer (some ⟨b, 0, none⟩) :: vs).toArray w fun e w' => ∃ v, e = .returned v ∧ Below w.heap.size w w' ∧ RepV w' O noPl r v)
  (ha : ∀ σ, args.map (ren σ) = args) (id q : Nat) : SCalls Tryz.prog f (.ptr id 0 :: args) [(id, .abs (qann width most))] q r [(id, .abs (qann width most))] := by
 refine qado he (fun O Fp w b vs hI hO hd hr => ?_) ha id q;have hlt := (qann width most).lt hI;obtain ⟨gr, h1, h2⟩ := hI;refine (h (fun k => O k ∨ Fp k) gr w b vs h1 (fun k hk => hk.elim (hO k) (hlt k)) hr).mono ?_;rintro e w' ⟨v, rfl, hb, hv⟩;exact ⟨v, Fp, rfl, ⟨gr, h1.below hb, h2⟩, fun k hk => .inl hk, .of hb, hv⟩
theorem addT_s (width most n : Int) (E : PE) (key k act : Int) (args : List Int) (hw : Fits .i64 width) (hkey : Fits .u64 key) (hk : Fits .i64 k) (hact : Fits .i64 act) (hf : AllFit .u64 args) (han : args.length ≤ 1000000) (hn : 0 ≤ n ∧ n ≤ 1000000) (id q : Nat) :
  SCalls Tryz.prog 122 [.ptr id 0, .int .u64 key, .int .i64 k, .agg (qacc act args)] [(id, .abs (pT width most n E))] q (.int .i64 (qach width most n E key k)) [(id, .abs (pT width most (qafx width most n E key k) (qaf6 width most n E key k act args)))] := by
 by_cases hu : okWd width
 ·rw [qaki hu, qaki hu]; exact qbl6 width most n E key k act args hw hkey hk hact hf han hn id q
 ·rw [qa9t hu, qa9t hu];have hc : qach width most n E key k = 6 := by unfold qach; rw [if_pos (qa92 hu)]
  rw [hc];refine qaui (Enters.of Tryz.func122 rfl (by kernel_rfl)) (fun O gr w b vs h1 hO hr => ?_) (fun σ => rfl) id q;obtain ⟨us, rfl, hr1⟩ := qac3 hr;obtain ⟨us2, rfl, hr2⟩ := qac3 hr1;obtain ⟨v, rfl, hr3⟩ := reps1 hr2;obtain ⟨ao, c, rfl, hr4⟩ := qaso hr3 hf;refine (qau0 b gr width most key k act ao _ c w h1 hu hw hkey hk).mono ?_;rintro e w' ⟨rfl, hb⟩;exact ⟨_, rfl, hb, .int⟩
theorem chgT_s (width most n : Int) (E : PE) (key k act : Int) (args : List Int) (hw : Fits .i64 width) (hkey : Fits .u64 key) (hk : Fits .i64 k) (hact : Fits .i64 act) (hf : AllFit .u64 args) (han : args.length ≤ 1000000) (id q : Nat) :
  SCalls Tryz.prog 124 [.ptr id 0, .int .u64 key, .int .i64 k, .agg (qacc act args)] [(id, .abs (pT width most n E))] q (.int .i64 (qac0 width E key k)) [(id, .abs (pT width most n (qahk width E key k act args)))] := by
 by_cases hu : okWd width
 ·rw [qaki hu, qaki hu];refine qado (Enters.of Tryz.func124 rfl (by kernel_rfl)) (fun O Fp w b vs hI hO hd hr => ?_) (fun σ => rfl) id q;obtain ⟨us, rfl, hr1⟩ := qac3 hr;obtain ⟨us2, rfl, hr2⟩ := qac3 hr1;obtain ⟨v, rfl, hr3⟩ := reps1 hr2;obtain ⟨ao, c, rfl, hr4⟩ := qaso hr3 hf;refine (qaz8 b Fp width most n key k act ao _ c args E w hI hw hkey hk hact hr4 han).mono ?_;rintro e w' ⟨rfl, Fp', h1, h2, h3⟩;exact ⟨_, Fp', rfl, h1, h2, h3, .int⟩
 ·rw [qa9t hu, qa9t hu];have hc : qac0 width E key k = 6 := by unfold qac0; rw [if_pos (qa92 hu)]
  rw [hc];refine qaui (Enters.of Tryz.func124 rfl (by kernel_rfl)) (fun O gr w b vs h1 hO hr => ?_) (fun σ => rfl) id q;obtain ⟨us, rfl, hr1⟩ := qac3 hr;obtain ⟨us2, rfl, hr2⟩ := qac3 hr1;obtain ⟨v, rfl, hr3⟩ := reps1 hr2;obtain ⟨ao, c, rfl, hr4⟩ := qaso hr3 hf;refine (qauy b gr width most key k act ao _ c w h1 hu hw hkey hk).mono ?_;rintro e w' ⟨rfl, hb⟩;exact ⟨_, rfl, hb, .int⟩
theorem dropT_s (width most n : Int) (E : PE) (key k : Int) (hw : Fits .i64 width) (hkey : Fits .u64 key) (hk : Fits .i64 k) (hn : -1000000 ≤ n ∧ n ≤ 1000000) (id q : Nat) :
  SCalls Tryz.prog 125 [.ptr id 0, .int .u64 key, .int .i64 k] [(id, .abs (pT width most n E))] q (.int .i64 (qab5 width E key k)) [(id, .abs (pT width most (qad0 width n E key k) (qaer width E key k)))] := by
 by_cases hu : okWd width
 ·rw [qaki hu, qaki hu]; exact qbao width most n E key k hw hkey hk hn id q
 ·rw [qa9t hu, qa9t hu];have hc : qab5 width E key k = 6 := by unfold qab5; rw [if_pos (qa92 hu)]
  rw [hc];refine qaui (Enters.of Tryz.func125 rfl (by kernel_rfl)) (fun O gr w b vs h1 hO hr => ?_) (fun σ => rfl) id q;obtain ⟨us, rfl, hr1⟩ := qac3 hr;obtain ⟨us2, rfl, hr2⟩ := qac3 hr1;cases hr2.nil_inv
  refine (qaqt b gr width most key k w h1 hu hw hkey hk).mono ?_;rintro e w' ⟨rfl, hb⟩;exact ⟨_, rfl, hb, .int⟩
theorem lenT_s (width most n : Int) (E : PE) (h0 : ¬ okWd width → n = 0) (id q : Nat) : SCalls Tryz.prog 115 [.ptr id 0] [(id, .abs (pT width most n E))] q (.int .i64 n) [(id, .abs (pT width most n E))] := by
 by_cases hu : okWd width
 ·rw [qaki hu]; exact qbl4 width most n E id q
 ·rw [qa9t hu, h0 hu];refine qaui (Enters.of Tryz.func115 rfl (by kernel_rfl)) (fun O gr w b vs h1 hO hr => ?_) (fun σ => rfl) id q;cases hr.nil_inv
  refine (qanl b width most 0 _ _ _ w h1.pfx).mono ?_;rintro e w' ⟨rfl, rfl⟩;exact ⟨_, rfl, Below.refl _ _, .int⟩
theorem findT_s (width most n : Int) (E : PE) (key : Int) (hw : Fits .i64 width) (hkey : Fits .u64 key) (hargs : ∀ i v x, E i v = some x → x.2.length ≤ 1000000) (id q : Nat) :
  SCalls Tryz.prog 126 [.ptr id 0, .int .u64 key] [(id, .abs (pT width most n E))] q (qbm3 (qac9 width E key)) [(id, .abs (pT width most n E))] := by
 by_cases hu : okWd width
 ·rw [qaki hu]; exact qban width most n E key hw hkey hargs id q
 ·rw [qa9t hu];have hc : qac9 width E key = none := by unfold qac9; rw [qa92 hu]; rfl
  rw [hc];refine qaui (Enters.of Tryz.func126 rfl (by kernel_rfl)) (fun O gr w b vs h1 hO hr => ?_) (fun σ => rfl) id q;obtain ⟨us, rfl, hr1⟩ := qac3 hr;cases hr1.nil_inv
  refine (qaqs b gr width most key w h1 hu hw hkey).mono ?_;rintro e w' ⟨rfl, hb⟩;refine ⟨_, rfl, hb, .tup rfl ?_⟩;intro j x v hx hv2;match j with
  | 0 =>
   simp at hx hv2; subst hx hv2
   refine .agg (vs := [_, _]) (by simp [Value.oneCell']) rfl fun j x v hx hv2 => ?_
   match j with
   | 0 => simp [qacc, fAct] at hx hv2; subst hx hv2; exact .int
   | 1 => simp [qacc, qbbf, nums] at hx hv2; subst hx hv2; exact .view0 (by simp [maxLen]) (fun _ => rfl)
   | j + 2 => simp at hv2
  | 1 => simp [fLen] at hx hv2; subst hx hv2; exact .int
  | 2 => simp at hx hv2; subst hx hv2; exact .bool
  | j + 3 => simp at hv2
def allT (width : Int) (E : PE) : List Entry := if okWd width then allF E width.toNat width.toNat 0 0 else []
theorem allT_s (width most n : Int) (E : PE) (hw : Fits .i64 width) (hargs : ∀ i v x, E i v = some x → x.2.length ≤ 1000000) (hlen : (allT width E).length ≤ 1000000) (id q : Nat) :
  SCalls Tryz.prog 123 [.ptr id 0] [(id, .abs (pT width most n E))] q (ents (allT width E)) [(id, .abs (pT width most n E))] := by
 by_cases hu : okWd width
 ·have e : allT width E = allF E width.toNat width.toNat 0 0 := if_pos hu;rw [qaki hu, e];rw [e] at hlen;obtain ⟨W, rfl⟩ : ∃ W : Nat, width = W := ⟨width.toNat, by have := hu.1; omega⟩
  have h2 := hu.2;simp only [Int.toNat_natCast] at hlen ⊢;exact qbl5 W most n E (by omega) hargs hlen id q
 ·have e : allT width E = [] := if_neg hu;rw [qa9t hu, e];refine qaui (Enters.of Tryz.func123 rfl (by kernel_rfl)) (fun O gr w b vs h1 hO hr => ?_) (fun σ => rfl) id q;cases hr.nil_inv
  refine (qauz b gr width most w h1 hu hw).mono ?_;rintro e w' ⟨rfl, hb⟩;exact ⟨_, rfl, hb, .view0 (by simp [maxLen]) (fun _ => rfl)⟩
def ce (W i : Nat) (v : Int) (x : Int × List Int) : Entry := ⟨[v * 2 ^ (W - i)], [], i, 0, x.1, x.2⟩
theorem qaqz {E : Nat → Int → Option (Int × List Int)} {W i : Nat} {v : Int} {e : Entry} : e ∈ entL E W i v ↔ ∃ x, E i v = some x ∧ e = ce W i v x := by
 unfold entL ce;cases E i v <;> simp
theorem qa1l (u : Int) (a : Nat) : u / 2 ^ (a + 1) = u / 2 ^ a / 2 := by
 have hp : (0 : Int) ≤ 2 ^ a := Int.pow_nonneg (by decide);rw [Int.pow_succ];first | exact (Int.ediv_ediv_of_nonneg hp).symm | exact (Int.ediv_ediv hp).symm | exact (Int.ediv_ediv_eq_ediv_mul _ hp).symm
theorem qah5 {E : Nat → Int → Option (Int × List Int)} {W : Nat} : ∀ (d i : Nat) (v : Int) (e : Entry), e ∈ allF E W d i v ↔ ∃ (j : Nat) (u : Int) (x : Int × List Int), i ≤ j ∧ j ≤ i + d ∧ u / 2 ^ (j - i) = v ∧ E j u = some x ∧ e = ce W j u x := by
 intro d;induction d with
 | zero =>
  intro i v e;rw [show allF E W 0 i v = entL E W i v from rfl, qaqz];constructor
  ·rintro ⟨x, h1, h2⟩;exact ⟨i, v, x, Nat.le_refl _, Nat.le_refl _, by simp, h1, h2⟩
  ·rintro ⟨j, u, x, h1, h2, h3, h4, h5⟩;obtain rfl : j = i := by omega
   simp at h3;subst h3;exact ⟨x, h4, h5⟩
 | succ d ih =>
  intro i v e;rw [show allF E W (d + 1) i v = entL E W i v ++ (allF E W d (i + 1) (2 * v) ++ allF E W d (i + 1) (2 * v + 1)) from rfl, List.mem_append, List.mem_append, qaqz, ih, ih];have key : ∀ (j : Nat) (u : Int), i + 1 ≤ j → u / 2 ^ (j - i) = u / 2 ^ (j - (i + 1)) / 2 := fun j u hj => by
   rw [← qa1l, show j - (i + 1) + 1 = j - i by omega]
  constructor
  ·rintro (⟨x, h1, h2⟩ | ⟨j, u, x, h1, h2, h3, h4, h5⟩ | ⟨j, u, x, h1, h2, h3, h4, h5⟩)
   ·exact ⟨i, v, x, Nat.le_refl _, by omega, by simp, h1, h2⟩
   ·exact ⟨j, u, x, by omega, by omega, by rw [key j u h1, h3]; omega, h4, h5⟩
   ·exact ⟨j, u, x, by omega, by omega, by rw [key j u h1, h3]; omega, h4, h5⟩
  ·rintro ⟨j, u, x, h1, h2, h3, h4, h5⟩;by_cases hj : j = i
   ·subst hj;simp at h3;subst h3;exact .inl ⟨x, h4, h5⟩
   ·rw [key j u (by omega)] at h3;generalize hc : u / 2 ^ (j - (i + 1)) = c at h3;rcases (show c = 2 * v ∨ c = 2 * v + 1 by omega) with e | e
    ·exact .inr (.inl ⟨j, u, x, by omega, by omega, by rw [hc, e], h4, h5⟩)
    ·exact .inr (.inr ⟨j, u, x, by omega, by omega, by rw [hc, e], h4, h5⟩)
theorem qarg (E : Nat → Int → Option (Int × List Int)) (W i : Nat) (v : Int) : (entL E W i v).length = (E i v).toList.length := by
 unfold entL;cases E i v <;> rfl
def qam0 (d i : Nat) (v : Int) (j : Nat) (u : Int) : Prop := i ≤ j ∧ j ≤ i + d ∧ u / 2 ^ (j - i) = v
instance (d i : Nat) (v : Int) (j : Nat) (u : Int) : Decidable (qam0 d i v j u) := by unfold qam0; infer_instance
theorem qaq2 (E : Nat → Int → Option (Int × List Int)) (W : Nat) (j : Nat) (u : Int) (y : Option (Int × List Int)) : ∀ (d i : Nat) (v : Int),
  (allF (qaef E j u y) W d i v).length + (if qam0 d i v j u then (E j u).toList.length else 0) = (allF E W d i v).length + (if qam0 d i v j u then y.toList.length else 0) := by
 have here : ∀ i v, (j = i ∧ u = v) → qaef E j u y i v = y := fun i v h => by unfold qaef; rw [if_pos ⟨h.1.symm, h.2.symm⟩]
 have away : ∀ i v, ¬ (j = i ∧ u = v) → qaef E j u y i v = E i v := fun i v h => by unfold qaef; rw [if_neg fun h2 => h ⟨h2.1.symm, h2.2.symm⟩]
 intro d;induction d with
 | zero =>
  intro i v;rw [show ∀ E, allF E W 0 i v = entL E W i v from fun _ => rfl, show ∀ E, allF E W 0 i v = entL E W i v from fun _ => rfl, qarg, qarg];by_cases h : j = i ∧ u = v
  ·rw [here i v h];obtain ⟨rfl, rfl⟩ := h;rw [if_pos (by unfold qam0; simp), if_pos (by unfold qam0; simp)];omega
  ·rw [away i v h];have : ¬ qam0 0 i v j u := by
    rintro ⟨h1, h2, h3⟩;obtain rfl : j = i := by omega
    simp at h3;exact h ⟨rfl, h3⟩
   rw [if_neg this, if_neg this]
 | succ d ih =>
  intro i v;have A := ih (i + 1) (2 * v);have B := ih (i + 1) (2 * v + 1);rw [show ∀ E, allF E W (d + 1) i v = entL E W i v ++ (allF E W d (i + 1) (2 * v) ++ allF E W d (i + 1) (2 * v + 1)) from fun _ => rfl, show ∀ E, allF E W (d + 1) i v = entL E W i v ++ (allF E W d (i + 1) (2 * v) ++ allF E W d (i + 1) (2 * v + 1)) from fun _ => rfl];simp only [List.length_append, qarg];by_cases hj : j ≤ i
  ·have n1 : ∀ c, ¬ qam0 d (i + 1) c j u := fun c h => by have := h.1; omega
   rw [if_neg (n1 _), if_neg (n1 _)] at A;rw [if_neg (n1 _), if_neg (n1 _)] at B;by_cases h : j = i ∧ u = v
   ·rw [here i v h];obtain ⟨rfl, rfl⟩ := h;rw [if_pos (by unfold qam0; simp), if_pos (by unfold qam0; simp)];omega
   ·rw [away i v h];have : ¬ qam0 (d + 1) i v j u := by
     rintro ⟨h1, h2, h3⟩;obtain rfl : j = i := by omega
     simp at h3;exact h ⟨rfl, h3⟩
    rw [if_neg this, if_neg this];omega
  ·rw [away i v (by omega)];have hk : u / 2 ^ (j - i) = u / 2 ^ (j - (i + 1)) / 2 := by rw [← qa1l, show j - (i + 1) + 1 = j - i by omega]
   obtain ⟨c, hc⟩ : ∃ c, u / 2 ^ (j - (i + 1)) = c := ⟨_, rfl⟩
   rw [hc] at hk;have hA : qam0 d (i + 1) (2 * v) j u ↔ j ≤ i + 1 + d ∧ c = 2 * v := by unfold qam0; rw [hc]; exact ⟨fun h => ⟨h.2.1, h.2.2⟩, fun h => ⟨by omega, h.1, h.2⟩⟩
   have hB : qam0 d (i + 1) (2 * v + 1) j u ↔ j ≤ i + 1 + d ∧ c = 2 * v + 1 := by unfold qam0; rw [hc]; exact ⟨fun h => ⟨h.2.1, h.2.2⟩, fun h => ⟨by omega, h.1, h.2⟩⟩
   have hG : qam0 (d + 1) i v j u ↔ j ≤ i + 1 + d ∧ c / 2 = v := by unfold qam0; rw [hk]; exact ⟨fun h => ⟨by omega, h.2.2⟩, fun h => ⟨by omega, by omega, h.2⟩⟩
   simp only [hA] at A;simp only [hB] at B;simp only [hG];by_cases hd : j ≤ i + 1 + d
   ·by_cases h0 : c = 2 * v
    ·rw [if_pos ⟨hd, h0⟩, if_pos ⟨hd, h0⟩] at A;rw [if_neg (by omega), if_neg (by omega)] at B;rw [if_pos ⟨hd, by omega⟩, if_pos ⟨hd, by omega⟩];omega
    ·by_cases h1 : c = 2 * v + 1
     ·rw [if_neg (by omega), if_neg (by omega)] at A;rw [if_pos ⟨hd, h1⟩, if_pos ⟨hd, h1⟩] at B;rw [if_pos ⟨hd, by omega⟩, if_pos ⟨hd, by omega⟩];omega
     ·rw [if_neg (by omega), if_neg (by omega)] at A;rw [if_neg (by omega), if_neg (by omega)] at B;rw [if_neg (by omega), if_neg (by omega)];omega
   ·rw [if_neg (by omega), if_neg (by omega)] at A;rw [if_neg (by omega), if_neg (by omega)] at B;rw [if_neg (by omega), if_neg (by omega)];omega
structure PInv (W : Nat) (n : Int) (E : PE) : Prop where
 cnt : n = ((allF E W W 0 0).length : Int)
 ok : ∀ i v x, E i v = some x → i ≤ W ∧ 0 ≤ v ∧ v < 2 ^ i ∧ x.2.length ≤ 1000 ∧ AllFit .u64 x.2 ∧ Fits .i64 x.1
theorem PInv.none (W : Nat) : PInv W 0 noE := by
 refine ⟨?_, fun i v x h => by cases h⟩;have : allF noE W W 0 0 = [] := by
  apply List.eq_nil_iff_forall_not_mem.2;intro e he;obtain ⟨j, u, x, _, _, _, h, _⟩ := (qah5 W 0 0 e).1 he;cases h
 rw [this]; rfl
theorem qagd {W j : Nat} {u : Int} (hj : j ≤ W) (h0 : 0 ≤ u) (h1 : u < 2 ^ j) : qam0 W 0 0 j u := ⟨Nat.zero_le _, by omega, Int.ediv_eq_zero_of_lt h0 (by simpa using h1)⟩
theorem PInv.add {W : Nat} {n most : Int} {E : PE} (h : PInv W n E) {key k act : Int} {args : List Int} (h0 : 0 ≤ key) (ha : args.length ≤ 1000) (hf : AllFit .u64 args) (hact : Fits .i64 act) :
  PInv W (qafx W most n E key k) (qaf6 W most n E key k act args) ∧ (n ≤ most → qafx W most n E key k ≤ most) := by
 by_cases hc : qach W most n E key k = 0
 ·obtain ⟨e1, e2⟩ := qajs hc act args;rw [e1, e2];unfold qach at hc;split at hc
  ·cases hc
  rename_i hp;split at hc
  ·cases hc
  rename_i hn;split at hc
  ·cases hc
  rename_i hm;have hp2 : qafj W key k = true := by simpa using hp
  obtain ⟨W', K, e3, rfl, hW1, hW2, hK, hlt, _⟩ := qadj hp2;obtain rfl : W = W' := by omega
  simp only [Int.toNat_natCast] at hn ⊢;have hn2 : E K (pre W key K) = Option.none := by simpa using hn
  have l1 := qank (W := W) h0 K;have l2 := pre_lt hlt hK;refine ⟨⟨?_, ?_⟩, fun _ => by omega⟩
  ·have := qaq2 E W K (pre W key K) (some (act, args)) W 0 0;rw [if_pos (qagd hK l1 l2), if_pos (qagd hK l1 l2), hn2] at this;simp at this;rw [h.cnt]; omega
  ·intro i v x hx;unfold qaef at hx;split at hx
   ·rename_i e;obtain ⟨rfl, rfl⟩ := e;cases hx
    exact ⟨hK, l1, l2, ha, hf, hact⟩
   ·exact h.ok i v x hx
 ·obtain ⟨e1, e2⟩ := qafq hc act args;rw [e1, e2];exact ⟨h, fun h => h⟩
theorem PInv.drop {W : Nat} {n : Int} {E : PE} (h : PInv W n E) {key k : Int} (h0 : 0 ≤ key) :
  PInv W (qad0 W n E key k) (qaer W E key k) ∧ qad0 W n E key k ≤ n := by
 by_cases hc : qab5 W E key k = 0
 ·obtain ⟨e1, e2⟩ := qagh (n := n) hc;rw [e1, e2];unfold qab5 at hc;split at hc
  ·cases hc
  rename_i hp;split at hc;case isFalse => cases hc
  rename_i hn;have hp2 : qafj W key k = true := by simpa using hp
  obtain ⟨W', K, e3, rfl, hW1, hW2, hK, hlt, _⟩ := qadj hp2;obtain rfl : W = W' := by omega
  simp only [Int.toNat_natCast] at hn ⊢;obtain ⟨x, hx⟩ := Option.isSome_iff_exists.1 hn;have l1 := qank (W := W) h0 K;have l2 := pre_lt hlt hK;refine ⟨⟨?_, ?_⟩, by omega⟩
  ·have := qaq2 E W K (pre W key K) Option.none W 0 0;rw [if_pos (qagd hK l1 l2), if_pos (qagd hK l1 l2), hx] at this;simp at this;rw [h.cnt]; omega
  ·intro i v x hx;unfold qaef at hx;split at hx
   ·cases hx
   ·exact h.ok i v x hx
 ·obtain ⟨e1, e2⟩ := qaf4 (n := n) hc;rw [e1, e2];exact ⟨h, Int.le_refl _⟩
def kof (e : Entry) : Int := if e.keys = [] then 0 else el e.keys 0
structure FitE (e : Entry) : Prop where
 keys : AllFit .u64 e.keys
 args : AllFit .u64 e.args
 len : Fits .i64 e.len
 act : Fits .i64 e.act
theorem FitE.kof {e : Entry} (h : FitE e) : Fits .u64 (kof e) := by
 unfold YtalejfkholifpaaGreat.kof el;cases hk : e.keys with
 | nil => simp; exact Fits.of_u64 (by decide) (by decide)
 | cons x xs => simp; exact h.keys x (by rw [hk]; simp)
section
attribute [local simp] qaa6 qaa5 qaak qaas qaal qaar qaa3 qaa4 qaae qabh SOp.run SX.ev putd puts argS upds SOp.touch SSt.keep SSt.skip gets geth puth delh idOf SV.cells? setL qac5 qac6 sbin eq0 eq1 eqL qac2 qaby qab0 qaa2 qaa1 qaac qaa7 qabi qaaj qaad FrzOk qaav qaan qaat qaau qaaf qaam qaa8 qaao qaah qaaw qaag frzS frzH frz frz1 frz0 SlotsM ObjsM ObjM rn ren ren1 ren0 qabk qabw qabz qabj qaa9 qabx qab1 CoL qaax qabr dels adds idsH qabc
section
attribute [local simp] qaaa nums
theorem qaev {X : Cx} {sl : Sl} {hp : Hp} {t nx : Nat} {v r : SV} {I : AbsI} (hm : X.m = 1) (hv : v = r) (hN : NoN r) (h : geth hp 0 = some (.abs I)) : QFun X [.tmp t] 1 r [(0, .abs I)] .ret ⟨(t, v) :: sl, hp, nx⟩ := by
 subst hv;have hw : Wk X ⟨(t, v) :: sl, hp, nx⟩ ⟨[(t, v)], [(0, .abs I)], 1⟩ := by
  refine qabd [] hm ⟨?_, trivial⟩ ⟨⟨_, h, rfl⟩, trivial⟩ rfl (by simp);rw [hN]; simp only [gets, if_true]; exact Co.refl _
 exact ⟨_, hw, by simp [qafc, resL, resV, one_, gets], ⟨rfl, trivial⟩, by simp⟩
theorem qa1f {X : Cx} {sl : Sl} {hp : Hp} {t u nx id n : Nat} {ty : TypeId} {cs ds : List SV} {v r : SV} {I : AbsI} (hm : X.m = 1) (hid : 1 ≤ id) (hne : t ≠ u) (hv : gets sl t = v) (hN : NoN v) (hu : gets sl u = .ptr id 0) (h : geth hp id = some (.cells ty cs)) (h0 : geth hp 0 = some (.abs I)) (ha : qag8 X.P ty = some true) (hn : qab8 X.P ty = some n) (hl : ds.length = n) (e : CoL cs ds) (hr : r = .tup [.agg ds, v]) (hd : ∀ σ, ds.map (Go.Proofs.YtalejfkholifpaaGreat.ren σ) = ds) : QFun X [.cell u ty, .tmp t] 1 r [(0, .abs I)] .ret ⟨sl, hp, nx⟩ := by
 subst hr hl;have hw : Wk X ⟨sl, hp, nx⟩ ⟨[(u, .ptr 1 0), (t, v)], [(0, .abs I), (1, .cells ty ds)], 2⟩ := by
  refine qabd [(1, id)] hm ⟨?_, ?_, trivial⟩ ⟨⟨_, h0, rfl⟩, ⟨_, h, rfl, by rw [hd]; exact e⟩, trivial⟩ ?_ (by simp)
  ·rw [hu]; exact Co.refl _
  ·rw [hv, hN]; exact Co.refl _
  ·have a1 : ¬ (0 = id) := by omega
   have a3 : ¬ (id = 0) := by omega
   simp [qabc, diag, idsH, List.range_succ, a1, a3]
 refine ⟨_, hw, ?_, ⟨rfl, trivial⟩, by simp⟩;simp [qafc, resL, resV, one_, gets, ha, SOp.run, SX.ev, geth, hne, hne.symm, hn]
theorem qace {P : Program} {f : FuncId} {args : List SV} {I J : AbsI} {r : SV} (h : SCalls P f (.agg [.ptr 0 0] :: args) [(0, .abs I)] 1 r [(0, .abs J)]) (ha : ∀ σ, args.map (Go.Proofs.YtalejfkholifpaaGreat.ren σ) = args) (hr : ∀ σ, Go.Proofs.YtalejfkholifpaaGreat.ren σ r = r) (hk2 : ok2 r = true) (id q : Nat) (hq : id < q) : SCalls P f (.agg [.ptr id 0] :: args) [(id, .abs I)] q r [(id, .abs J)] := by
 have e0 : sg [id] q 0 = id := rfl;refine qacp [id] h rfl (by simp) (by simp; omega) ?_ ?_ (by simp [idsH]) (hr _).symm hk2 ?_ (by simp [idsH]) (by simp [idsH, e0])
 ·rw [List.map_cons, ha]; simp [Go.Proofs.YtalejfkholifpaaGreat.ren, ren1, ren0, e0]
 ·exact ⟨⟨.abs I, by rw [e0]; simp [geth], rfl⟩, trivial⟩
 ·exact ⟨⟨.abs J, by rw [e0]; simp [geth], rfl⟩, trivial⟩
theorem qa99 (e : Entry) (q : Nat) : SCalls Tryz.prog 83 [.agg (qaaa e)] [] q (.agg (hitc e.act e.args)) [] := by
 refine qabt ?_ (fun _ => rfl) (fun _ => rfl) rfl q;refine yF (N := 8) Tryz.func83 qbj7 ?_;rintro X hP hN hm;unfold qbj7 hitc;repeat' (first | refine yA ?_ | ((refine qare hm rfl ?_ ?_ rfl (CoL.refl _) rfl ?_)) | exact trivial)
 all_goals first | (rw [hP]; with_reducible exact qae5) | (rw [hP]; exact qad3) | (intro σ; rfl) | trace_state
structure EOk (e : Entry) : Prop where
 small : qacd e
 fit : FitE e
 few : e.args.length ≤ 1000
inductive Fin_ where
 | ex (k m : Int) (S : XTab)
 | px (w m n : Int) (E : PE)
 | te (k m : Int) (l : List Entry)
def Fin_.I : Fin_ → AbsI
 | .ex k m S => xA k m S
 | .px w m n E => pT w m n E
 | .te k m l => qad1 (some (k, m)) l
def Fin_.k : Fin_ → Int
 | .ex k _ _ => k
 | .px _ _ _ _ => 1
 | .te k _ _ => k
def Fin_.m : Fin_ → Int
 | .ex _ m _ => m
 | .px _ m _ _ => m
 | .te _ m _ => m
def Fin_.kind : Fin_ → Int
 | .ex _ _ _ => 1
 | .px _ _ _ _ => 2
 | .te _ _ _ => 3
def Fin_.cnt : Fin_ → Int
 | .ex _ _ S => Go.Proofs.YtalejfkholifpaaGreat.cnt S
 | .px _ _ n _ => n
 | .te _ _ l => l.length
def Fin_.Inv : Fin_ → Prop
 | .ex k m S => XInv k m S ∧ 0 ≤ m ∧ m ≤ 16 ∧ (Go.Proofs.YtalejfkholifpaaGreat.cnt S : Int) ≤ m
 | .px w m n E => okWd w ∧ PInv w.toNat n E ∧ 0 ≤ m ∧ m ≤ 16 ∧ n ≤ m
 | .te k m l => TInv k l ∧ 0 ≤ m ∧ m ≤ 16 ∧ (l.length : Int) ≤ m
def Fin_.addV : Fin_ → Entry → Int
 | .ex k m S, e => qap5 k m S e.keys
 | .px w m n E, e => qach w m n E (kof e) e.len
 | .te k m l, e => Go.Proofs.YtalejfkholifpaaGreat.addV k m l e
def Fin_.add : Fin_ → Entry → Fin_
 | .ex k m S, e => .ex k m (addX k m S ⟨e.keys, e.act, e.args⟩)
 | .px w m n E, e => .px w m (qafx w m n E (kof e) e.len) (qaf6 w m n E (kof e) e.len e.act e.args)
 | .te k m l, e => .te k m (addR k m l e)
def Fin_.chgV : Fin_ → Entry → Int
 | .ex k _ S, e => qaig k S e.keys
 | .px w _ _ E, e => qac0 w E (kof e) e.len
 | .te k _ l, e => dropV k l e
def Fin_.chg : Fin_ → Entry → Fin_
 | .ex k m S, e => .ex k m (chgX k S ⟨e.keys, e.act, e.args⟩)
 | .px w m n E, e => .px w m n (qahk w E (kof e) e.len e.act e.args)
 | .te k m l, e => .te k m (chgR k l e)
def Fin_.dropV : Fin_ → Entry → Int
 | .ex k _ S, e => qaig k S e.keys
 | .px w _ _ E, e => qab5 w E (kof e) e.len
 | .te k _ l, e => Go.Proofs.YtalejfkholifpaaGreat.dropV k l e
def Fin_.drop : Fin_ → Entry → Fin_
 | .ex k m S, e => .ex k m (drpX k S e.keys)
 | .px w m n E, e => .px w m (qad0 w n E (kof e) e.len) (qaer w E (kof e) e.len)
 | .te k m l, e => .te k m (qave k l e)
def Fin_.find : Fin_ → List Int → Option (Int × List Int)
 | .ex k _ S, xs => (qaib k S xs).map fun s => (s.act, s.args)
 | .px w _ _ E, xs => (qac9 w E (el xs 0)).map fun x => (x.2.1, x.2.2)
 | .te k _ l, xs => (qal1 k l xs).map fun e => (e.act, e.args)
def Fin_.all : Fin_ → List Entry
 | .ex _ _ S => (qal4 S).map entE
 | .px w _ _ E => allT w E
 | .te _ _ l => qain l
def qakk (o : Option (Int × List Int)) : SV := .tup [.agg (hitc (o.map (·.1) |>.getD 0) (o.map (·.2) |>.getD [])), .bool o.isSome]
theorem qaj3 (o : Option (Int × List Int)) (σ : Nat → Nat) : Go.Proofs.YtalejfkholifpaaGreat.ren σ (qakk o) = qakk o := rfl
theorem sxa_s (k m : Int) (S : XTab) (h : XInv k m S) (e : Entry) (he : qacd e) : SCalls Tryz.prog 76 [.agg [.ptr 0 0], .agg (qaaa e)] [(0, .abs (xA k m S))] 1 (.int .i64 (qap5 k m S e.keys)) [(0, .abs (xA k m (addX k m S ⟨e.keys, e.act, e.args⟩)))] := by
 have k1 := fun q => qa99 e q
 have k2 := fun q => xadd_a k m S h e.act e.keys e.args he.1 he.2.2 0 q
 refine yF (N := 12) Tryz.func76 c_sxa ?_;rintro X hP hN hm;unfold c_sxa;repeat' (first | refine yA ?_ | refine qabe (k1 _) ?_ | refine yH (k2 _) ?_ | ((refine qaev hm rfl (fun _ => rfl) rfl)) | exact trivial)
theorem sxc_s (k m : Int) (S : XTab) (h : XInv k m S) (e : Entry) (he : qacd e) : SCalls Tryz.prog 78 [.agg [.ptr 0 0], .agg (qaaa e)] [(0, .abs (xA k m S))] 1 (.int .i64 (qaig k S e.keys)) [(0, .abs (xA k m (chgX k S ⟨e.keys, e.act, e.args⟩)))] := by
 have k1 := fun q => qa99 e q
 have k2 := fun q => xchg_a k m S h e.act e.keys e.args he.1 he.2.2 0 q
 refine yF (N := 12) Tryz.func78 c_sxc ?_;rintro X hP hN hm;unfold c_sxc;repeat' (first | refine yA ?_ | refine qabe (k1 _) ?_ | refine yH (k2 _) ?_ | ((refine qaev hm rfl (fun _ => rfl) rfl)) | exact trivial)
theorem sxd_s (k m : Int) (S : XTab) (h : XInv k m S) (e : Entry) (he : qacd e) : SCalls Tryz.prog 80 [.agg [.ptr 0 0], .agg (qaaa e)] [(0, .abs (xA k m S))] 1 (.int .i64 (qaig k S e.keys)) [(0, .abs (xA k m (drpX k S e.keys)))] := by
 have k2 := fun q => xdrop_a k m S h e.keys he.1 0 q
 refine yF (N := 10) Tryz.func80 c_sxd ?_;rintro X hP hN hm;unfold c_sxd;repeat' (first | refine yA ?_ | refine yH (k2 _) ?_ | ((refine qaev hm rfl (fun _ => rfl) rfl)) | exact trivial)
theorem sxl_s (k m : Int) (S : XTab) (h : XInv k m S) (hmm : m ≤ 1000) : SCalls Tryz.prog 77 [.agg [.ptr 0 0]] [(0, .abs (xA k m S))] 1 (ents ((qal4 S).map entE)) [(0, .abs (xA k m S))] := by
 have k2 := fun q => xall_c k m hmm S h 0 q
 unfold ents at k2 ⊢;refine yF (N := 6) Tryz.func77 c_sxl ?_;rintro X hP hN hm;unfold c_sxl;repeat' (first | refine yA ?_ | refine yH (k2 _) ?_ | ((refine qaev hm rfl (fun _ => rfl) rfl)) | exact trivial)
theorem sxn_s (k m : Int) (S : XTab) : SCalls Tryz.prog 79 [.agg [.ptr 0 0]] [(0, .abs (xA k m S))] 1 (.int .i64 (cnt S)) [(0, .abs (xA k m S))] := by
 have k2 := fun q => xlen_a k m S 0 q
 refine yF (N := 6) Tryz.func79 c_sxn ?_;rintro X hP hN hm;unfold c_sxn;repeat' (first | refine yA ?_ | refine yH (k2 _) ?_ | ((refine qaev hm rfl (fun _ => rfl) rfl)) | exact trivial)
theorem spa_s (w m n : Int) (E : PE) (hw : okWd w) (hn : 0 ≤ n ∧ n ≤ 1000000) (e : Entry) (he : EOk e) (hk : e.keys ≠ []) : SCalls Tryz.prog 116 [.agg [.ptr 0 0], .agg (qaaa e)] [(0, .abs (pT w m n E))] 1 (.int .i64 (qach w m n E (kof e) e.len)) [(0, .abs (pT w m (qafx w m n E (kof e) e.len) (qaf6 w m n E (kof e) e.len e.act e.args)))] := by
 have hw1 := hw.1;have hw2 := hw.2;have hkk := he.fit.kof;have hk0 : e.keys[0]? = some (kof e) := by unfold kof el; rw [if_neg hk]; cases h : e.keys with | nil => exact absurd h hk | cons x l => rfl
 have hlk : 0 < e.keys.length := List.length_pos_iff.2 hk;obtain ⟨hk2, hk1⟩ := List.getElem?_eq_some_iff.1 hk0;clear hk0;have k1 := fun q => qa99 e q
 have k2 := fun q => addT_s w m n E (kof e) e.len e.act e.args (Fits.of_i64 (by omega) (by omega)) hkk he.fit.len he.fit.act he.fit.args he.small.2.2 hn 0 q
 refine yF (N := 16) Tryz.func116 c_spa ?_;rintro X hP hN hm;unfold c_spa;repeat' (first | refine yA ?_ | refine qabe (k1 _) ?_ | refine yH (k2 _) ?_ | ((refine qaev hm rfl (fun _ => rfl) rfl)) | exact trivial)
theorem spc_s (w m n : Int) (E : PE) (hw : okWd w) (e : Entry) (he : EOk e) (hk : e.keys ≠ []) : SCalls Tryz.prog 118 [.agg [.ptr 0 0], .agg (qaaa e)] [(0, .abs (pT w m n E))] 1 (.int .i64 (qac0 w E (kof e) e.len)) [(0, .abs (pT w m n (qahk w E (kof e) e.len e.act e.args)))] := by
 have hw1 := hw.1;have hw2 := hw.2;have hkk := he.fit.kof;have hk0 : e.keys[0]? = some (kof e) := by unfold kof el; rw [if_neg hk]; cases h : e.keys with | nil => exact absurd h hk | cons x l => rfl
 have hlk : 0 < e.keys.length := List.length_pos_iff.2 hk;obtain ⟨hk2, hk1⟩ := List.getElem?_eq_some_iff.1 hk0;clear hk0;have k1 := fun q => qa99 e q
 have k2 := fun q => chgT_s w m n E (kof e) e.len e.act e.args (Fits.of_i64 (by omega) (by omega)) hkk he.fit.len he.fit.act he.fit.args he.small.2.2 0 q
 refine yF (N := 16) Tryz.func118 c_spc ?_;rintro X hP hN hm;unfold c_spc;repeat' (first | refine yA ?_ | refine qabe (k1 _) ?_ | refine yH (k2 _) ?_ | ((refine qaev hm rfl (fun _ => rfl) rfl)) | exact trivial)
theorem spd_s (w m n : Int) (E : PE) (hw : okWd w) (hn : 0 ≤ n ∧ n ≤ 1000000) (e : Entry) (he : EOk e) (hk : e.keys ≠ []) : SCalls Tryz.prog 120 [.agg [.ptr 0 0], .agg (qaaa e)] [(0, .abs (pT w m n E))] 1 (.int .i64 (qab5 w E (kof e) e.len)) [(0, .abs (pT w m (qad0 w n E (kof e) e.len) (qaer w E (kof e) e.len)))] := by
 have hw1 := hw.1;have hw2 := hw.2;have hkk := he.fit.kof;have hk0 : e.keys[0]? = some (kof e) := by unfold kof el; rw [if_neg hk]; cases h : e.keys with | nil => exact absurd h hk | cons x l => rfl
 have hlk : 0 < e.keys.length := List.length_pos_iff.2 hk;obtain ⟨hk2, hk1⟩ := List.getElem?_eq_some_iff.1 hk0;clear hk0;have k2 := fun q => dropT_s w m n E (kof e) e.len (Fits.of_i64 (by omega) (by omega)) hkk he.fit.len ⟨by omega, by omega⟩ 0 q
 refine yF (N := 14) Tryz.func120 c_spd ?_;rintro X hP hN hm;unfold c_spd;repeat' (first | refine yA ?_ | refine yH (k2 _) ?_ | ((refine qaev hm rfl (fun _ => rfl) rfl)) | exact trivial)
theorem spl_s (w m n : Int) (E : PE) (hw : okWd w) (hargs : ∀ i v x, E i v = some x → x.2.length ≤ 1000000) (hlen : (allT w E).length ≤ 1000000) : SCalls Tryz.prog 117 [.agg [.ptr 0 0]] [(0, .abs (pT w m n E))] 1 (ents (allT w E)) [(0, .abs (pT w m n E))] := by
 have hw1 := hw.1;have hw2 := hw.2;have k2 := fun q => allT_s w m n E (Fits.of_i64 (by omega) (by omega)) hargs hlen 0 q
 unfold ents at k2 ⊢;refine yF (N := 6) Tryz.func117 c_spl ?_;rintro X hP hN hm;unfold c_spl;repeat' (first | refine yA ?_ | refine yH (k2 _) ?_ | ((refine qaev hm rfl (fun _ => rfl) rfl)) | exact trivial)
theorem spn_s (w m n : Int) (E : PE) (hw : okWd w) : SCalls Tryz.prog 119 [.agg [.ptr 0 0]] [(0, .abs (pT w m n E))] 1 (.int .i64 n) [(0, .abs (pT w m n E))] := by
 have k2 := fun q => lenT_s w m n E (fun h => absurd hw h) 0 q
 refine yF (N := 6) Tryz.func119 c_spn ?_;rintro X hP hN hm;unfold c_spn;repeat' (first | refine yA ?_ | refine yH (k2 _) ?_ | ((refine qaev hm rfl (fun _ => rfl) rfl)) | exact trivial)
theorem sta_s (k m : Int) (l : List Entry) (h : TInv k l) (hl : l.length < 1000000) (e : Entry) (he : qacd e) : SCalls Tryz.prog 133 [.agg [.ptr 0 0], .agg (qaaa e)] [(0, .abs (qad1 (some (k, m)) l))] 1 (.int .i64 (addV k m l e)) [(0, .abs (qad1 (some (k, m)) (addR k m l e)))] := by
 have k2 := fun q hq => tadd_a k m l e h hl he 0 q hq
 refine yF (N := 9) Tryz.func133 c_sta ?_;rintro X hP hN hm;unfold c_sta;repeat' (first | refine yA ?_ | refine yH (k2 _ (by simp)) ?_ | ((refine qaev hm rfl (fun _ => rfl) rfl)) | exact trivial)
theorem stc_s (k m : Int) (l : List Entry) (h : TInv k l) (hl : l.length < 1000000) (e : Entry) (he : qacd e) : SCalls Tryz.prog 135 [.agg [.ptr 0 0], .agg (qaaa e)] [(0, .abs (qad1 (some (k, m)) l))] 1 (.int .i64 (dropV k l e)) [(0, .abs (qad1 (some (k, m)) (chgR k l e)))] := by
 have k2 := fun q hq => tchg_a k m l e h (Nat.le_of_lt hl) he 0 q hq
 refine yF (N := 9) Tryz.func135 c_stc ?_;rintro X hP hN hm;unfold c_stc;repeat' (first | refine yA ?_ | refine yH (k2 _ (by simp)) ?_ | ((refine qaev hm rfl (fun _ => rfl) rfl)) | exact trivial)
theorem std_s (k m : Int) (l : List Entry) (h : TInv k l) (hl : l.length < 1000000) (e : Entry) (he : qacd e) : SCalls Tryz.prog 137 [.agg [.ptr 0 0], .agg (qaaa e)] [(0, .abs (qad1 (some (k, m)) l))] 1 (.int .i64 (dropV k l e)) [(0, .abs (qad1 (some (k, m)) (qave k l e)))] := by
 have k2 := fun q hq => tdrop_a k m l e h (Nat.le_of_lt hl) he 0 q hq
 refine yF (N := 9) Tryz.func137 c_std ?_;rintro X hP hN hm;unfold c_std;repeat' (first | refine yA ?_ | refine yH (k2 _ (by simp)) ?_ | ((refine qaev hm rfl (fun _ => rfl) rfl)) | exact trivial)
theorem stl_s (k m : Int) (l : List Entry) (h : TInv k l) (hl : l.length < 1000000) : SCalls Tryz.prog 134 [.agg [.ptr 0 0]] [(0, .abs (qad1 (some (k, m)) l))] 1 (ents (qain l)) [(0, .abs (qad1 (some (k, m)) l))] := by
 have k2 := fun q => tall_a k m l h (Nat.le_of_lt hl) 0 q
 unfold ents at k2 ⊢;refine yF (N := 6) Tryz.func134 c_stl ?_;rintro X hP hN hm;unfold c_stl;repeat' (first | refine yA ?_ | refine yH (k2 _) ?_ | ((refine qaev hm rfl (fun _ => rfl) rfl)) | exact trivial)
theorem stn_s (k m : Int) (l : List Entry) : SCalls Tryz.prog 136 [.agg [.ptr 0 0]] [(0, .abs (qad1 (some (k, m)) l))] 1 (.int .i64 l.length) [(0, .abs (qad1 (some (k, m)) l))] := by
 have k2 := fun q => tlen_a k m l 0 q
 refine yF (N := 6) Tryz.func136 c_stn ?_;rintro X hP hN hm;unfold c_stn;repeat' (first | refine yA ?_ | refine yH (k2 _) ?_ | ((refine qaev hm rfl (fun _ => rfl) rfl)) | exact trivial)
theorem sxf_s (k m : Int) (S : XTab) (h : XInv k m S) (xs : List Int) (hx : xs.length ≤ 1000000) : SCalls Tryz.prog 81 [.agg [.ptr 0 0], nums .u64 xs] [(0, .abs (xA k m S))] 1 (qakk ((qaib k S xs).map fun s => (s.act, s.args))) [(0, .abs (xA k m S))] := by
 have k2 := fun q => xfind_a k m S h xs hx 0 q
 cases hf : qaib k S xs <;> rw [hf] at k2
 all_goals
  unfold qau9 at k2;unfold qakk hitc
  (try unfold hitc at k2); (try unfold qacc at k2); dsimp only at k2
  refine yF (N := 12) Tryz.func81 c_sxf ?_;rintro X hP hN hm;unfold c_sxf;repeat' (first | refine yA ?_ | refine yH (k2 _) ?_ | ((refine qa1f hm (by decide) (by decide) rfl (fun _ => rfl) rfl rfl rfl (by rw [hP]; exact qae5) (by rw [hP]; exact qad3) rfl (CoL.refl _) rfl (fun _ => rfl))) | exact trivial)
theorem stf_s (k m : Int) (l : List Entry) (h : TInv k l) (hl : l.length < 1000000) (xs : List Int) (hx : xs.length ≤ 1000000) : SCalls Tryz.prog 138 [.agg [.ptr 0 0], nums .u64 xs] [(0, .abs (qad1 (some (k, m)) l))] 1 (qakk ((qal1 k l xs).map fun e => (e.act, e.args))) [(0, .abs (qad1 (some (k, m)) l))] := by
 have k2 := fun q => tfind_a k m l xs h (Nat.le_of_lt hl) hx 0 q
 cases hf : qal1 k l xs <;> rw [hf] at k2
 all_goals
  unfold qayz at k2;unfold qakk hitc
  (try unfold hitc at k2); (try unfold qacc at k2); dsimp only at k2
  refine yF (N := 12) Tryz.func138 c_stf ?_;rintro X hP hN hm;unfold c_stf;repeat' (first | refine yA ?_ | refine yH (k2 _) ?_ | ((refine qa1f hm (by decide) (by decide) rfl (fun _ => rfl) rfl rfl rfl (by rw [hP]; exact qae5) (by rw [hP]; exact qad3) rfl (CoL.refl _) rfl (fun _ => rfl))) | exact trivial)
theorem spf_s (w m n : Int) (E : PE) (hw : okWd w) (hargs : ∀ i v x, E i v = some x → x.2.length ≤ 1000000) (xs : List Int) (hx : xs ≠ []) (hf0 : Fits .u64 (el xs 0)) : SCalls Tryz.prog 121 [.agg [.ptr 0 0], nums .u64 xs] [(0, .abs (pT w m n E))] 1 (qakk ((qac9 w E (el xs 0)).map fun x => (x.2.1, x.2.2))) [(0, .abs (pT w m n E))] := by
 have hw1 := hw.1;have hw2 := hw.2;have hx0 : xs[0]? = some (el xs 0) := by cases xs with | nil => exact absurd rfl hx | cons x l => rfl
 have hlk : 0 < xs.length := List.length_pos_iff.2 hx;have k2 := fun q => findT_s w m n E (el xs 0) (Fits.of_i64 (by omega) (by omega)) hf0 hargs 0 q
 generalize qac9 w E (el xs 0) = F at k2 ⊢;generalize el xs 0 = x0 at *;obtain ⟨hx2, hx1⟩ := List.getElem?_eq_some_iff.1 hx0;clear hx0;unfold qbm3 qacc at k2;cases F
 all_goals
  unfold qakk hitc;simp only [fAct, qbbf, fLen] at k2;refine yF (N := 21) Tryz.func121 c_spf ?_;rintro X hP hN hm;unfold c_spf;repeat' (first | refine yA ?_ | refine yH (k2 _) ?_ | ((refine qa1f hm (by decide) (by decide) rfl (fun _ => rfl) rfl rfl rfl (by rw [hP]; exact qae5) (by rw [hP]; exact qad3) rfl (CoL.refl _) rfl (fun _ => rfl))) | exact trivial)
end
section
attribute [local simp] qaaa nums
def Fin_.ty : Fin_ → TypeId
 | .ex _ _ _ => 80
 | .px _ _ _ _ => 84
 | .te _ _ _ => 88
def Fin_.fadd : Fin_ → FuncId
 | .ex _ _ _ => 76
 | .px _ _ _ _ => 116
 | .te _ _ _ => 133
def Fin_.fchg : Fin_ → FuncId
 | .ex _ _ _ => 78
 | .px _ _ _ _ => 118
 | .te _ _ _ => 135
def Fin_.fdrop : Fin_ → FuncId
 | .ex _ _ _ => 80
 | .px _ _ _ _ => 120
 | .te _ _ _ => 137
def Fin_.ffind : Fin_ → FuncId
 | .ex _ _ _ => 81
 | .px _ _ _ _ => 121
 | .te _ _ _ => 138
def Fin_.fall : Fin_ → FuncId
 | .ex _ _ _ => 77
 | .px _ _ _ _ => 117
 | .te _ _ _ => 134
def Fin_.fcnt : Fin_ → FuncId
 | .ex _ _ _ => 79
 | .px _ _ _ _ => 119
 | .te _ _ _ => 136
theorem sm_1 : qacg Tryz.prog 80 "shuntyard/store.add" = some (some (76, false)) := by kernel_rfl
theorem sm_2 : qacg Tryz.prog 84 "shuntyard/store.add" = some (some (116, false)) := by kernel_rfl
theorem sm_3 : qacg Tryz.prog 88 "shuntyard/store.add" = some (some (133, false)) := by kernel_rfl
theorem sc_1 : qacg Tryz.prog 80 "shuntyard/store.change" = some (some (78, false)) := by kernel_rfl
theorem sc_2 : qacg Tryz.prog 84 "shuntyard/store.change" = some (some (118, false)) := by kernel_rfl
theorem sc_3 : qacg Tryz.prog 88 "shuntyard/store.change" = some (some (135, false)) := by kernel_rfl
theorem sd_1 : qacg Tryz.prog 80 "shuntyard/store.drop" = some (some (80, false)) := by kernel_rfl
theorem sd_2 : qacg Tryz.prog 84 "shuntyard/store.drop" = some (some (120, false)) := by kernel_rfl
theorem sd_3 : qacg Tryz.prog 88 "shuntyard/store.drop" = some (some (137, false)) := by kernel_rfl
theorem sf_1 : qacg Tryz.prog 80 "shuntyard/store.find" = some (some (81, false)) := by kernel_rfl
theorem sf_2 : qacg Tryz.prog 84 "shuntyard/store.find" = some (some (121, false)) := by kernel_rfl
theorem sf_3 : qacg Tryz.prog 88 "shuntyard/store.find" = some (some (138, false)) := by kernel_rfl
theorem sa_1 : qacg Tryz.prog 80 "shuntyard/store.all" = some (some (77, false)) := by kernel_rfl
theorem sa_2 : qacg Tryz.prog 84 "shuntyard/store.all" = some (some (117, false)) := by kernel_rfl
theorem sa_3 : qacg Tryz.prog 88 "shuntyard/store.all" = some (some (134, false)) := by kernel_rfl
theorem sn_1 : qacg Tryz.prog 80 "shuntyard/store.count" = some (some (79, false)) := by kernel_rfl
theorem sn_2 : qacg Tryz.prog 84 "shuntyard/store.count" = some (some (119, false)) := by kernel_rfl
theorem sn_3 : qacg Tryz.prog 88 "shuntyard/store.count" = some (some (136, false)) := by kernel_rfl
theorem sp_1 : qa04 Tryz.prog 80 = some none := by kernel_rfl
theorem sp_2 : qa04 Tryz.prog 84 = some none := by kernel_rfl
theorem sp_3 : qa04 Tryz.prog 88 = some none := by kernel_rfl
attribute [local irreducible] qacg qa04
theorem qbmm (F : Fin_) {g : Nat → Option SObj} {x : SV} : Meth Tryz.prog g F.ty x "shuntyard/store.add" F.fadd x := by cases F; (exact qac7 sm_1 sp_1); (exact qac7 sm_2 sp_2); (exact qac7 sm_3 sp_3)
theorem qbmk (F : Fin_) {g : Nat → Option SObj} {x : SV} : Meth Tryz.prog g F.ty x "shuntyard/store.change" F.fchg x := by cases F; (exact qac7 sc_1 sp_1); (exact qac7 sc_2 sp_2); (exact qac7 sc_3 sp_3)
theorem qbax (F : Fin_) {g : Nat → Option SObj} {x : SV} : Meth Tryz.prog g F.ty x "shuntyard/store.drop" F.fdrop x := by cases F; (exact qac7 sd_1 sp_1); (exact qac7 sd_2 sp_2); (exact qac7 sd_3 sp_3)
theorem qasv (F : Fin_) {g : Nat → Option SObj} {x : SV} : Meth Tryz.prog g F.ty x "shuntyard/store.find" F.ffind x := by cases F; (exact qac7 sf_1 sp_1); (exact qac7 sf_2 sp_2); (exact qac7 sf_3 sp_3)
theorem qbml (F : Fin_) {g : Nat → Option SObj} {x : SV} : Meth Tryz.prog g F.ty x "shuntyard/store.all" F.fall x := by cases F; (exact qac7 sa_1 sp_1); (exact qac7 sa_2 sp_2); (exact qac7 sa_3 sp_3)
theorem qbmj (F : Fin_) {g : Nat → Option SObj} {x : SV} : Meth Tryz.prog g F.ty x "shuntyard/store.count" F.fcnt x := by cases F; (exact qac7 sn_1 sp_1); (exact qac7 sn_2 sp_2); (exact qac7 sn_3 sp_3)
theorem qbp1 {w n : Int} {E : PE} (hw : okWd w) (h : PInv w.toNat n E) : n = ((allT w E).length : Int) := by
 unfold allT; rw [if_pos hw]; exact h.cnt
theorem pargs {W : Nat} {n : Int} {E : PE} (h : PInv W n E) : ∀ i v x, E i v = some x → x.2.length ≤ 1000000 := fun i v x hx => by have := (h.ok i v x hx).2.2.2.1; omega
theorem fin_add (F : Fin_) (hF : F.Inv) (e : Entry) (he : EOk e) (hk : (e.keys.length : Int) = F.k) (id q : Nat) (hq : id < q) : SCalls Tryz.prog F.fadd [.agg [.ptr id 0], .agg (qaaa e)] [(id, .abs F.I)] q (.int .i64 (F.addV e)) [(id, .abs (F.add e).I)] := by
 cases F with
 | ex k m S => exact qace (sxa_s k m S hF.1 e he.small) (fun _ => rfl) (fun _ => rfl) rfl id q hq
 | px w m n E =>
  obtain ⟨h1, h2, h3, h4, h5⟩ := hF;exact qace (spa_s w m n E h1 ⟨by rw [h2.cnt]; omega, by omega⟩ e he (fun h => by rw [h] at hk; simp [Fin_.k] at hk)) (fun _ => rfl) (fun _ => rfl) rfl id q hq
 | te k m l => exact qace (sta_s k m l hF.1 (by have := hF.2; omega) e he.small) (fun _ => rfl) (fun _ => rfl) rfl id q hq
theorem fin_chg (F : Fin_) (hF : F.Inv) (e : Entry) (he : EOk e) (hk : (e.keys.length : Int) = F.k) (id q : Nat) (hq : id < q) : SCalls Tryz.prog F.fchg [.agg [.ptr id 0], .agg (qaaa e)] [(id, .abs F.I)] q (.int .i64 (F.chgV e)) [(id, .abs (F.chg e).I)] := by
 cases F with
 | ex k m S => exact qace (sxc_s k m S hF.1 e he.small) (fun _ => rfl) (fun _ => rfl) rfl id q hq
 | px w m n E => exact qace (spc_s w m n E hF.1 e he (fun h => by rw [h] at hk; simp [Fin_.k] at hk)) (fun _ => rfl) (fun _ => rfl) rfl id q hq
 | te k m l => exact qace (stc_s k m l hF.1 (by have := hF.2; omega) e he.small) (fun _ => rfl) (fun _ => rfl) rfl id q hq
theorem qbm6 (F : Fin_) (hF : F.Inv) (e : Entry) (he : EOk e) (hk : (e.keys.length : Int) = F.k) (id q : Nat) (hq : id < q) : SCalls Tryz.prog F.fdrop [.agg [.ptr id 0], .agg (qaaa e)] [(id, .abs F.I)] q (.int .i64 (F.dropV e)) [(id, .abs (F.drop e).I)] := by
 cases F with
 | ex k m S => exact qace (sxd_s k m S hF.1 e he.small) (fun _ => rfl) (fun _ => rfl) rfl id q hq
 | px w m n E =>
  obtain ⟨h1, h2, h3, h4, h5⟩ := hF;exact qace (spd_s w m n E h1 ⟨by rw [h2.cnt]; omega, by omega⟩ e he (fun h => by rw [h] at hk; simp [Fin_.k] at hk)) (fun _ => rfl) (fun _ => rfl) rfl id q hq
 | te k m l => exact qace (std_s k m l hF.1 (by have := hF.2; omega) e he.small) (fun _ => rfl) (fun _ => rfl) rfl id q hq
theorem qbm5 (F : Fin_) (hF : F.Inv) (xs : List Int) (hx : xs.length ≤ 1000000) (hf : AllFit .u64 xs) (hk : (xs.length : Int) = F.k) (id q : Nat) (hq : id < q) : SCalls Tryz.prog F.ffind [.agg [.ptr id 0], nums .u64 xs] [(id, .abs F.I)] q (qakk (F.find xs)) [(id, .abs F.I)] := by
 cases F with
 | ex k m S => exact qace (sxf_s k m S hF.1 xs hx) (fun _ => rfl) (fun σ => qaj3 _ σ) rfl id q hq
 | px w m n E =>
  have h0 : xs ≠ [] := fun h => by rw [h] at hk; simp [Fin_.k] at hk
  exact qace (spf_s w m n E hF.1 (pargs hF.2.1) xs h0 (by unfold el; cases xs with | nil => exact absurd rfl h0 | cons x l => exact hf x (by simp))) (fun _ => rfl) (fun σ => qaj3 _ σ) rfl id q hq
 | te k m l => exact qace (stf_s k m l hF.1 (by have := hF.2; omega) xs hx) (fun _ => rfl) (fun σ => qaj3 _ σ) rfl id q hq
theorem fin_all (F : Fin_) (hF : F.Inv) (id q : Nat) (hq : id < q) : SCalls Tryz.prog F.fall [.agg [.ptr id 0]] [(id, .abs F.I)] q (ents F.all) [(id, .abs F.I)] := by
 cases F with
 | ex k m S => exact qace (sxl_s k m S hF.1 (by have := hF.2; omega)) (fun _ => rfl) (fun σ => rfl) rfl id q hq
 | px w m n E =>
  have h2 := qbp1 hF.1 hF.2.1;have h3 := hF.2.2;exact qace (spl_s w m n E hF.1 (pargs hF.2.1) (by omega)) (fun _ => rfl) (fun σ => rfl) rfl id q hq
 | te k m l => exact qace (stl_s k m l hF.1 (by have := hF.2; omega)) (fun _ => rfl) (fun σ => rfl) rfl id q hq
theorem fin_cnt (F : Fin_) (hF : F.Inv) (id q : Nat) (hq : id < q) : SCalls Tryz.prog F.fcnt [.agg [.ptr id 0]] [(id, .abs F.I)] q (.int .i64 F.cnt) [(id, .abs F.I)] := by
 cases F with
 | ex k m S => exact qace (sxn_s k m S) (fun _ => rfl) (fun σ => rfl) rfl id q hq
 | px w m n E => exact qace (spn_s w m n E hF.1) (fun _ => rfl) (fun σ => rfl) rfl id q hq
 | te k m l => exact qace (stn_s k m l) (fun _ => rfl) (fun σ => rfl) rfl id q hq
structure StoD where
 F : Fin_
 t : TabD
 w : List Int
 acts : List ActD
 da : Int
 dl : List Int
def scs (s : StoD) (j : Nat) : List SV := .ifc s.F.ty (.agg [.ptr j 0]) :: (tabc s.t ++ [nums .i64 s.w, .view 2 (s.acts.map actc), .int .i64 s.da, nums .u64 s.dl])
def qacm (s : StoD) (i j : Nat) : Hp := [(i, .cells 76 (scs s j)), (j, .abs s.F.I)]
theorem qagu {f : FuncId} {args : List SV} {s s' : StoD} {r : SV} (h : SCalls Tryz.prog f (.ptr 0 0 :: args) (qacm s 0 1) 2 r (qacm s' 0 1)) (ha : ∀ σ, args.map (Go.Proofs.YtalejfkholifpaaGreat.ren σ) = args) (hr : ∀ σ, Go.Proofs.YtalejfkholifpaaGreat.ren σ r = r) (hk : ok2 r = true) (i j q : Nat) (hij : i ≠ j) (hi : i < q) (hj : j < q) : SCalls Tryz.prog f (.ptr i 0 :: args) (qacm s i j) q r (qacm s' i j) := by
 have e0 : sg [i, j] q 0 = i := rfl;have e1 : sg [i, j] q 1 = j := rfl;have e : ∀ s : StoD, (scs s 1).map (Go.Proofs.YtalejfkholifpaaGreat.ren (sg [i, j] q)) = scs s j := fun s => by simp [scs, tabc, Go.Proofs.YtalejfkholifpaaGreat.ren, ren1, ren0, renA, renB, e1]
 refine qacp [i, j] h rfl (by simp [hij]) (by simp; omega) ?_ ?_ (by simp [idsH, qacm]) (hr _).symm hk ?_ (by simp [idsH, qacm]) (by simp [idsH, qacm, e0, e1])
 ·rw [List.map_cons, ha]; simp [Go.Proofs.YtalejfkholifpaaGreat.ren, ren1, ren0, e0]
 ·exact ⟨⟨.cells _ (scs s j), by rw [e0]; simp [geth, qacm], rfl, by rw [e]; exact CoL.refl _⟩, ⟨.abs s.F.I, by rw [e1]; simp [geth, qacm, hij], rfl⟩, trivial⟩
 ·exact ⟨⟨.cells _ (scs s' j), by rw [e0]; simp [geth, qacm], rfl, rfl, (e _).symm⟩, ⟨.abs s'.F.I, by rw [e1]; simp [geth, qacm, hij], rfl⟩, trivial⟩
end
section
attribute [local simp] qaaa nums
structure StOk (s : StoD) : Prop where
 inv : s.F.Inv
 kind : s.t.kind = s.F.kind
 k : (s.w.length : Int) = s.F.k
 m : s.t.cap = s.F.m
 wd : ∀ x ∈ s.w, 1 ≤ x ∧ x ≤ 48
 wl : s.w.length ≤ 3
 aw : AW s.acts
 ta : ∀ k ∈ s.t.acts, 0 ≤ k ∧ k < s.acts.length
 tl : s.t.acts.length ≤ 1000000
 dl : s.dl.length ≤ 1000000
def qaex (s : StoD) (e : Entry) : Int :=
 if e.keys.length ≠ s.w.length ∨ (s.t.kind = 3 ∧ e.masks.length ≠ s.w.length) then 2
 else if (s.t.kind ≠ 3 ∧ (0 < e.masks.length ∨ e.prio ≠ 0)) ∨ (s.t.kind ≠ 2 ∧ e.len ≠ 0) then 4
 else if qacf e.keys s.w = true ∨ (s.t.kind = 3 ∧ qacf e.masks s.w = true) then 6 else 0
theorem qazb (s : StoD) {σ : Nat → Nat} (h : σ 1 = 1) : (scs s 1).map (Go.Proofs.YtalejfkholifpaaGreat.ren σ) = scs s 1 := by simp [scs, tabc, Go.Proofs.YtalejfkholifpaaGreat.ren, ren1, ren0, renA, renB, h]
theorem qael {X : Cx} {sl : Sl} {hp : Hp} {t nx : Nat} {v r : SV} {cs : List SV} {s : StoD} (hm : X.m = 2) (hv : v = r) (hN : NoN r) (h0 : geth hp 0 = some (.cells 76 cs)) (hcs : CoL cs (scs s 1)) (h1 : geth hp 1 = some (.abs s.F.I)) : QFun X [.tmp t] 2 r (qacm s 0 1) .ret ⟨(t, v) :: sl, hp, nx⟩ := by
 subst hv;have hw : Wk X ⟨(t, v) :: sl, hp, nx⟩ ⟨[(t, v)], qacm s 0 1, 2⟩ := by
  refine qabd [] hm ⟨?_, trivial⟩ ⟨⟨_, h0, rfl, ?_⟩, ⟨_, h1, rfl⟩, trivial⟩ rfl (by simp)
  ·rw [hN]; simp only [gets, if_true]; exact Co.refl _
  ·rw [qazb s (by rfl)]; exact hcs
 exact ⟨_, hw, by simp [qafc, resL, resV, one_, gets], ⟨rfl, rfl, trivial⟩, by simp⟩
theorem qbi4 (s : StoD) (hs : StOk s) (xs : List Int) (hx : xs.length = s.w.length) : SCalls Tryz.prog 38 [.ptr 0 0, nums .u64 xs] (qacm s 0 1) 2 (.bool (!qacf xs s.w)) (qacm s 0 1) := by
 have hwl := hs.wl;refine yF (N := 25) Tryz.func38 qbkb ?_;rintro X hP hN hm;obtain ⟨F, hF⟩ : ∃ F, F = !qacf xs s.w := ⟨_, rfl⟩
 rw [← hF];have hwd := Lib.hid hs.wd;replace hF := Lib.hid hF;replace hx := Lib.hid hx;unfold qbkb qacm scs tabc;repeat' (first | (with_reducible refine zA ?_) | ((with_reducible refine qaab ?_); (try rw [hP]); simp -implicitDefEqProofs [*]) | fail)
 refine qabf (qaco (fun st (i : Nat) => st.turn [(9, .int .i64 i)] []) (fun i => i ≤ xs.length ∧ F = !qacf (xs.drop i) (s.w.drop i)) (fun i => xs.length - i) 0 ?_ ⟨by simp, hF.out⟩ ?_)
 ·repeat' (first | ((with_reducible refine qabd [] hm ?_ ?_ ?_ ?_) <;> (try simp only [zT, puth, Nat.reduceEqDiff, reduceIte, Nat.reduceAdd])) | (with_reducible first | refine za ?_ ?_ | refine zb ?_ ?_ ?_ ?_ | refine qamc ?_ ?_) | (with_reducible first | exact qaep | exact qafr) | ((with_reducible first | refine zga ?_ | refine zgb ?_); rfl) | ((with_reducible refine zgd ?_); (first | omega | (simp; done))) | (exact Co.refl _) | (exact CoL.refl _) | fail)
 rintro J hJ i ⟨h1, h2⟩;unfold qaoz;simp only [zT, puth, Nat.reduceEqDiff, reduceIte, Nat.reduceAdd] at h1 h2 ⊢;have hxl := hx.out;rcases Nat.lt_or_ge i xs.length with hi | hi
 ·have hi2 : i < s.w.length := by omega
  rw [qafl hi hi2] at h2;have hww := hwd.out _ (List.getElem_mem hi2);have hms := fun q => mask_w s.w[i] (Fits.of_i64 (by omega) (by omega)) q
  generalize hw : s.w[i] = w at h2 hms hww;generalize hxi : xs[i] = x at h2;have wi : IntKind.i64.wrap ((i : Int) + 1) = (i : Int) + 1 := qabo (by omega) (by omega);replace h2 := Lib.hid h2;clear hwd;cases hv : qaja x w
  ·unfold qaja at hv;repeat' (first | (with_reducible first | refine zA ?_ | refine qabg ?_) | ((with_reducible refine qaab ?_); (try rw [hP]); simp -implicitDefEqProofs [*]) | ((with_reducible refine qaai ?_); (try simp -implicitDefEqProofs [*])) | ((with_reducible refine qaap rfl (fun h => ?_) (fun h => ?_)) <;> have h' := h <;> (try simp at h') <;> (try subst h')) | (refine qabe (hms _) ?_; simp -implicitDefEqProofs [*]) | (with_reducible first | refine za ?_ ?_ | refine zb ?_ ?_ ?_ ?_ | refine qamc ?_ ?_) | (with_reducible first | exact qaep | exact qafr) | ((with_reducible first | refine zga ?_ | refine zgb ?_); rfl) | ((with_reducible first | refine zgd ?_ | refine zge ?_); (first | omega | (simp; done))) | (exact Co.refl _) | (exact CoL.refl _) | (refine qabw ?_; first | omega | (simp_all; done)) | ((refine qabs hJ (i + 1) ?_ ?_ ?_; (with_reducible refine qabd [] hm ?_ ?_ ?_ ?_) <;> (try simp only [zT, puth, Nat.reduceEqDiff, reduceIte, Nat.reduceAdd]))) | fail)
   refine ⟨by omega, ?_⟩;rw [h2.out, show qaja x w = false from hv, Bool.false_or]
  ·unfold qaja at hv;repeat' (first | (with_reducible first | refine zA ?_ | refine qabg ?_) | ((with_reducible refine qaab ?_); (try rw [hP]); simp -implicitDefEqProofs [*]) | ((with_reducible refine qaai ?_); (try simp -implicitDefEqProofs [*])) | ((with_reducible refine qaba ?_); (try simp only [qaa2, qaac, qaaj])) | ((with_reducible refine qaap rfl (fun h => ?_) (fun h => ?_)) <;> have h' := h <;> (try simp at h') <;> (try subst h')) | (refine qabe (hms _) ?_; simp -implicitDefEqProofs [*]) | ((refine qael hm ?_ (fun _ => rfl) rfl (CoL.refl _) rfl)) | fail)
   rw [h2.out, show qaja x w = true from hv]; rfl
 ·obtain rfl : i = xs.length := by omega
  rw [List.drop_length] at h2;replace h2 := Lib.hid h2;repeat' (first | (with_reducible refine zA ?_) | ((with_reducible refine qaab ?_); (try rw [hP]); simp -implicitDefEqProofs [*]) | ((with_reducible refine qabv ?_); (try simp -implicitDefEqProofs [*])) | ((with_reducible refine qaba ?_); (try simp only [qaa2, qaac, qaaj])) | ((with_reducible refine qaap rfl (fun h => ?_) (fun h => ?_)) <;> have h' := h <;> (try simp at h') <;> (try subst h')) | ((refine qael hm ?_ (fun _ => rfl) rfl (CoL.refl _) rfl)) | fail)
  rw [h2.out]; rfl
theorem qay6 (s : StoD) (hs : StOk s) (e : Entry) : SCalls Tryz.prog 36 [.ptr 0 0, .agg (qaaa e)] (qacm s 0 1) 2 (.int .i64 (qaex s e)) (qacm s 0 1) := by
 have hwl := hs.wl;refine yF (N := 79) Tryz.func36 qbka ?_;rintro X hP hN hm;obtain ⟨F, hF⟩ : ∃ F, F = qaex s e := ⟨_, rfl⟩
 rw [← hF];unfold qaex at hF;have k1 := fun (xs : List Int) (h : xs.length = s.w.length) q hq => qagu (qbi4 s hs xs h) (fun _ => rfl) (fun _ => rfl) rfl 0 1 q (by decide) (by omega) hq
 unfold qacm scs tabc nums at k1;replace k1 := Lib.hid k1;replace hF := Lib.hid hF;unfold qbka qacm scs tabc;by_cases g1 : e.keys.length = s.w.length
 ·have b1 : ((e.keys.length : Int) != s.w.length) = false := by simp [g1]
  by_cases g3 : s.t.kind = 3
  ·have b3 : (s.t.kind == 3) = true := by simp [g3]
   have b2 : (s.t.kind != 2) = true := by simp [g3]
   by_cases g2 : e.masks.length = s.w.length
   ·have b4 : ((e.masks.length : Int) != s.w.length) = false := by simp [g2]
    have c1 := fun q hq => k1.out e.keys g1 q hq
    have c2 := fun q hq => k1.out e.masks g2 q hq
    replace g1 := Lib.hid g1;replace g2 := Lib.hid g2;replace g3 := Lib.hid g3;by_cases g5 : e.len = 0
    ·have b5 : (e.len != 0) = false := by simp [g5]
     replace g5 := Lib.hid g5;cases w1 : qacf e.keys s.w <;> cases w2 : qacf e.masks s.w <;> rw [w1] at c1 <;> rw [w2] at c2
     all_goals
      repeat' (first | (with_reducible first | refine zA ?_ | refine qabg ?_ | refine zK ?_) | ((with_reducible first | refine qaab ?_ | refine qaaz (by rw [hP]; exact mixed) ?_); (try rw [hP]); simp -implicitDefEqProofs [*]) | ((with_reducible refine qaai ?_); (try simp -implicitDefEqProofs [*])) | ((with_reducible refine qaba ?_); (try simp only [qaa2, qaac, qaaj])) | ((with_reducible refine qaap rfl (fun h => ?_) (fun h => ?_)) <;> have h' := h <;> (try simp at h') <;> (try subst h')) | ((first | refine yR (c1 _ (by simp)) ?_ | refine yR (c2 _ (by simp)) ?_); simp -implicitDefEqProofs [*]) | ((refine qael hm ?_ (fun _ => rfl) rfl (CoL.refl _) rfl)) | fail)
      rw [hF.out]; simp [g1.out, g2.out, g3.out, g5.out, w1, w2]
    ·have b5 : (e.len != 0) = true := by simp [g5]
     replace g5 := Lib.hid g5;repeat' (first | (with_reducible first | refine zA ?_ | refine qabg ?_ | refine zK ?_) | ((with_reducible first | refine qaab ?_ | refine qaaz (by rw [hP]; exact mixed) ?_); (try rw [hP]); simp -implicitDefEqProofs [*]) | ((with_reducible refine qaba ?_); (try simp only [qaa2, qaac, qaaj])) | ((with_reducible refine qaap rfl (fun h => ?_) (fun h => ?_)) <;> have h' := h <;> (try simp at h') <;> (try subst h')) | ((refine qael hm ?_ (fun _ => rfl) rfl (CoL.refl _) rfl)) | fail)
     rw [hF.out]; simp [g1.out, g2.out, g3.out, g5.out]
   ·have b4 : ((e.masks.length : Int) != s.w.length) = true := by simp; omega
    replace g1 := Lib.hid g1;replace g2 := Lib.hid g2;replace g3 := Lib.hid g3;repeat' (first | (with_reducible first | refine zA ?_ | refine qabg ?_ | refine zK ?_) | ((with_reducible first | refine qaab ?_ | refine qaaz (by rw [hP]; exact mixed) ?_); (try rw [hP]); simp -implicitDefEqProofs [*]) | ((with_reducible refine qaba ?_); (try simp only [qaa2, qaac, qaaj])) | ((with_reducible refine qaap rfl (fun h => ?_) (fun h => ?_)) <;> have h' := h <;> (try simp at h') <;> (try subst h')) | ((refine qael hm ?_ (fun _ => rfl) rfl (CoL.refl _) rfl)) | fail)
    rw [hF.out]; simp [g1.out, g2.out, g3.out]
  ·have b3 : (s.t.kind == 3) = false := by simp [g3]
   have c1 := fun q hq => k1.out e.keys g1 q hq
   replace g1 := Lib.hid g1;replace g3 := Lib.hid g3;by_cases g4 : e.masks = []
   rotate_left 1
   ·have g5 : 0 < e.masks.length := List.length_pos_iff.2 g4;have b4 : decide (0 < e.masks.length) = true := decide_eq_true g5;replace g5 := Lib.hid g5;repeat' (first | (with_reducible first | refine zA ?_ | refine qabg ?_ | refine zK ?_) | ((with_reducible first | refine qaab ?_ | refine qaaz (by rw [hP]; exact mixed) ?_); (try rw [hP]); simp -implicitDefEqProofs [*]) | ((with_reducible refine qaba ?_); (try simp only [qaa2, qaac, qaaj])) | ((with_reducible refine qaap rfl (fun h => ?_) (fun h => ?_)) <;> have h' := h <;> (try simp at h') <;> (try subst h')) | ((refine qael hm ?_ (fun _ => rfl) rfl (CoL.refl _) rfl)) | fail)
    rw [hF.out]; simp [g1.out, g3.out, g5.out]
   ·by_cases g6 : e.prio = 0
    ·have b6 : (e.prio != 0) = false := by simp [g6]
     replace g6 := Lib.hid g6;by_cases g2 : s.t.kind = 2
     ·have b2 : (s.t.kind != 2) = false := by simp [g2]
      replace g2 := Lib.hid g2;cases w1 : qacf e.keys s.w <;> rw [w1] at c1
      all_goals
       repeat' (first | (with_reducible first | refine zA ?_ | refine qabg ?_ | refine zK ?_) | ((with_reducible first | refine qaab ?_ | refine qaaz (by rw [hP]; exact mixed) ?_); (try rw [hP]); simp -implicitDefEqProofs [*]) | ((with_reducible refine qaai ?_); (try simp -implicitDefEqProofs [*])) | ((with_reducible refine qaba ?_); (try simp only [qaa2, qaac, qaaj])) | ((with_reducible refine qaap rfl (fun h => ?_) (fun h => ?_)) <;> have h' := h <;> (try simp at h') <;> (try subst h')) | (refine yR (c1 _ (by simp)) ?_; simp -implicitDefEqProofs [*]) | ((refine qael hm ?_ (fun _ => rfl) rfl (CoL.refl _) rfl)) | fail)
       rw [hF.out]; simp [g1.out, g2.out, g3.out, g4, g6.out, w1]
     ·have b2 : (s.t.kind != 2) = true := by simp [g2]
      replace g2 := Lib.hid g2;by_cases g5 : e.len = 0
      ·have b5 : (e.len != 0) = false := by simp [g5]
       replace g5 := Lib.hid g5;cases w1 : qacf e.keys s.w <;> rw [w1] at c1
       all_goals
        repeat' (first | (with_reducible first | refine zA ?_ | refine qabg ?_ | refine zK ?_) | ((with_reducible first | refine qaab ?_ | refine qaaz (by rw [hP]; exact mixed) ?_); (try rw [hP]); simp -implicitDefEqProofs [*]) | ((with_reducible refine qaai ?_); (try simp -implicitDefEqProofs [*])) | ((with_reducible refine qaba ?_); (try simp only [qaa2, qaac, qaaj])) | ((with_reducible refine qaap rfl (fun h => ?_) (fun h => ?_)) <;> have h' := h <;> (try simp at h') <;> (try subst h')) | (refine yR (c1 _ (by simp)) ?_; simp -implicitDefEqProofs [*]) | ((refine qael hm ?_ (fun _ => rfl) rfl (CoL.refl _) rfl)) | fail)
        rw [hF.out]; simp [g1.out, g2.out, g3.out, g4, g5.out, g6.out, w1]
      ·have b5 : (e.len != 0) = true := by simp [g5]
       replace g5 := Lib.hid g5;repeat' (first | (with_reducible first | refine zA ?_ | refine qabg ?_ | refine zK ?_) | ((with_reducible first | refine qaab ?_ | refine qaaz (by rw [hP]; exact mixed) ?_); (try rw [hP]); simp -implicitDefEqProofs [*]) | ((with_reducible refine qaba ?_); (try simp only [qaa2, qaac, qaaj])) | ((with_reducible refine qaap rfl (fun h => ?_) (fun h => ?_)) <;> have h' := h <;> (try simp at h') <;> (try subst h')) | ((refine qael hm ?_ (fun _ => rfl) rfl (CoL.refl _) rfl)) | fail)
       rw [hF.out]; simp [g1.out, g2.out, g3.out, g4, g5.out, g6.out]
    ·have b6 : (e.prio != 0) = true := by simp [g6]
     replace g6 := Lib.hid g6;repeat' (first | (with_reducible first | refine zA ?_ | refine qabg ?_ | refine zK ?_) | ((with_reducible first | refine qaab ?_ | refine qaaz (by rw [hP]; exact mixed) ?_); (try rw [hP]); simp -implicitDefEqProofs [*]) | ((with_reducible refine qaba ?_); (try simp only [qaa2, qaac, qaaj])) | ((with_reducible refine qaap rfl (fun h => ?_) (fun h => ?_)) <;> have h' := h <;> (try simp at h') <;> (try subst h')) | ((refine qael hm ?_ (fun _ => rfl) rfl (CoL.refl _) rfl)) | fail)
     rw [hF.out]; simp [g1.out, g3.out, g4, g6.out]
 ·have b1 : ((e.keys.length : Int) != s.w.length) = true := by simp; omega
  replace g1 := Lib.hid g1;repeat' (first | (with_reducible first | refine zA ?_ | refine qabg ?_ | refine zK ?_) | ((with_reducible first | refine qaab ?_ | refine qaaz (by rw [hP]; exact mixed) ?_); (try rw [hP]); simp -implicitDefEqProofs [*]) | ((with_reducible refine qaba ?_); (try simp only [qaa2, qaac, qaaj])) | ((with_reducible refine qaap rfl (fun h => ?_) (fun h => ?_)) <;> have h' := h <;> (try simp at h') <;> (try subst h')) | ((refine qael hm ?_ (fun _ => rfl) rfl (CoL.refl _) rfl)) | fail)
  rw [hF.out]; simp [g1.out]
end
section
attribute [local simp] qaaa nums
theorem qahp {s : StoD} {e : Entry} (h : qaex s e = 0) : e.keys.length = s.w.length ∧ (s.t.kind = 3 → e.masks.length = s.w.length) ∧ (s.t.kind ≠ 3 → e.masks.length = 0 ∧ e.prio = 0) ∧ (s.t.kind ≠ 2 → e.len = 0) ∧ qacf e.keys s.w = false := by
 unfold qaex at h;by_cases g1 : e.keys.length ≠ s.w.length ∨ (s.t.kind = 3 ∧ e.masks.length ≠ s.w.length)
 ·rw [if_pos g1] at h; exact absurd h (by decide)
 rw [if_neg g1] at h;by_cases g2 : (s.t.kind ≠ 3 ∧ (0 < e.masks.length ∨ e.prio ≠ 0)) ∨ (s.t.kind ≠ 2 ∧ e.len ≠ 0)
 ·rw [if_pos g2] at h; exact absurd h (by decide)
 rw [if_neg g2] at h;by_cases g3 : qacf e.keys s.w = true ∨ (s.t.kind = 3 ∧ qacf e.masks s.w = true)
 ·rw [if_pos g3] at h; exact absurd h (by decide)
 refine ⟨by omega, by omega, by omega, by omega, ?_⟩;cases hw : qacf e.keys s.w
 ·rfl
 ·exact absurd (.inl hw) g3
def qagf (s : StoD) (act : Int) (args : List Int) : Int := qaec s.t.acts s.acts act args
theorem ty_add (F : Fin_) (e : Entry) : (F.add e).ty = F.ty := by cases F <;> rfl
theorem ty_chg (F : Fin_) (e : Entry) : (F.chg e).ty = F.ty := by cases F <;> rfl
theorem ty_drop (F : Fin_) (e : Entry) : (F.drop e).ty = F.ty := by cases F <;> rfl
def saddC (s : StoD) (e : Entry) : Int := if qaex s e ≠ 0 then qaex s e else if qagf s e.act e.args ≠ 0 then qagf s e.act e.args else s.F.addV e
def qanf (s : StoD) (e : Entry) : StoD := if qaex s e ≠ 0 then s else if qagf s e.act e.args ≠ 0 then s else { s with F := s.F.add e }
def schgC (s : StoD) (e : Entry) : Int := if qaex s e ≠ 0 then qaex s e else if qagf s e.act e.args ≠ 0 then qagf s e.act e.args else s.F.chgV e
def schgS (s : StoD) (e : Entry) : StoD := if qaex s e ≠ 0 then s else if qagf s e.act e.args ≠ 0 then s else { s with F := s.F.chg e }
def qblj (s : StoD) (e : Entry) : Int := if qaex s e ≠ 0 then qaex s e else s.F.dropV e
def qay9 (s : StoD) (e : Entry) : StoD := if qaex s e ≠ 0 then s else { s with F := s.F.drop e }
def sdefC (s : StoD) (a : Int) (l : List Int) : Int := qagf s a l
def sdefS (s : StoD) (a : Int) (l : List Int) : StoD := if qagf s a l ≠ 0 then s else { s with da := a, dl := l }
def qaio (s : StoD) (xs : List Int) : Option (Int × List Int) := if xs.length = s.w.length ∧ qacf xs s.w = false then s.F.find xs else none
def qal5 (s : StoD) (xs : List Int) : SV := .tup [.agg (hitc ((qaio s xs).map (·.1) |>.getD s.da) ((qaio s xs).map (·.2) |>.getD s.dl)), .bool (qaio s xs).isSome]
theorem sadd_s (s : StoD) (hs : StOk s) (e : Entry) (he : EOk e) : SCalls Tryz.prog 10 [.ptr 0 0, .agg (qaaa e)] (qacm s 0 1) 2 (.int .i64 (saddC s e)) (qacm (qanf s e) 0 1) := by
 have ks := fun q hq => qagu (qay6 s hs e) (fun _ => rfl) (fun _ => rfl) rfl 0 1 q (by decide) (by omega) hq
 have sy := fun q => qbab s.t s.acts e.act e.args hs.aw hs.tl he.small.2.2 hs.ta q
 have hk : qaex s e = 0 → (e.keys.length : Int) = s.F.k := fun h => by rw [(qahp h).1]; exact hs.k
 have fa := fun h q hq => fin_add s.F hs.inv e he (hk h) 1 q hq
 rw [show qaec s.t.acts s.acts e.act e.args = qagf s e.act e.args from rfl] at sy;have hC : saddC s e = if qaex s e ≠ 0 then qaex s e else if qagf s e.act e.args ≠ 0 then qagf s e.act e.args else s.F.addV e := rfl
 have hS : qanf s e = if qaex s e ≠ 0 then s else if qagf s e.act e.args ≠ 0 then s else { s with F := s.F.add e } := rfl
 generalize qaex s e = K at ks fa hC hS;generalize qagf s e.act e.args = Y at sy hC hS;rw [hC, hS];clear hC hS hk;unfold qacm scs tabc nums at ks;unfold tabc nums at sy;refine yF (N := 35) Tryz.func10 c_sadd ?_;rintro X hP hN hm;unfold c_sadd;by_cases g1 : K = 0
 ·subst g1;have fa1 := fa rfl;by_cases g2 : Y = 0
  ·subst g2;unfold qacm scs tabc;repeat' (first | (with_reducible first | refine zA ?_ | refine zK ?_) | ((with_reducible first | refine qaab ?_ | refine qaaz (by rw [hP]; exact mixed) ?_); (try rw [hP]); simp -implicitDefEqProofs [*]) | ((with_reducible refine qaai ?_); (try simp -implicitDefEqProofs [*])) | ((with_reducible refine qaba ?_); (try simp only [qaa2, qaac, qaaj])) | ((with_reducible refine qaap rfl (fun h => ?_) (fun h => ?_)) <;> have h' := h <;> (try simp at h') <;> (try subst h')) | ((first | refine yR (ks _ (by simp)) ?_ | refine qabe (sy _) ?_ | refine qadx [] trivial (qbmm s.F) (fa1 _ (by simp)) ⟨rfl, trivial⟩ ⟨rfl, trivial⟩ [] (by simp) ?_); simp -implicitDefEqProofs [*]) | ((refine qael (s := { s with F := s.F.add e }) hm rfl (fun _ => rfl) rfl ?_ rfl)) | fail)
   show CoL _ (.ifc (s.F.add e).ty _ :: _);rw [ty_add]; exact CoL.refl _
  ·have b2 : (Y != 0) = true := by simp [g2]
   rw [if_neg (by simp), if_pos g2, if_neg (by simp), if_pos g2];replace g2 := Lib.hid g2;unfold qacm scs tabc;repeat' (first | (with_reducible first | refine zA ?_ | refine zK ?_) | ((with_reducible first | refine qaab ?_ | refine qaaz (by rw [hP]; exact mixed) ?_); (try rw [hP]); simp -implicitDefEqProofs [*]) | ((with_reducible refine qaai ?_); (try simp -implicitDefEqProofs [*])) | ((with_reducible refine qaba ?_); (try simp only [qaa2, qaac, qaaj])) | ((with_reducible refine qaap rfl (fun h => ?_) (fun h => ?_)) <;> have h' := h <;> (try simp at h') <;> (try subst h')) | ((first | refine yR (ks _ (by simp)) ?_ | refine qabe (sy _) ?_); simp -implicitDefEqProofs [*]) | ((refine qael hm ?_ (fun _ => rfl) rfl (CoL.refl _) rfl)) | fail)
   rfl
 ·have b1 : (K != 0) = true := by simp [g1]
  rw [if_pos g1, if_pos g1];replace g1 := Lib.hid g1;unfold qacm scs tabc;repeat' (first | (with_reducible refine zA ?_) | ((with_reducible refine qaab ?_); (try rw [hP]); simp -implicitDefEqProofs [*]) | ((with_reducible refine qaba ?_); (try simp only [qaa2, qaac, qaaj])) | ((with_reducible refine qaap rfl (fun h => ?_) (fun h => ?_)) <;> have h' := h <;> (try simp at h') <;> (try subst h')) | (refine yR (ks _ (by simp)) ?_; simp -implicitDefEqProofs [*]) | ((refine qael hm ?_ (fun _ => rfl) rfl (CoL.refl _) rfl)) | fail)
  rfl
theorem schg_s (s : StoD) (hs : StOk s) (e : Entry) (he : EOk e) : SCalls Tryz.prog 11 [.ptr 0 0, .agg (qaaa e)] (qacm s 0 1) 2 (.int .i64 (schgC s e)) (qacm (schgS s e) 0 1) := by
 have ks := fun q hq => qagu (qay6 s hs e) (fun _ => rfl) (fun _ => rfl) rfl 0 1 q (by decide) (by omega) hq
 have sy := fun q => qbab s.t s.acts e.act e.args hs.aw hs.tl he.small.2.2 hs.ta q
 have hk : qaex s e = 0 → (e.keys.length : Int) = s.F.k := fun h => by rw [(qahp h).1]; exact hs.k
 have fa := fun h q hq => fin_chg s.F hs.inv e he (hk h) 1 q hq
 rw [show qaec s.t.acts s.acts e.act e.args = qagf s e.act e.args from rfl] at sy;have hC : schgC s e = if qaex s e ≠ 0 then qaex s e else if qagf s e.act e.args ≠ 0 then qagf s e.act e.args else s.F.chgV e := rfl
 have hS : schgS s e = if qaex s e ≠ 0 then s else if qagf s e.act e.args ≠ 0 then s else { s with F := s.F.chg e } := rfl
 generalize qaex s e = K at ks fa hC hS;generalize qagf s e.act e.args = Y at sy hC hS;rw [hC, hS];clear hC hS hk;unfold qacm scs tabc nums at ks;unfold tabc nums at sy;refine yF (N := 35) Tryz.func11 c_schg ?_;rintro X hP hN hm;unfold c_schg;by_cases g1 : K = 0
 ·subst g1;have fa1 := fa rfl;by_cases g2 : Y = 0
  ·subst g2;unfold qacm scs tabc;repeat' (first | (with_reducible first | refine zA ?_ | refine zK ?_) | ((with_reducible first | refine qaab ?_ | refine qaaz (by rw [hP]; exact mixed) ?_); (try rw [hP]); simp -implicitDefEqProofs [*]) | ((with_reducible refine qaai ?_); (try simp -implicitDefEqProofs [*])) | ((with_reducible refine qaba ?_); (try simp only [qaa2, qaac, qaaj])) | ((with_reducible refine qaap rfl (fun h => ?_) (fun h => ?_)) <;> have h' := h <;> (try simp at h') <;> (try subst h')) | ((first | refine yR (ks _ (by simp)) ?_ | refine qabe (sy _) ?_ | refine qadx [] trivial (qbmk s.F) (fa1 _ (by simp)) ⟨rfl, trivial⟩ ⟨rfl, trivial⟩ [] (by simp) ?_); simp -implicitDefEqProofs [*]) | ((refine qael (s := { s with F := s.F.chg e }) hm rfl (fun _ => rfl) rfl ?_ rfl)) | fail)
   show CoL _ (.ifc (s.F.chg e).ty _ :: _);rw [ty_chg]; exact CoL.refl _
  ·have b2 : (Y != 0) = true := by simp [g2]
   rw [if_neg (by simp), if_pos g2, if_neg (by simp), if_pos g2];replace g2 := Lib.hid g2;unfold qacm scs tabc;repeat' (first | (with_reducible first | refine zA ?_ | refine zK ?_) | ((with_reducible first | refine qaab ?_ | refine qaaz (by rw [hP]; exact mixed) ?_); (try rw [hP]); simp -implicitDefEqProofs [*]) | ((with_reducible refine qaai ?_); (try simp -implicitDefEqProofs [*])) | ((with_reducible refine qaba ?_); (try simp only [qaa2, qaac, qaaj])) | ((with_reducible refine qaap rfl (fun h => ?_) (fun h => ?_)) <;> have h' := h <;> (try simp at h') <;> (try subst h')) | ((first | refine yR (ks _ (by simp)) ?_ | refine qabe (sy _) ?_); simp -implicitDefEqProofs [*]) | ((refine qael hm ?_ (fun _ => rfl) rfl (CoL.refl _) rfl)) | fail)
   rfl
 ·have b1 : (K != 0) = true := by simp [g1]
  rw [if_pos g1, if_pos g1];replace g1 := Lib.hid g1;unfold qacm scs tabc;repeat' (first | (with_reducible refine zA ?_) | ((with_reducible refine qaab ?_); (try rw [hP]); simp -implicitDefEqProofs [*]) | ((with_reducible refine qaba ?_); (try simp only [qaa2, qaac, qaaj])) | ((with_reducible refine qaap rfl (fun h => ?_) (fun h => ?_)) <;> have h' := h <;> (try simp at h') <;> (try subst h')) | (refine yR (ks _ (by simp)) ?_; simp -implicitDefEqProofs [*]) | ((refine qael hm ?_ (fun _ => rfl) rfl (CoL.refl _) rfl)) | fail)
  rfl
theorem sdrop_s (s : StoD) (hs : StOk s) (e : Entry) (he : EOk e) : SCalls Tryz.prog 12 [.ptr 0 0, .agg (qaaa e)] (qacm s 0 1) 2 (.int .i64 (qblj s e)) (qacm (qay9 s e) 0 1) := by
 have ks := fun q hq => qagu (qay6 s hs e) (fun _ => rfl) (fun _ => rfl) rfl 0 1 q (by decide) (by omega) hq
 have hk : qaex s e = 0 → (e.keys.length : Int) = s.F.k := fun h => by rw [(qahp h).1]; exact hs.k
 have fa := fun h q hq => qbm6 s.F hs.inv e he (hk h) 1 q hq
 have hC : qblj s e = if qaex s e ≠ 0 then qaex s e else s.F.dropV e := rfl
 have hS : qay9 s e = if qaex s e ≠ 0 then s else { s with F := s.F.drop e } := rfl
 generalize qaex s e = K at ks fa hC hS;rw [hC, hS];clear hC hS hk;unfold qacm scs tabc nums at ks;refine yF (N := 18) Tryz.func12 qbke ?_;rintro X hP hN hm;unfold qbke;by_cases g1 : K = 0
 ·subst g1;have fa1 := fa rfl;unfold qacm scs tabc;repeat' (first | (with_reducible first | refine zA ?_ | refine zK ?_) | ((with_reducible first | refine qaab ?_ | refine qaaz (by rw [hP]; exact mixed) ?_); (try rw [hP]); simp -implicitDefEqProofs [*]) | ((with_reducible refine qaai ?_); (try simp -implicitDefEqProofs [*])) | ((with_reducible refine qaba ?_); (try simp only [qaa2, qaac, qaaj])) | ((with_reducible refine qaap rfl (fun h => ?_) (fun h => ?_)) <;> have h' := h <;> (try simp at h') <;> (try subst h')) | ((first | refine yR (ks _ (by simp)) ?_ | refine qadx [] trivial (qbax s.F) (fa1 _ (by simp)) ⟨rfl, trivial⟩ ⟨rfl, trivial⟩ [] (by simp) ?_); simp -implicitDefEqProofs [*]) | ((refine qael (s := { s with F := s.F.drop e }) hm rfl (fun _ => rfl) rfl ?_ rfl)) | fail)
  show CoL _ (.ifc (s.F.drop e).ty _ :: _);rw [ty_drop]; exact CoL.refl _
 ·have b1 : (K != 0) = true := by simp [g1]
  rw [if_pos g1, if_pos g1];replace g1 := Lib.hid g1;unfold qacm scs tabc;repeat' (first | (with_reducible refine zA ?_) | ((with_reducible refine qaab ?_); (try rw [hP]); simp -implicitDefEqProofs [*]) | ((with_reducible refine qaba ?_); (try simp only [qaa2, qaac, qaaj])) | ((with_reducible refine qaap rfl (fun h => ?_) (fun h => ?_)) <;> have h' := h <;> (try simp at h') <;> (try subst h')) | (refine yR (ks _ (by simp)) ?_; simp -implicitDefEqProofs [*]) | ((refine qael hm ?_ (fun _ => rfl) rfl (CoL.refl _) rfl)) | fail)
  rfl
theorem sdef_s (s : StoD) (hs : StOk s) (a : Int) (l : List Int) (hl : l.length ≤ 1000000) : SCalls Tryz.prog 19 [.ptr 0 0, .agg (hitc a l)] (qacm s 0 1) 2 (.int .i64 (sdefC s a l)) (qacm (sdefS s a l) 0 1) := by
 have sy := fun q => qbab s.t s.acts a l hs.aw hs.tl hl hs.ta q
 have kc := fun q => qbiv l hl q
 rw [show qaec s.t.acts s.acts a l = qagf s a l from rfl] at sy;have hC : sdefC s a l = qagf s a l := rfl;have hS : sdefS s a l = if qagf s a l ≠ 0 then s else { s with da := a, dl := l } := rfl
 generalize qagf s a l = Y at sy hC hS;rw [hC, hS];clear hC hS;unfold tabc nums at sy;unfold nums at kc;refine yF (N := 31) Tryz.func19 c_sdef ?_;rintro X hP hN hm;unfold c_sdef hitc;by_cases g1 : Y = 0
 ·subst g1;unfold qacm scs tabc;repeat' (first | (with_reducible first | refine zA ?_ | refine zK ?_) | ((with_reducible first | refine qaab ?_ | refine qaaz (by rw [hP]; exact mixed) ?_); (try rw [hP]); simp -implicitDefEqProofs [*]) | ((with_reducible refine qaai ?_); (try simp -implicitDefEqProofs [*])) | ((with_reducible refine qaba ?_); (try simp only [qaa2, qaac, qaaj])) | ((with_reducible refine qaap rfl (fun h => ?_) (fun h => ?_)) <;> have h' := h <;> (try simp at h') <;> (try subst h')) | ((first | refine qabe (sy _) ?_ | refine qabe (kc _) ?_); simp -implicitDefEqProofs [*]) | ((refine qael (s := { s with da := a, dl := l }) hm rfl (fun _ => rfl) rfl (CoL.refl _) rfl)) | fail)
 ·have b1 : (Y != 0) = true := by simp [g1]
  rw [if_pos g1];replace g1 := Lib.hid g1;unfold qacm scs tabc;repeat' (first | (with_reducible first | refine zA ?_ | refine zK ?_) | ((with_reducible first | refine qaab ?_ | refine qaaz (by rw [hP]; exact mixed) ?_); (try rw [hP]); simp -implicitDefEqProofs [*]) | ((with_reducible refine qaba ?_); (try simp only [qaa2, qaac, qaaj])) | ((with_reducible refine qaap rfl (fun h => ?_) (fun h => ?_)) <;> have h' := h <;> (try simp at h') <;> (try subst h')) | (refine qabe (sy _) ?_; simp -implicitDefEqProofs [*]) | ((refine qael hm ?_ (fun _ => rfl) rfl (CoL.refl _) rfl)) | fail)
  rfl
theorem sall_s (s : StoD) (hs : StOk s) : SCalls Tryz.prog 13 [.ptr 0 0] (qacm s 0 1) 2 (ents s.F.all) (qacm s 0 1) := by
 have fa := fun q hq => fin_all s.F hs.inv 1 q hq
 unfold ents at fa ⊢;refine yF (N := 8) Tryz.func13 c_sall ?_;rintro X hP hN hm;unfold c_sall qacm scs tabc;repeat' (first | (with_reducible refine zA ?_) | ((with_reducible refine qaab ?_); (try rw [hP]); simp -implicitDefEqProofs [*]) | ((with_reducible refine qaba ?_); (try simp only [qaa2, qaac, qaaj])) | (refine qadx [] trivial (qbml s.F) (fa _ (by simp)) ⟨rfl, trivial⟩ ⟨rfl, trivial⟩ [] (by simp) ?_; simp -implicitDefEqProofs [*]) | ((refine qael hm rfl (fun _ => rfl) rfl (CoL.refl _) rfl)) | fail)
theorem slen_s (s : StoD) (hs : StOk s) : SCalls Tryz.prog 17 [.ptr 0 0] (qacm s 0 1) 2 (.int .i64 s.F.cnt) (qacm s 0 1) := by
 have fa := fun q hq => fin_cnt s.F hs.inv 1 q hq
 refine yF (N := 8) Tryz.func17 c_slen ?_;rintro X hP hN hm;unfold c_slen qacm scs tabc;repeat' (first | (with_reducible refine zA ?_) | ((with_reducible refine qaab ?_); (try rw [hP]); simp -implicitDefEqProofs [*]) | ((with_reducible refine qaba ?_); (try simp only [qaa2, qaac, qaaj])) | (refine qadx [] trivial (qbmj s.F) (fa _ (by simp)) ⟨rfl, trivial⟩ ⟨rfl, trivial⟩ [] (by simp) ?_; simp -implicitDefEqProofs [*]) | ((refine qael hm rfl (fun _ => rfl) rfl (CoL.refl _) rfl)) | fail)
theorem qble (s : StoD) (hs : StOk s) : SCalls Tryz.prog 28 [.ptr 0 0] (qacm s 0 1) 2 (.int .i64 s.w.length) (qacm s 0 1) := by
 refine yF (N := 8) Tryz.func28 qa3r ?_;rintro X hP hN hm;unfold qa3r qacm scs tabc;repeat' (first | (with_reducible refine zA ?_) | ((with_reducible refine qaab ?_); (try rw [hP]); simp -implicitDefEqProofs [*]) | ((with_reducible refine qaba ?_); (try simp only [qaa2, qaac, qaaj])) | ((refine qael hm rfl (fun _ => rfl) rfl (CoL.refl _) rfl)) | fail)
theorem fin_sth {X : Cx} {sl : Sl} {hp : Hp} {u nx id n : Nat} {ty : TypeId} {cs ds c0 : List SV} {r : SV} {s : StoD} (hm : X.m = 2) (hid : 2 ≤ id) (hu : gets sl u = .ptr id 0) (h : geth hp id = some (.cells ty cs)) (h0 : geth hp 0 = some (.cells 76 c0)) (hcs : CoL c0 (scs s 1)) (h1 : geth hp 1 = some (.abs s.F.I)) (ha : qag8 X.P ty = some true) (hn : qab8 X.P ty = some n) (hl : ds.length = n) (e : CoL cs ds) (hr : r = .agg ds) (hd : ∀ σ, ds.map (Go.Proofs.YtalejfkholifpaaGreat.ren σ) = ds) : QFun X [.cell u ty] 2 r (qacm s 0 1) .ret ⟨sl, hp, nx⟩ := by
 subst hr hl;have hw : Wk X ⟨sl, hp, nx⟩ ⟨[(u, .ptr 2 0)], qacm s 0 1 ++ [(2, .cells ty ds)], 3⟩ := by
  refine qabd [(2, id)] hm ⟨?_, trivial⟩ ⟨⟨_, h0, rfl, ?_⟩, ⟨_, h1, rfl⟩, ⟨_, h, rfl, by rw [hd]; exact e⟩, trivial⟩ ?_ (by simp)
  ·rw [hu]; exact Co.refl _
  ·rw [qazb s (by rfl)]; exact hcs
  ·have a1 : ¬ (0 = id) := by omega
   have a2 : ¬ (1 = id) := by omega
   have a3 : ¬ (id = 0) := by omega
   have a4 : ¬ (id = 1) := by omega
   simp [qabc, diag, idsH, qacm, List.range_succ, a1, a2, a3, a4]
 refine ⟨_, hw, ?_, ⟨rfl, rfl, trivial⟩, by simp⟩;simp [qafc, resL, resV, one_, gets, ha, SOp.run, SX.ev, geth, hn, qacm]
theorem fin_stc {X : Cx} {sl : Sl} {hp : Hp} {t u nx id n : Nat} {ty : TypeId} {cs ds c0 : List SV} {v r : SV} {s : StoD} (hm : X.m = 2) (hid : 2 ≤ id) (hne : t ≠ u) (hv : gets sl t = v) (hN : NoN v) (hu : gets sl u = .ptr id 0) (h : geth hp id = some (.cells ty cs)) (h0 : geth hp 0 = some (.cells 76 c0)) (hcs : CoL c0 (scs s 1)) (h1 : geth hp 1 = some (.abs s.F.I)) (ha : qag8 X.P ty = some true) (hn : qab8 X.P ty = some n) (hl : ds.length = n) (e : CoL cs ds) (hr : r = .tup [.agg ds, v]) (hd : ∀ σ, ds.map (Go.Proofs.YtalejfkholifpaaGreat.ren σ) = ds) : QFun X [.cell u ty, .tmp t] 2 r (qacm s 0 1) .ret ⟨sl, hp, nx⟩ := by
 subst hr hl;have hw : Wk X ⟨sl, hp, nx⟩ ⟨[(u, .ptr 2 0), (t, v)], qacm s 0 1 ++ [(2, .cells ty ds)], 3⟩ := by
  refine qabd [(2, id)] hm ⟨?_, ?_, trivial⟩ ⟨⟨_, h0, rfl, ?_⟩, ⟨_, h1, rfl⟩, ⟨_, h, rfl, by rw [hd]; exact e⟩, trivial⟩ ?_ (by simp)
  ·rw [hu]; exact Co.refl _
  ·rw [hv, hN]; exact Co.refl _
  ·rw [qazb s (by rfl)]; exact hcs
  ·have a1 : ¬ (0 = id) := by omega
   have a2 : ¬ (1 = id) := by omega
   have a3 : ¬ (id = 0) := by omega
   have a4 : ¬ (id = 1) := by omega
   simp [qabc, diag, idsH, qacm, List.range_succ, a1, a2, a3, a4]
 refine ⟨_, hw, ?_, ⟨rfl, rfl, trivial⟩, by simp⟩;simp [qafc, resL, resV, one_, gets, ha, SOp.run, SX.ev, geth, hne, hne.symm, hn, qacm]
theorem ssays_o (s : StoD) (hs : StOk s) : SCalls Tryz.prog 18 [.ptr 0 0] (qacm s 0 1) 2 (.agg (hitc s.da s.dl)) (qacm s 0 1) := by
 have kc := fun q => qbiv s.dl hs.dl q
 unfold nums at kc;refine yF (N := 15) Tryz.func18 qa3s ?_;rintro X hP hN hm;unfold qa3s qacm scs tabc hitc;repeat' (first | (with_reducible first | refine zA ?_ | refine zK ?_) | ((with_reducible first | refine qaab ?_ | refine qaaz (by rw [hP]; exact mixed) ?_); (try rw [hP]); simp -implicitDefEqProofs [*]) | ((with_reducible refine qaba ?_); (try simp only [qaa2, qaac, qaaj])) | (refine qabe (kc _) ?_; simp -implicitDefEqProofs [*]) | ((refine fin_sth hm (by decide) rfl rfl rfl (CoL.refl _) rfl (by rw [hP]; exact qae5) (by rw [hP]; exact qad3) rfl (CoL.refl _) rfl (fun _ => rfl))) | fail)
theorem qbi5 (s : StoD) (hs : StOk s) (xs : List Int) (hx : xs.length ≤ 1000000) (hf : AllFit .u64 xs) : SCalls Tryz.prog 14 [.ptr 0 0, nums .u64 xs] (qacm s 0 1) 2 (qal5 s xs) (qacm s 0 1) := by
 have kc := fun q => qbiv s.dl hs.dl q
 have ks := fun h q hq => qagu (qbi4 s hs xs h) (fun _ => rfl) (fun _ => rfl) rfl 0 1 q (by decide) (by omega) hq
 have fa := fun h q hq => qbm5 s.F hs.inv xs hx hf h 1 q hq
 have hV : qal5 s xs = .tup [.agg (hitc ((qaio s xs).map (·.1) |>.getD s.da) ((qaio s xs).map (·.2) |>.getD s.dl)), .bool (qaio s xs).isSome] := rfl;have hC : qaio s xs = if xs.length = s.w.length ∧ qacf xs s.w = false then s.F.find xs else none := rfl
 rw [hV];clear hV;generalize qaio s xs = C at hC;generalize s.F.find xs = Z at fa hC;unfold qacm scs tabc nums at ks;unfold nums at kc;unfold nums qakk hitc at fa;have fin1 : ∀ (X : Cx) (sl : Sl) (hp : Hp) (nx : Nat) (a : Int) (l : List Int) (b : Bool), X.P = Tryz.prog → X.m = 2 → (∃ id, 2 ≤ id ∧ gets sl 4 = .ptr id 0 ∧ geth hp id = some (.cells 46 (hitc a l))) → gets sl 5 = .bool b → geth hp 0 = some (.cells 76 (scs s 1)) → geth hp 1 = some (.abs s.F.I) → QFun X [.cell 4 46, .tmp 5] 2 (.tup [.agg (hitc a l), .bool b]) (qacm s 0 1) .ret ⟨sl, hp, nx⟩ := by
  rintro X sl hp nx a l b hP hm ⟨id, hid, h1, h2⟩ h3 h4 h5;exact fin_stc hm hid (by decide) h3 (fun _ => rfl) h1 h2 h4 (CoL.refl _) h5 (by rw [hP]; exact qae5) (by rw [hP]; exact qad3) rfl (CoL.refl _) rfl (fun _ => rfl)
 replace fin1 := Lib.hid fin1;refine yF (N := 44) Tryz.func14 qbkc ?_;rintro X hP hN hm;unfold qbkc;by_cases g1 : xs.length = s.w.length
 ·have b1 : ((xs.length : Int) == s.w.length) = true := by simp [g1]
  have ks1 := ks g1;have fa1 := fa (by rw [g1]; exact hs.k);cases w1 : qacf xs s.w
  ·rw [if_pos ⟨g1, w1⟩] at hC;subst hC;rw [w1] at ks1;clear ks fa;replace g1 := Lib.hid g1;cases C with
   | none =>
    unfold qacm scs tabc;repeat' (first | (with_reducible first | refine zA ?_ | refine zK ?_) | ((with_reducible first | refine qaab ?_ | refine qaaz (by rw [hP]; exact mixed) ?_); (try rw [hP]); simp -implicitDefEqProofs [*]) | ((with_reducible refine qaai ?_); (try simp -implicitDefEqProofs [*])) | ((with_reducible refine qaba ?_); (try simp only [qaa2, qaac, qaaj])) | ((with_reducible refine qaap rfl (fun h => ?_) (fun h => ?_)) <;> have h' := h <;> (try simp at h') <;> (try subst h')) | ((first | refine yR (ks1 _ (by simp)) ?_ | refine qadx [] trivial (qasv s.F) (fa1 _ (by simp)) ⟨rfl, trivial⟩ ⟨rfl, trivial⟩ [] (by simp) ?_ | refine qabe (kc _) ?_); simp -implicitDefEqProofs [*]) | ((refine fin1.out _ _ _ _ _ _ _ hP hm ⟨_, ?_, rfl, rfl⟩ rfl rfl rfl)) | fail)
    all_goals decide
   | some z =>
    unfold qacm scs tabc;repeat' (first | (with_reducible refine zA ?_) | ((with_reducible refine qaab ?_); (try rw [hP]); simp -implicitDefEqProofs [*]) | ((with_reducible refine qaba ?_); (try simp only [qaa2, qaac, qaaj])) | ((with_reducible refine qaap rfl (fun h => ?_) (fun h => ?_)) <;> have h' := h <;> (try simp at h') <;> (try subst h')) | ((first | refine yR (ks1 _ (by simp)) ?_ | refine qadx [] trivial (qasv s.F) (fa1 _ (by simp)) ⟨rfl, trivial⟩ ⟨rfl, trivial⟩ [] (by simp) ?_); simp -implicitDefEqProofs [*]) | ((refine fin1.out _ _ _ _ _ _ _ hP hm ⟨_, ?_, rfl, rfl⟩ rfl rfl rfl)) | fail)
    all_goals decide
  ·rw [if_neg (by rw [w1]; simp)] at hC;subst hC;rw [w1] at ks1;clear ks fa fa1;replace g1 := Lib.hid g1;unfold qacm scs tabc;repeat' (first | (with_reducible first | refine zA ?_ | refine zK ?_) | ((with_reducible first | refine qaab ?_ | refine qaaz (by rw [hP]; exact mixed) ?_); (try rw [hP]); simp -implicitDefEqProofs [*]) | ((with_reducible refine qaai ?_); (try simp -implicitDefEqProofs [*])) | ((with_reducible refine qaba ?_); (try simp only [qaa2, qaac, qaaj])) | ((with_reducible refine qaap rfl (fun h => ?_) (fun h => ?_)) <;> have h' := h <;> (try simp at h') <;> (try subst h')) | ((first | refine yR (ks1 _ (by simp)) ?_ | refine qabe (kc _) ?_); simp -implicitDefEqProofs [*]) | ((refine fin1.out _ _ _ _ _ _ _ hP hm ⟨_, ?_, rfl, rfl⟩ rfl rfl rfl)) | fail)
   all_goals decide
 ·have b1 : ((xs.length : Int) == s.w.length) = false := by simp; omega
  rw [if_neg (by simp [g1])] at hC;subst hC;clear ks fa;replace g1 := Lib.hid g1;unfold qacm scs tabc;repeat' (first | (with_reducible first | refine zA ?_ | refine zK ?_) | ((with_reducible first | refine qaab ?_ | refine qaaz (by rw [hP]; exact mixed) ?_); (try rw [hP]); simp -implicitDefEqProofs [*]) | ((with_reducible refine qaai ?_); (try simp -implicitDefEqProofs [*])) | ((with_reducible refine qaba ?_); (try simp only [qaa2, qaac, qaaj])) | ((with_reducible refine qaap rfl (fun h => ?_) (fun h => ?_)) <;> have h' := h <;> (try simp at h') <;> (try subst h')) | (refine qabe (kc _) ?_; simp -implicitDefEqProofs [*]) | ((refine fin1.out _ _ _ _ _ _ _ hP hm ⟨_, ?_, rfl, rfl⟩ rfl rfl rfl)) | fail)
  all_goals decide
end
end
end Go.Proofs.YtalejfkholifpaaGreat
