/-
  Texts joined: XPfxF XPfxD XPfxE. No condition.
-/
import Derived.Deep.CutRange
import Derived.Deep.CutBlock
import Derived.Test.YtfakdapglbgokaaI6
/-
  Package prefix: Find. No condition.
-/
namespace Go.Proofs.Ytfakdapglbgokaa
set_option linter.all false
open Go.RowKit
attribute [local go_sem ↓] Go.wp_at_zero Go.wp_at_succ

/-- The last place below m where something holds. -/
def lastN (p : Nat → Bool) : Nat → Option Nat
  | 0 => none
  | m + 1 => if p m then some m else lastN p m
theorem lastN_yes {p : Nat → Bool} {m : Nat} (h : p m = true) : lastN p (m + 1) = some m := by unfold lastN; rw [if_pos h]
theorem lastN_no {p : Nat → Bool} {m : Nat} (h : p m = false) : lastN p (m + 1) = lastN p m := by
  show (if p m then some m else lastN p m) = _
  rw [h]; rfl
theorem lastN_skip {p : Nat → Bool} {j m : Nat} (hj : j ≤ m) (h : ∀ i, j ≤ i → i < m → p i = false) : lastN p m = lastN p j := by
  obtain ⟨d, rfl⟩ := Nat.exists_eq_add_of_le hj
  clear hj
  induction d with
  | zero => rfl
  | succ d ih => rw [show j + (d + 1) = (j + d) + 1 by omega, lastN_no (h _ (by omega) (by omega))]; exact ih fun i h1 h2 => h i h1 (by omega)
theorem lastN_some {p : Nat → Bool} {m i : Nat} (h : lastN p m = some i) : i < m ∧ p i = true ∧ ∀ j, i < j → j < m → p j = false := by
  induction m with
  | zero => cases h
  | succ m ih =>
    cases e : p m with
    | true => rw [lastN_yes e] at h; cases h; exact ⟨Nat.lt_succ_self _, e, fun j h1 h2 => by omega⟩
    | false =>
      rw [lastN_no e] at h
      obtain ⟨h1, h2, h3⟩ := ih h
      refine ⟨by omega, h2, fun j h4 h5 => ?_⟩
      by_cases hj : j = m
      · subst hj; exact e
      · exact h3 j h4 (by omega)
theorem lastN_none {p : Nat → Bool} {m : Nat} (h : lastN p m = none) : ∀ j, j < m → p j = false := by
  induction m with
  | zero => intro j hj; omega
  | succ m ih =>
    cases e : p m with
    | true => rw [lastN_yes e] at h; cases h
    | false =>
      rw [lastN_no e] at h
      intro j hj
      by_cases hj2 : j = m
      · subst hj2; exact e
      · exact ih h j (by omega)
def hasE (E : Nat → Int → Option (Int × List Int)) (W : Nat) (key : Int) (i : Nat) : Bool := (E i (pre W key i)).isSome
/-- What Find finds: how long; what is said. -/
def pfxFind (width : Int) (E : Nat → Int → Option (Int × List Int)) (key : Int) : Option (Nat × Int × List Int) :=
  if pfits width key width then match lastN (hasE E width.toNat key) (width.toNat + 1) with
    | none => none
    | some i => (E i (pre width.toNat key i)).map fun x => (i, x.1, x.2)
  else none
def fLen (R : Option (Nat × Int × List Int)) : Int := match R with | none => 0 | some x => x.1
def fAct (R : Option (Nat × Int × List Int)) : Int := match R with | none => 0 | some x => x.2.1
def fArgs (R : Option (Nat × Int × List Int)) : List Int := match R with | none => [] | some x => x.2.2
theorem Mine.ge_ {w : World} {base : Nat} {e : TypeId} {k : IntKind} {ao : Option Addr} {n cap : Nat} {xs : List Int} (h : Mine w base e k (.slice ao n cap) xs) : ∀ a, ao = some a → base ≤ a.block := by
  obtain ⟨ao', cap', e, _, h3⟩ := h.rd
  cases e
  exact fun a ha => (h3 a ha).1
def FindPost (w : World) (R : Option (Nat × Int × List Int)) (e : Ending) (w' : World) : Prop :=
  ∃ ao c, e = .returned (.tuple #[.agg #[.int .i64 (fAct R), .slice ao (fArgs R).length c], .int .i64 (fLen R), .bool R.isSome]) ∧ Rd w' .u64 ao (fArgs R).length c (fArgs R) ∧ (∀ a, ao = some a → w.heap.size ≤ a.block) ∧ Below w.heap.size w w'
theorem FindPost.none_ {w w' : World} {R : Option (Nat × Int × List Int)} (h : R = none) (hb : Below w.heap.size w w') : FindPost w R (.returned (.tuple #[.agg #[.int .i64 0, .slice none 0 0], .int .i64 0, .bool false])) w' := by
  subst h
  exact ⟨none, 0, rfl, Rd.nil_ _ _, (fun a ha => by cases ha), hb⟩
theorem FindPost.some_ {w w' : World} {R : Option (Nat × Int × List Int)} {i : Nat} {a : Int} {l : List Int} {ao : Option Addr} {n c : Nat} (h : R = some (i, a, l)) (hr : Rd w' .u64 ao n c l) (hfr : ∀ a, ao = some a → w.heap.size ≤ a.block) (hb : Below w.heap.size w w') : FindPost w R (.returned (.tuple #[.agg #[.int .i64 a, .slice ao n c], .int .i64 (i : Int), .bool true])) w' := by
  subst h
  obtain rfl := hr.len
  exact ⟨ao, c, rfl, hr, hfr, hb⟩

set_option maxRecDepth 100000 in
set_option maxHeartbeats 4000000 in
theorem pfxFind_any (gt : Nat) (Fp : Nat → Prop) (width most n key : Int) (E : Nat → Int → Option (Int × List Int)) (w : World) (h : PfxObj w Fp gt width most n E) (hw : Fits .i64 width) (hkey : Fits .u64 key) (hargs : ∀ i v x, E i v = some x → x.2.length ≤ 1000000) :
    Calls Try.prog 23 #[.pointer (some ⟨gt, 0, none⟩), .int .u64 key] w (FindPost w (pfxFind width E key)) := by
  obtain ⟨M, adr, dat, h1, h2, h3, h4, h5, h6⟩ := h
  have hz0 := Blk.new w 37 #[.int .i64 0, .slice none 0 0]
  have hal := al (rf w) (.cells #[.int .i64 0, .slice none 0 0] 37)
  have g0 := h1.blk.cell 0
  simp at g0
  have hgz := h1.blk.lt
  have H1 := Lib.hid (h1.below hal)
  have hE : ∀ i, hasE E width.toNat key i = (ent adr dat i (pre width.toNat key i)).isSome := fun i => by unfold hasE; rw [h2]
  have HE := Lib.hid hE
  have H2 := Lib.hid h2
  clear h2 h3 h4 h5 h6 h1 hE
  by_cases hf : pfits width key width = true
  case neg =>
    have hf' : pfits width key width = false := by simpa using hf
    have hn : Hid (pfxFind width E key = none) := by show _ = _; unfold pfxFind; rw [hf']; rfl
    have HF := Lib.hid hf'
    clear hf hf'
    go_enter Try.func23, Try.ntmps23
    go_wp2_with fail
    refine (pfxFits_any _ _ _ _ _ _ _ _ _ _ H1.out hw hw hkey).mono ?_
    rintro e w' ⟨rfl, rfl⟩
    rw [HF.out]
    go_wp2_with fail
    exact bodyPost_ret (v := .tuple #[.agg #[.int .i64 0, .slice none 0 0], .int .i64 0, .bool false]) (by simp [results, Try.results23, go_sem]) rfl (FindPost.none_ hn.out hal)
  obtain ⟨W, K, rfl, hKK, hW1, hW, hK, hlt, hmod⟩ := pfits_true hf
  clear hKK hK hmod K
  have HF := Lib.hid hf
  clear hf
  have hB0 := blk1 (rf (w.alloc (.cells #[.int .i64 0, .slice none 0 0] 37)))
  go_enter Try.func23, Try.ntmps23
  go_wp2_with fail
  refine (pfxFits_any _ _ _ _ _ _ _ _ _ _ H1.out hw hw hkey).mono ?_
  rintro e w' ⟨rfl, rfl⟩
  rw [HF.out]
  generalize w.alloc (.cells #[.int .i64 0, .slice none 0 0] 37) = w1 at *
  obtain ⟨_, B0⟩ := hB0
  have g3 := H1.out.blk.cell 3
  simp at g3
  have hgz1 := H1.out.blk.lt
  obtain ⟨R, hR⟩ : ∃ R, ptr (adr 0 0) = R := ⟨_, rfl⟩
  rw [hR] at g3
  have HR := Lib.hid hR
  have HP0 := Lib.hid (pre_zero (W := W) hkey.u64.1 hlt)
  have HB0 := Lib.hid B0
  clear hR g0 hgz B0 hz0
  go_upto_block 0 with fail
  go_cut [7, 8] from 24 to 48 (fun out nn wx => Below w1.heap.size w1 wx ∧ ((lastN (hasE E W key) (W + 1) = none ∧ out = .pointer none ∧ nn = .int .i64 0) ∨ ∃ b : Nat, lastN (hasE E W key) (W + 1) = some b ∧ out = ptr (adr b (pre W key b)) ∧ nn = .int .i64 b))
  case first =>
    go_wp2_with fail
    go_loopw [7, 8, 9, 10] (fun out nn p i wr => ∃ j : Nat, j ≤ W ∧ i = .int .i64 j ∧ p = ptr (adr j (pre W key j)) ∧ Below w1.heap.size w1 wr ∧ ((lastN (hasE E W key) j = none ∧ out = .pointer none ∧ nn = .int .i64 0) ∨ ∃ b : Nat, lastN (hasE E W key) j = some b ∧ out = ptr (adr b (pre W key b)) ∧ nn = .int .i64 b)) (fun _ _ _ i _ => W - (intOf i).toNat)
    case atStart => exact ⟨0, Nat.zero_le _, rfl, by rw [HP0.out, HR.out], rf _, .inl ⟨rfl, rfl, rfl⟩⟩
    obtain ⟨j, hj, rfl, rfl, hbr, hout⟩ := hrel
    have HPw := Lib.hid (H1.out.below hbr)
    cases e : adr j (pre W key j) with
    | none =>
      have hl : Hid (lastN (hasE E W key) (W + 1) = lastN (hasE E W key) j) := lastN_skip (by omega) fun i h1 h2 => by
        have := HE.out i
        rw [show ((W : Nat) : Int).toNat = W from rfl] at this
        rw [this, ent_none (HPw.out.trie.none_up h1 (by omega) e)]; rfl
      rw [ptr_none]
      clear e
      go_wp2_with fail
      go_meet
      exact ⟨hbr, by rw [hl.out]; exact hout⟩
    | some g =>
      have HEj := Lib.hid e
      rw [ptr_some]
      obtain ⟨ao, an, ac, b0, b1, b2, b3, b4, _, hgz, _⟩ := HPw.out.trie.cells e
      have g0 := HPw.out.blk.cell 0
      simp at g0
      have tz := HPw.out.blk.lt
      clear e b1 b2
      cases t : (dat j (pre W key j)).there with
      | true =>
        have HT : Hid (hasE E W key j = true) := by show _ = _; have := HE.out j; rw [show ((W : Nat) : Int).toNat = W from rfl] at this; rw [this, ent_some HEj.out, t]; rfl
        rw [t] at b0
        clear t
        by_cases hjW : j = W
        · subst hjW
          have q : ((j : Int) == (j : Int)) = true := by simp
          clear b3 b4
          go_wp2_with fail
          go_meet
          exact ⟨hbr, .inr ⟨j, lastN_yes HT.out, by rw [HEj.out]; rfl, rfl⟩⟩
        · have q : ((j : Int) == (W : Int)) = false := by rw [beq_eq_false_iff_ne]; omega
          have hjl : j < W := by omega
          have hs := pre_succ key hjl
          have hpr := Lib.hid hs
          have HB := fun w' (hb : Below wr.heap.size wr w') => pfxBit_any gt W j key most n M adr dat w' (HPw.out.below hb) hW hjl hkey
          have hkb : kbit W key j = 0 ∨ kbit W key j = 1 := by have := kbit_range W key j; omega
          clear hs
          rcases hkb with hb | hb
          · rw [hb] at HB
            have HB2 := Lib.hid HB
            have hn : Hid (pre W key (j + 1) = 2 * pre W key j) := by show _ = _; rw [hpr.out, hb]; omega
            clear HB hb b4
            go_wp2_with fail
            go_big_quiet ((go_at_call 84; exact quietEqP (HB2.out _ (below_drewN_ (rf _) _))))
            go_wp2_with fail
            go_roundw
            case rel => exact ⟨j + 1, by omega, by go_num, by rw [hn.out], below_drewN_ hbr _, .inr ⟨j, lastN_yes HT.out, by rw [HEj.out]; rfl, rfl⟩⟩
            case measure => simp [intOf]; omega
          · rw [hb] at HB
            have HB2 := Lib.hid HB
            have hn : Hid (pre W key (j + 1) = 2 * pre W key j + 1) := by show _ = _; rw [hpr.out, hb]
            clear HB hb b3
            go_wp2_with fail
            go_big_quiet ((go_at_call 84; exact quietEqP (HB2.out _ (below_drewN_ (rf _) _))))
            go_wp2_with fail
            go_roundw
            case rel => exact ⟨j + 1, by omega, by go_num, by rw [hn.out], below_drewN_ hbr _, .inr ⟨j, lastN_yes HT.out, by rw [HEj.out]; rfl, rfl⟩⟩
            case measure => simp [intOf]; omega
      | false =>
        have HT : Hid (hasE E W key j = false) := by show _ = _; have := HE.out j; rw [show ((W : Nat) : Int).toNat = W from rfl] at this; rw [this, ent_some HEj.out, t]; rfl
        rw [t] at b0
        clear t
        by_cases hjW : j = W
        · subst hjW
          have q : ((j : Int) == (j : Int)) = true := by simp
          clear b3 b4
          go_wp2_with fail
          go_meet
          exact ⟨hbr, by rw [lastN_no HT.out]; exact hout⟩
        · have q : ((j : Int) == (W : Int)) = false := by rw [beq_eq_false_iff_ne]; omega
          have hjl : j < W := by omega
          have hs := pre_succ key hjl
          have hpr := Lib.hid hs
          have HB := fun w' (hb : Below wr.heap.size wr w') => pfxBit_any gt W j key most n M adr dat w' (HPw.out.below hb) hW hjl hkey
          have hkb : kbit W key j = 0 ∨ kbit W key j = 1 := by have := kbit_range W key j; omega
          clear hs
          rcases hkb with hb | hb
          · rw [hb] at HB
            have HB2 := Lib.hid HB
            have hn : Hid (pre W key (j + 1) = 2 * pre W key j) := by show _ = _; rw [hpr.out, hb]; omega
            clear HB hb b4
            go_wp2_with fail
            go_big_quiet ((go_at_call 84; exact quietEqP (HB2.out _ (below_drewN_ (rf _) _))))
            go_wp2_with fail
            go_roundw
            case rel => exact ⟨j + 1, by omega, by go_num, by rw [hn.out], below_drewN_ hbr _, by rw [lastN_no HT.out]; exact hout⟩
            case measure => simp [intOf]; omega
          · rw [hb] at HB
            have HB2 := Lib.hid HB
            have hn : Hid (pre W key (j + 1) = 2 * pre W key j + 1) := by show _ = _; rw [hpr.out, hb]
            clear HB hb b3
            go_wp2_with fail
            go_big_quiet ((go_at_call 84; exact quietEqP (HB2.out _ (below_drewN_ (rf _) _))))
            go_wp2_with fail
            go_roundw
            case rel => exact ⟨j + 1, by omega, by go_num, by rw [hn.out], below_drewN_ hbr _, by rw [lastN_no HT.out]; exact hout⟩
            case measure => simp [intOf]; omega
  case rest =>
    obtain ⟨hbc, hcut⟩ := hcut
    have Bc := HB0.out.below hbc HB0.out.lt
    have x0 := Bc.cell 0
    have x1 := Bc.cell 1
    simp at x0 x1
    have xf0 := Bc.frozen 0
    have xf1 := Bc.frozen 1
    have xz := Bc.lt
    have hBc := hal.trans (hbc.mono hal.size)
    rcases hcut with ⟨hl, rfl, rfl⟩ | ⟨b, hl, rfl, rfl⟩
    · have hn : Hid (pfxFind (W : Int) E key = none) := by
        show _ = _
        unfold pfxFind
        rw [HF.out, if_pos rfl]
        show (match lastN (hasE E W key) (W + 1) with | none => none | some i => _) = _
        rw [hl]
      clear hl
      go_wp2_with fail
      exact bodyPost_ret (v := .tuple #[.agg #[.int .i64 0, .slice none 0 0], .int .i64 0, .bool false]) (by simp [results, Try.results23, go_sem, x0, x1, xf0, xf1, xz]) rfl (FindPost.none_ hn.out (by go_grown))
    · obtain ⟨hb1, hb2, _⟩ := lastN_some hl
      have he := HE.out b
      rw [show ((W : Nat) : Int).toNat = W from rfl] at he
      rw [hb2] at he
      cases e : adr b (pre W key b) with
      | none => rw [ent_none e] at he; cases he
      | some g =>
        rw [ent_some e] at he
        have ht : (dat b (pre W key b)).there = true := by
          cases t : (dat b (pre W key b)).there with
          | true => rfl
          | false => rw [t] at he; cases he
        have hEb : E b (pre W key b) = some ((dat b (pre W key b)).act, (dat b (pre W key b)).args) := by rw [← H2.out, ent_some e, ht]; rfl
        have hn : Hid (pfxFind (W : Int) E key = some (b, (dat b (pre W key b)).act, (dat b (pre W key b)).args)) := by
          show _ = _
          unfold pfxFind
          rw [HF.out, if_pos rfl]
          show (match lastN (hasE E W key) (W + 1) with | none => none | some i => (E i (pre W key i)).map fun (x : Int × List Int) => (i, x.1, x.2)) = _
          rw [hl]
          show (E b (pre W key b)).map (fun (x : Int × List Int) => (b, x.1, x.2)) = _
          rw [hEb]; rfl
        have hlen := hargs _ _ _ hEb
        simp only at hlen
        obtain ⟨⟨ao, an, ac, B1, R1, _⟩, _⟩ := (H1.out.below hbc).trie.node _ _ _ e
        generalize (dat b (pre W key b)).act = act at *
        generalize (dat b (pre W key b)).args = args at *
        have hr := R1.rd
        have hlen2 : an ≤ 1000000 := by rw [← hr.len]; exact hlen
        have y1 := B1.cell 1
        have y2 := B1.cell 2
        simp at y1 y2
        have yz := B1.lt
        have hgw : ¬ w.heap.size = g := by
          intro hh
          subst hh
          have := HB0.out.below hbc HB0.out.lt
          unfold Blk at this B1
          rw [this] at B1
          injection B1 with B1
          injection B1 with _ B1
          exact absurd B1 (by decide)
        rw [ptr_some]
        clear he hb2 hl e ht hEb
        go_wp2_with fail
        go_region_held3 (fun w' => w'.cell? ⟨g, 1, none⟩ = some (.int .i64 act) ∧ w'.cell? ⟨g, 2, none⟩ = some (.slice ao an ac))
          (first | exact ⟨y1, y2⟩ | exact ⟨keep (w := wc.drew) y1 hb4, keep (w := wc.drew) y2 hb4⟩ | go_keep)
          ((first
            | (go_at_call 83; (with_reducible refine (CloneNums_any _ _ _ _ _ (hr.below (Below.drew0_ wc)) hlen2).mono ?_); rintro e w4 ⟨r4, rfl, hm4, hb4⟩; obtain ⟨a4, c4, rfl⟩ := hm4.form; have B4 : Blk w4 w.heap.size _ _ := Blk.below (w := wc.drew) Bc hb4 Bc.lt; have m0 := B4.cell 0; have m1 := B4.cell 1; simp at m0 m1; have mf0 := B4.frozen 0; have mf1 := B4.frozen 1; have mz := B4.lt; have my1 := keep (w := wc.drew) y1 hb4; have my2 := keep (w := wc.drew) y2 hb4)))
        go_wp2_with fail
        exact bodyPost_ret (v := .tuple #[.agg #[.int .i64 act, .slice a4 args.length c4], .int .i64 (b : Int), .bool true]) (by simp [results, Try.results23, go_sem, m0, m1, mf0, mf1, mz]) rfl (FindPost.some_ hn.out ((hm4.set2 (show w.heap.size < wc.drew.heap.size from xz) _ _).rd_) (fun a ha => Nat.le_of_lt (Nat.lt_of_lt_of_le (show w.heap.size < wc.drew.heap.size from xz) (hm4.ge_ a ha))) (below2 (hBc.trans (((Below.drew0_ wc).trans hb4).mono hBc.size)) (Nat.le_refl _) _ _))
end Go.Proofs.Ytfakdapglbgokaa

/-
  Package prefix: prune. No condition.
-/
namespace Go.Proofs.Ytfakdapglbgokaa
set_option linter.all false
open Go.RowKit
attribute [local go_sem ↓] Go.wp_at_zero Go.wp_at_succ

/-- What prune leaves, from a place of the way on. -/
structure Pruned (W K : Nat) (key : Int) (M : Nat → Prop) (adr : Nat → Int → Option Nat) (dat : Nat → Int → Dat) (i : Nat) (w w' : World) (adr' : Nat → Int → Option Nat) : Prop where
  sub : ∀ j v g, adr' j v = some g → adr j v = some g
  off : ∀ j v, ¬ (i ≤ j ∧ j ≤ K ∧ v = pre W key j) → adr' j v = adr j v
  node : ∀ j g, i ≤ j → j ≤ K → adr' j (pre W key j) = some g → NodeAt w' M adr' j (pre W key j) g (datSet dat K (pre W key K) noDat j (pre W key j))
  step : Step (fun b => ∃ q, i ≤ q ∧ q ≤ K ∧ adr q (pre W key q) = some b) w w'
  gone : ∀ q, i ≤ q → q ≤ K → adr' q (pre W key q) = none → (q < K → (dat q (pre W key q)).there = false) ∧ adr' (q + 1) (2 * pre W key q) = none ∧ adr' (q + 1) (2 * pre W key q + 1) = none
def noCells (p q : Value) : Array Value := #[.bool false, .int .i64 0, .slice none 0 0, p, q]
theorem step3 (w : World) (g : Nat) (a b c : Value) : Step (fun k => k = g) w (((w.setCell ⟨g, 0, none⟩ a).setCell ⟨g, 1, none⟩ b).setCell ⟨g, 2, none⟩ c) :=
  ((Step.set (fun k => k = g) w ⟨g, 0, none⟩ rfl _).trans (Step.set (fun k => k = g) _ ⟨g, 1, none⟩ rfl _)).trans (Step.set (fun k => k = g) _ ⟨g, 2, none⟩ rfl _)
/-- The last place. -/
theorem Pruned.last {W K : Nat} {key : Int} {M : Nat → Prop} {adr : Nat → Int → Option Nat} {dat : Nat → Int → Dat} {w : World} (ht : Trie w M adr dat) {g : Nat} (hg : adr K (pre W key K) = some g) (keepIt : Bool)
    (hk : keepIt = false → adr (K + 1) (2 * pre W key K) = none ∧ adr (K + 1) (2 * pre W key K + 1) = none) :
    Pruned W K key M adr dat K w (((w.setCell ⟨g, 0, none⟩ (.bool false)).setCell ⟨g, 1, none⟩ (.int .i64 0)).setCell ⟨g, 2, none⟩ (.slice none 0 0)) (if keepIt then adr else adrSet adr K (pre W key K) none) := by
  obtain ⟨⟨ao, an, ac, b1, b2, b3⟩, b4⟩ := ht.node _ _ _ hg
  have hs := step3 w g (.bool false) (.int .i64 0) (.slice none 0 0)
  refine ⟨fun j v h e => ?_, fun j v hn => ?_, fun j h h1 h2 e => ?_, hs.mono fun b hb => ⟨K, Nat.le_refl _, Nat.le_refl _, by rw [show b = g from hb]; exact hg⟩, fun q h1 h2 e => ?_⟩
  · cases keepIt with
    | true => exact e
    | false =>
      by_cases hx : j = K ∧ v = pre W key K
      · obtain ⟨rfl, rfl⟩ := hx
        rw [if_neg (by decide), adrSet_at] at e; cases e
      · rw [if_neg (by decide), adrSet_ne hx] at e; exact e
  · cases keepIt with
    | true => rfl
    | false => rw [if_neg (by decide), adrSet_ne fun hx => hn ⟨by omega, by omega, by rw [hx.2, hx.1]⟩]
  · obtain rfl : j = K := by omega
    cases keepIt with
    | true =>
      rw [if_pos rfl] at e ⊢
      rw [hg] at e
      cases e
      rw [datSet_at]
      refine ⟨none, 0, 0, ?_, RdL.nil_ _ _ _, Fits.of_i64 (by decide) (by decide)⟩
      have := ((b1.set_ 0 (.bool false)).set_ 1 (.int .i64 0)).set_ 2 (.slice none 0 0)
      simpa [noDat] using this
    | false => rw [if_neg (by decide), adrSet_at] at e; cases e
  · obtain rfl : q = K := by omega
    cases keepIt with
    | true => rw [if_pos rfl, hg] at e; cases e
    | false =>
      rw [if_neg (by decide), adrSet_ne (by omega), adrSet_ne (by omega)]
      exact ⟨fun h => by omega, hk rfl⟩
/-- A place further up. 'c': which child the way takes. -/
theorem Pruned.back {W K i : Nat} {key : Int} {M : Nat → Prop} {adr adr' : Nat → Int → Option Nat} {dat : Nat → Int → Dat} {w w1 w2 : World} (ht : Trie w M adr dat) (hb1 : Below w.heap.size w w1) (hi : i < K) (hK : K ≤ W) {g c : Nat} (hg : adr i (pre W key i) = some g) (hc : c = 0 ∨ c = 1) (hp : pre W key (i + 1) = 2 * pre W key i + c)
    (h : Pruned W K key M adr dat (i + 1) w1 w2 adr') (keepIt : Bool) (hk : keepIt = false → (dat i (pre W key i)).there = false ∧ adr' (i + 1) (2 * pre W key i) = none ∧ adr' (i + 1) (2 * pre W key i + 1) = none) :
    Pruned W K key M adr dat i w (w2.setCell ⟨g, 3 + c, none⟩ (ptr (adr' (i + 1) (pre W key (i + 1))))) (if keepIt then adr' else adrSet adr' i (pre W key i) none) := by
  have hsame : adr' i (pre W key i) = some g := by rw [h.off _ _ (by omega)]; exact hg
  obtain ⟨⟨ao, an, ac, b1, b2, b3⟩, b4⟩ := (ht.below hb1).node _ _ _ hg
  have hng : ¬ (fun b => ∃ q, i + 1 ≤ q ∧ q ≤ K ∧ adr q (pre W key q) = some b) g := fun ⟨q, q1, q2, q3⟩ => by
    have := (ht.inj _ _ _ _ _ hg q3).1; omega
  have B2 : Blk w2 g _ _ := (h.step.block g b1.lt hng).trans b1
  have R2 : RdL (Lay.int .u64) (fun k => ¬ M k) w2 ao an ac (dat i (pre W key i)).args := b2.step (h.step.mono fun b ⟨q, _, _, q3⟩ => (ht.node _ _ _ q3).2)
  have hs := Step.set (fun k => k = g) w2 ⟨g, 3 + c, none⟩ rfl (ptr (adr' (i + 1) (pre W key (i + 1))))
  have hst : Step (fun b => ∃ q, i ≤ q ∧ q ≤ K ∧ adr q (pre W key q) = some b) w (w2.setCell ⟨g, 3 + c, none⟩ (ptr (adr' (i + 1) (pre W key (i + 1))))) :=
    ((Step.of hb1).trans (h.step.mono fun b ⟨q, q1, q2, q3⟩ => ⟨q, by omega, q2, q3⟩)).trans (hs.mono fun b hb => ⟨i, Nat.le_refl _, by omega, by rw [show b = g from hb]; exact hg⟩)
  have hnode : NodeAt (w2.setCell ⟨g, 3 + c, none⟩ (ptr (adr' (i + 1) (pre W key (i + 1))))) M adr' i (pre W key i) g (dat i (pre W key i)) := by
    refine ⟨ao, an, ac, ?_, R2.step (hs.mono fun b hb => by rw [show b = g from hb]; exact b4), b3⟩
    have B3 := B2.set_ (3 + c) (ptr (adr' (i + 1) (pre W key (i + 1))))
    rcases hc with rfl | rfl
    · have e1 : adr' (i + 1) (2 * pre W key i + 1) = adr (i + 1) (2 * pre W key i + 1) := h.off _ _ (by rw [hp]; omega)
      have e2 : pre W key (i + 1) = 2 * pre W key i := by rw [hp]; simp
      rw [e1, show adr' (i + 1) (2 * pre W key i) = adr' (i + 1) (pre W key (i + 1)) by rw [e2]]
      simpa using B3
    · have e1 : adr' (i + 1) (2 * pre W key i) = adr (i + 1) (2 * pre W key i) := h.off _ _ (by rw [hp]; omega)
      have e2 : pre W key (i + 1) = 2 * pre W key i + 1 := by rw [hp]; simp
      rw [e1, show adr' (i + 1) (2 * pre W key i + 1) = adr' (i + 1) (pre W key (i + 1)) by rw [e2]]
      simpa using B3
  -- the other nodes of the way
  have hoth : ∀ j h', i + 1 ≤ j → j ≤ K → adr' j (pre W key j) = some h' → NodeAt (w2.setCell ⟨g, 3 + c, none⟩ (ptr (adr' (i + 1) (pre W key (i + 1))))) M adr' j (pre W key j) h' (datSet dat K (pre W key K) noDat j (pre W key j)) := fun j h' j1 j2 e =>
    (h.node j h' j1 j2 e).step hs (fun b hb => by rw [show b = g from hb]; exact b4) (fun hb => by
      have := (ht.inj _ _ _ _ _ hg ((h.sub _ _ _ e).trans (by rw [show h' = g from hb]))).1; omega)
  have hdat : datSet dat K (pre W key K) noDat i (pre W key i) = dat i (pre W key i) := datSet_ne (by omega)
  refine ⟨fun j v b e => ?_, fun j v hn => ?_, fun j b h1 h2 e => ?_, hst, fun q h1 h2 e => ?_⟩
  · cases keepIt with
    | true => exact h.sub j v b e
    | false =>
      by_cases hx : j = i ∧ v = pre W key i
      · obtain ⟨rfl, rfl⟩ := hx
        rw [if_neg (by decide), adrSet_at] at e; cases e
      · rw [if_neg (by decide), adrSet_ne hx] at e; exact h.sub j v b e
  · have e1 : adr' j v = adr j v := h.off j v fun hx => hn ⟨by omega, hx.2.1, hx.2.2⟩
    cases keepIt with
    | true => exact e1
    | false => rw [if_neg (by decide), adrSet_ne fun hx => hn ⟨by omega, by omega, by rw [hx.2, hx.1]⟩]; exact e1
  · cases keepIt with
    | true =>
      rw [if_pos rfl] at e ⊢
      by_cases hj : j = i
      · subst hj
        rw [hsame] at e
        cases e
        rw [hdat]
        exact hnode
      · exact hoth j b (by omega) h2 e
    | false =>
      rw [if_neg (by decide)] at e ⊢
      by_cases hj : j = i
      · subst hj
        rw [adrSet_at] at e; cases e
      · rw [adrSet_ne (by omega)] at e
        obtain ⟨x, y, z, n1, n2, n3⟩ := hoth j b (by omega) h2 e
        exact ⟨x, y, z, by rw [adrSet_ne (by omega), adrSet_ne (by omega)]; exact n1, n2, n3⟩
  · cases keepIt with
    | true =>
      rw [if_pos rfl] at e ⊢
      by_cases hq : q = i
      · subst hq
        rw [hsame] at e; cases e
      · exact h.gone q (by omega) h2 e
    | false =>
      rw [if_neg (by decide)] at e ⊢
      by_cases hq : q = i
      · subst hq
        rw [adrSet_ne (by omega), adrSet_ne (by omega)]
        exact ⟨fun _ => (hk rfl).1, (hk rfl).2⟩
      · rw [adrSet_ne (by omega)] at e
        rw [adrSet_ne (by omega), adrSet_ne (by omega)]
        exact h.gone q (by omega) h2 e
set_option maxRecDepth 100000 in
set_option maxHeartbeats 4000000 in
theorem pfxPrune_any (gt W K : Nat) (key most n : Int) (M : Nat → Prop) (adr : Nat → Int → Option Nat) (dat : Nat → Int → Dat) (hW : W ≤ 64) (hK : K ≤ W) (hkey : Fits .u64 key) (hlt : key < 2 ^ W) :
    ∀ (d i : Nat), i + d = K → ∀ (w : World), Pfx w gt (W : Int) most n M adr dat → ∀ (g : Nat), adr i (pre W key i) = some g → adr K (pre W key K) ≠ none →
    Calls Try.prog 82 #[.pointer (some ⟨gt, 0, none⟩), .pointer (some ⟨g, 0, none⟩), .int .u64 key, .int .i64 (i : Int), .int .i64 (K : Int)] w fun e w' => ∃ adr', e = .returned (ptr (adr' i (pre W key i))) ∧ Pruned W K key M adr dat i w w' adr' := by
  intro d
  induction d with
  | zero =>
    intro i hi w h g hg hne
    obtain rfl : i = K := by omega
    obtain ⟨⟨ao, an, ac, B1, _, _⟩, _⟩ := h.trie.node _ _ _ hg
    have q : ((i : Int) == (i : Int)) = true := by simp
    have b0 := B1.cell 0
    have b1 := B1.cell 1
    have b2 := B1.cell 2
    have b3 := B1.cell 3
    have b4 := B1.cell 4
    simp at b0 b1 b2 b3 b4
    have bz := B1.lt
    have f0 := B1.frozen 0
    have f1 := B1.frozen 1
    have f2 := B1.frozen 2
    have HL := Lib.hid (fun keepIt hk => Pruned.last h.trie hg keepIt hk)
    have Hg := Lib.hid hg
    obtain ⟨x, hx⟩ : ∃ x, adr (i + 1) (2 * pre W key i) = x := ⟨_, rfl⟩
    obtain ⟨y, hy⟩ : ∃ y, adr (i + 1) (2 * pre W key i + 1) = y := ⟨_, rfl⟩
    rw [hx] at b3
    rw [hy] at b4
    have HX := Lib.hid hx
    have HY := Lib.hid hy
    have hEq := fun (p q : Option Addr) (w : World) => eq_next p q w
    clear h hg hne hx hy B1 hi
    cases x with
    | none =>
      cases y with
      | none =>
        rw [ptr_none] at b3 b4
        go_enter Try.func82, Try.ntmps82
        go_wp2_with fail
        go_ret
        exact ⟨_, by rw [show (if (false : Bool) then adr else adrSet adr i (pre W key i) none) = adrSet adr i (pre W key i) none from rfl, adrSet_at]; rfl, HL.out false fun _ => ⟨HX.out, HY.out⟩⟩
      | some y =>
        rw [ptr_none] at b3
        rw [ptr_some] at b4
        go_enter Try.func82, Try.ntmps82
        go_wp2_with fail
        go_ret
        exact ⟨adr, by rw [Hg.out]; rfl, HL.out true fun h => by cases h⟩
    | some x =>
      rw [ptr_some] at b3
      have hptr : ∃ py, ptr y = .pointer py := ⟨_, rfl⟩
      obtain ⟨py, hpy⟩ := hptr
      rw [hpy] at b4
      clear hpy
      go_enter Try.func82, Try.ntmps82
      go_wp2_with fail
      go_ret
      exact ⟨adr, by rw [Hg.out]; rfl, HL.out true fun h => by cases h⟩
  | succ d ih =>
    intro i hi w h g hg hne
    have q : ((i : Int) == (K : Int)) = false := by rw [beq_eq_false_iff_ne]; omega
    have hs := pre_succ key (show i < W by omega)
    have hpr := Lib.hid hs
    have HB := fun w' (hb : Below w.heap.size w w') => pfxBit_any gt W i key most n M adr dat w' (h.below hb) hW (by omega) hkey
    have hkb : kbit W key i = 0 ∨ kbit W key i = 1 := by have := kbit_range W key i; omega
    have hwr : IntKind.i64.wrap ((i : Int) + 1) = (i : Int) + 1 := i64_wrap_ (by omega) (by omega)
    have H := Lib.hid h
    clear hs
    rcases hkb with hb | hb
    · rw [hb] at HB
      have hn : pre W key (i + 1) = 2 * pre W key i := by rw [hpr.out, hb]; omega
      have HN := Lib.hid hn
      have hch : ∃ g1, adr (i + 1) (2 * pre W key i) = some g1 := by
        cases e1 : adr (i + 1) (2 * pre W key i) with
        | none => exact absurd (h.trie.none_up (show i + 1 ≤ K by omega) hK (by rw [hn]; exact e1)) hne
        | some g1 => exact ⟨g1, rfl⟩
      obtain ⟨g1, hg1⟩ := hch
      have hg1' : Hid (adr (i + 1) (pre W key (i + 1)) = some g1) := by show _ = _; rw [hn]; exact hg1
      obtain ⟨sb, hsb⟩ : ∃ sb, adr (i + 1) (2 * pre W key i + 1) = sb := ⟨_, rfl⟩
      have hIH0 : ∀ w1, Below w.heap.size w w1 → Calls Try.prog 82 #[.pointer (some ⟨gt, 0, none⟩), .pointer (some ⟨g1, 0, none⟩), .int .u64 key, .int .i64 ((i : Int) + 1), .int .i64 (K : Int)] w1 (fun e w' => ∃ adr', e = .returned (ptr (adr' (i + 1) (pre W key (i + 1)))) ∧ Pruned W K key M adr dat (i + 1) w1 w' adr') := by
        intro w1 hb1
        have e : (((i + 1 : Nat)) : Int) = (i : Int) + 1 := by omega
        have := ih (i + 1) (by omega) w1 (h.below hb1) g1 hg1'.out hne
        rw [e] at this
        exact this
      have hIH := Lib.hid hIH0
      clear hIH0
      obtain ⟨⟨ao, an, ac, B1, _, _⟩, _⟩ := h.trie.node _ _ _ hg
      rw [hg1, hsb, ptr_some] at B1
      have HSb := Lib.hid hsb
      have b3 := B1.cell 3
      simp at b3
      have bz := B1.lt
      have HB2 := Lib.hid HB
      have Hg := Lib.hid hg
      have Hne := Lib.hid hne
      have hEq := fun (p q : Option Addr) (w : World) => eq_next p q w
      clear HB hb hg1 hsb hn h hg hne ih
      go_enter Try.func82, Try.ntmps82
      go_wp2_with fail
      refine (HB2.out _ (rf _)).mono ?_
      rintro e w' ⟨rfl, rfl⟩
      go_wp2_with fail
      go_region_law ((first
        | (go_simp; go_at_call 82; refine (hIH.out w.drew (Below.drew0_ w)).mono ?_; rintro e w4 ⟨adr', rfl, hPr⟩; obtain ⟨pv, hpv⟩ : ∃ pv, ptr (adr' (i + 1) (pre W key (i + 1))) = Value.pointer pv := ⟨_, rfl⟩; rw [hpv]; have HPv := Lib.hid hpv; clear hpv; have hB4 : Blk w4 g _ _ := (hPr.step.block g B1.lt (fun ⟨q, q1, q2, q3⟩ => by have := (H.out.trie.inj _ _ _ _ _ Hg.out q3).1; omega)).trans B1; have fz := hB4.frozen 3; have z4 := hB4.lt; have q3 := hB4.cell 3; simp at q3)))
      all_goals
        have hBk := fun keepIt hk => Pruned.back (c := 0) H.out.trie (Below.drew0_ w) (show i < K by omega) hK Hg.out (.inl rfl) (by rw [HN.out]; simp) hPr keepIt hk
        have hch : (pv = none → adr' (i + 1) (pre W key (i + 1)) = none) := by
          intro hp
          have := HPv.out
          rw [hp] at this
          cases e1 : adr' (i + 1) (pre W key (i + 1)) with
          | none => rfl
          | some x => rw [e1] at this; cases this
        rw [HPv.out] at hBk
        have hsib : adr' (i + 1) (2 * pre W key i + 1) = sb := by rw [hPr.off _ _ (by rw [HN.out]; omega)]; exact HSb.out
        have hsm : adr' i (pre W key i) = some g := by rw [hPr.off _ _ (by omega)]; exact Hg.out
        have HBk := Lib.hid hBk
        have HC := Lib.hid hch
        have HSm := Lib.hid hsm
        have HSib := Lib.hid hsib
        have B5 := hB4.set_ 3 (.pointer pv)
        have c0 := B5.cell 0
        have c3 := B5.cell 3
        have c4 := B5.cell 4
        simp at c0 c3 c4
        have c5 := B5.lt
        clear hBk hch hsm hsib B5 hB4 hPr q3 fz z4 HPv b3 bz B1
        change Exit.then _ _ _ _ (w4.setCell ⟨g, 3 + 0, none⟩ (.pointer pv))
        generalize w4.setCell ⟨g, 3 + 0, none⟩ (.pointer pv) = w5 at *
        cases hth : (dat i (pre W key i)).there with
        | true =>
          rw [hth] at c0
          clear hth
          go_wp2_with fail
          go_ret
          exact ⟨adr', by rw [HSm.out]; rfl, HBk.out true fun h => by cases h⟩
        | false =>
          rw [hth] at c0
          have HTh := Lib.hid hth
          clear hth
          cases pv with
          | some px =>
            have hptr : ∃ py, ptr sb = Value.pointer py := ⟨_, rfl⟩
            obtain ⟨py, hpy⟩ := hptr
            rw [hpy] at c4
            clear hpy
            go_wp2_with fail
            go_ret
            exact ⟨adr', by rw [HSm.out]; rfl, HBk.out true fun h => by cases h⟩
          | none =>
            cases sb with
            | some sx =>
              rw [ptr_some] at c4
              go_wp2_with fail
              go_ret
              exact ⟨adr', by rw [HSm.out]; rfl, HBk.out true fun h => by cases h⟩
            | none =>
              rw [ptr_none] at c4
              go_wp2_with fail
              go_ret
              refine ⟨_, ?_, HBk.out false fun _ => ⟨HTh.out, ?_⟩⟩
              · rw [show (if (false : Bool) then adr' else adrSet adr' i (pre W key i) none) = adrSet adr' i (pre W key i) none from rfl, adrSet_at]; rfl
              · have hch0 := HC.out (by first | rfl | trivial)
                exact ⟨by rw [HN.out] at hch0; exact hch0, by rw [HSib.out]⟩
    · rw [hb] at HB
      have hn : pre W key (i + 1) = 2 * pre W key i + 1 := by rw [hpr.out, hb]
      have HN := Lib.hid hn
      have hch : ∃ g1, adr (i + 1) (2 * pre W key i + 1) = some g1 := by
        cases e1 : adr (i + 1) (2 * pre W key i + 1) with
        | none => exact absurd (h.trie.none_up (show i + 1 ≤ K by omega) hK (by rw [hn]; exact e1)) hne
        | some g1 => exact ⟨g1, rfl⟩
      obtain ⟨g1, hg1⟩ := hch
      have hg1' : Hid (adr (i + 1) (pre W key (i + 1)) = some g1) := by show _ = _; rw [hn]; exact hg1
      obtain ⟨sb, hsb⟩ : ∃ sb, adr (i + 1) (2 * pre W key i) = sb := ⟨_, rfl⟩
      have hIH0 : ∀ w1, Below w.heap.size w w1 → Calls Try.prog 82 #[.pointer (some ⟨gt, 0, none⟩), .pointer (some ⟨g1, 0, none⟩), .int .u64 key, .int .i64 ((i : Int) + 1), .int .i64 (K : Int)] w1 (fun e w' => ∃ adr', e = .returned (ptr (adr' (i + 1) (pre W key (i + 1)))) ∧ Pruned W K key M adr dat (i + 1) w1 w' adr') := by
        intro w1 hb1
        have e : (((i + 1 : Nat)) : Int) = (i : Int) + 1 := by omega
        have := ih (i + 1) (by omega) w1 (h.below hb1) g1 hg1'.out hne
        rw [e] at this
        exact this
      have hIH := Lib.hid hIH0
      clear hIH0
      obtain ⟨⟨ao, an, ac, B1, _, _⟩, _⟩ := h.trie.node _ _ _ hg
      rw [hg1, hsb, ptr_some] at B1
      have HSb := Lib.hid hsb
      have b3 := B1.cell 4
      simp at b3
      have bz := B1.lt
      have HB2 := Lib.hid HB
      have Hg := Lib.hid hg
      have Hne := Lib.hid hne
      have hEq := fun (p q : Option Addr) (w : World) => eq_next p q w
      clear HB hb hg1 hsb hn h hg hne ih
      go_enter Try.func82, Try.ntmps82
      go_wp2_with fail
      refine (HB2.out _ (rf _)).mono ?_
      rintro e w' ⟨rfl, rfl⟩
      go_wp2_with fail
      go_region_law ((first
        | (go_simp; go_at_call 82; refine (hIH.out w.drew (Below.drew0_ w)).mono ?_; rintro e w4 ⟨adr', rfl, hPr⟩; obtain ⟨pv, hpv⟩ : ∃ pv, ptr (adr' (i + 1) (pre W key (i + 1))) = Value.pointer pv := ⟨_, rfl⟩; rw [hpv]; have HPv := Lib.hid hpv; clear hpv; have hB4 : Blk w4 g _ _ := (hPr.step.block g B1.lt (fun ⟨q, q1, q2, q3⟩ => by have := (H.out.trie.inj _ _ _ _ _ Hg.out q3).1; omega)).trans B1; have fz := hB4.frozen 4; have z4 := hB4.lt; have q3 := hB4.cell 4; simp at q3)))
      all_goals
        have hBk := fun keepIt hk => Pruned.back (c := 1) H.out.trie (Below.drew0_ w) (show i < K by omega) hK Hg.out (.inr rfl) (by rw [HN.out]; simp) hPr keepIt hk
        have hch : (pv = none → adr' (i + 1) (pre W key (i + 1)) = none) := by
          intro hp
          have := HPv.out
          rw [hp] at this
          cases e1 : adr' (i + 1) (pre W key (i + 1)) with
          | none => rfl
          | some x => rw [e1] at this; cases this
        rw [HPv.out] at hBk
        have hsib : adr' (i + 1) (2 * pre W key i) = sb := by rw [hPr.off _ _ (by rw [HN.out]; omega)]; exact HSb.out
        have hsm : adr' i (pre W key i) = some g := by rw [hPr.off _ _ (by omega)]; exact Hg.out
        have HBk := Lib.hid hBk
        have HC := Lib.hid hch
        have HSm := Lib.hid hsm
        have HSib := Lib.hid hsib
        have B5 := hB4.set_ 4 (.pointer pv)
        have c0 := B5.cell 0
        have c3 := B5.cell 3
        have c4 := B5.cell 4
        simp at c0 c3 c4
        have c5 := B5.lt
        clear hBk hch hsm hsib B5 hB4 hPr q3 fz z4 HPv b3 bz B1
        change Exit.then _ _ _ _ (w4.setCell ⟨g, 3 + 1, none⟩ (.pointer pv))
        generalize w4.setCell ⟨g, 3 + 1, none⟩ (.pointer pv) = w5 at *
        cases hth : (dat i (pre W key i)).there with
        | true =>
          rw [hth] at c0
          clear hth
          go_wp2_with fail
          go_ret
          exact ⟨adr', by rw [HSm.out]; rfl, HBk.out true fun h => by cases h⟩
        | false =>
          rw [hth] at c0
          have HTh := Lib.hid hth
          clear hth
          cases pv with
          | some px =>
            have hptr : ∃ py, ptr sb = Value.pointer py := ⟨_, rfl⟩
            obtain ⟨py, hpy⟩ := hptr
            rw [hpy] at c3
            clear hpy
            go_wp2_with fail
            go_ret
            exact ⟨adr', by rw [HSm.out]; rfl, HBk.out true fun h => by cases h⟩
          | none =>
            cases sb with
            | some sx =>
              rw [ptr_some] at c3
              go_wp2_with fail
              go_ret
              exact ⟨adr', by rw [HSm.out]; rfl, HBk.out true fun h => by cases h⟩
            | none =>
              rw [ptr_none] at c3
              go_wp2_with fail
              go_ret
              refine ⟨_, ?_, HBk.out false fun _ => ⟨HTh.out, ?_⟩⟩
              · rw [show (if (false : Bool) then adr' else adrSet adr' i (pre W key i) none) = adrSet adr' i (pre W key i) none from rfl, adrSet_at]; rfl
              · have hch0 := HC.out (by first | rfl | trivial)
                exact ⟨by rw [HSib.out], by rw [HN.out] at hch0; exact hch0⟩
end Go.Proofs.Ytfakdapglbgokaa

/-
  Package prefix: Drop. No condition.
-/
namespace Go.Proofs.Ytfakdapglbgokaa
set_option linter.all false
open Go.RowKit
attribute [local go_sem ↓] Go.wp_at_zero Go.wp_at_succ

theorem Pruned.trie {W K : Nat} {key : Int} {M : Nat → Prop} {adr adr' : Nat → Int → Option Nat} {dat : Nat → Int → Dat} {w w' : World} (h : Pruned W K key M adr dat 0 w w' adr') (ht : Trie w M adr dat) (hK : K ≤ W) (hkey : 0 ≤ key) (hlt : key < 2 ^ W) : Trie w' M adr' (datSet dat K (pre W key K) noDat) := by
  have hpar : ∀ j c : Nat, j < W → c ≤ 1 → ∀ v : Int, 2 * v + c = pre W key (j + 1) → v = pre W key j := fun j c hj hc v e => by
    have := pre_succ key hj
    have := kbit_range W key j
    omega
  refine ⟨fun j v g e => ?_, fun j v i u g e1 e2 => ht.inj _ _ _ _ _ (h.sub _ _ _ e1) (h.sub _ _ _ e2), fun j v hne => ?_, fun k hk => Nat.lt_of_lt_of_le (ht.lt k hk) h.step.size⟩
  · have hM := (ht.node _ _ _ (h.sub _ _ _ e)).2
    refine ⟨?_, hM⟩
    by_cases hx : j ≤ K ∧ v = pre W key j
    · obtain ⟨h1, rfl⟩ := hx
      exact h.node j g (Nat.zero_le _) h1 e
    · have hg := h.sub _ _ _ e
      obtain ⟨x, y, z, n1, n2, n3⟩ := ((ht.node _ _ _ hg).1).step h.step (fun b ⟨q, _, _, q3⟩ => (ht.node _ _ _ q3).2) (fun ⟨q, q1, q2, q3⟩ => hx (by obtain ⟨rfl, rfl⟩ := ht.inj _ _ _ _ _ hg q3; exact ⟨q2, rfl⟩))
      rw [datSet_ne (fun hx2 => hx ⟨by omega, by rw [hx2.2, hx2.1]⟩)]
      refine ⟨x, y, z, ?_, n2, n3⟩
      rw [h.off (j + 1) (2 * v) (fun ⟨_, k1, k2⟩ => hx ⟨by omega, hpar j 0 (by omega) (by omega) v (by simpa using k2)⟩), h.off (j + 1) (2 * v + 1) (fun ⟨_, k1, k2⟩ => hx ⟨by omega, hpar j 1 (by omega) (by omega) v (by simpa using k2)⟩)]
      exact n1
  · intro hn
    by_cases hx : j ≤ K ∧ v / 2 = pre W key j
    · obtain ⟨h1, h2⟩ := hx
      rw [h2] at hn
      obtain ⟨_, c0, c1⟩ := h.gone j (Nat.zero_le _) h1 hn
      have : v = 2 * pre W key j ∨ v = 2 * pre W key j + 1 := by omega
      rcases this with rfl | rfl
      · exact hne c0
      · exact hne c1
    · rw [h.off j (v / 2) (fun ⟨_, k1, k2⟩ => hx ⟨k1, k2⟩)] at hn
      cases e : adr' (j + 1) v with
      | none => exact hne e
      | some g => exact ht.up j v (by rw [h.sub _ _ _ e]; simp) hn
theorem Pruned.ent {W K : Nat} {key : Int} {M : Nat → Prop} {adr adr' : Nat → Int → Option Nat} {dat : Nat → Int → Dat} {w w' : World} (h : Pruned W K key M adr dat 0 w w' adr') (i : Nat) (v : Int) :
    ent adr' (datSet dat K (pre W key K) noDat) i v = entSet (ent adr dat) K (pre W key K) none i v := by
  unfold entSet
  by_cases hx : i = K ∧ v = pre W key K
  · rw [if_pos hx]
    obtain ⟨rfl, rfl⟩ := hx
    cases e : adr' i (pre W key i) with
    | none => rw [ent_none e]
    | some g => rw [ent_some e, datSet_at]; rfl
  · rw [if_neg hx]
    cases e : adr' i v with
    | some g => rw [ent_some e, ent_some (h.sub _ _ _ e), datSet_ne hx]
    | none =>
      rw [ent_none e]
      by_cases hp : i ≤ K ∧ v = pre W key i
      · obtain ⟨h1, rfl⟩ := hp
        obtain ⟨t, _⟩ := h.gone i (Nat.zero_le _) h1 e
        have t := t (by rcases Nat.lt_or_ge i K with h2 | h2; exact h2; exact absurd ⟨Nat.le_antisymm h1 h2, by rw [Nat.le_antisymm h1 h2]⟩ hx)
        cases e2 : adr i (pre W key i) with
        | none => rw [ent_none e2]
        | some g => rw [ent_some e2, t]; rfl
      · rw [h.off i v (fun ⟨_, k1, k2⟩ => hp ⟨k1, k2⟩)] at e
        rw [ent_none e]
/-- A new root. -/
theorem Trie.addRoot {w : World} {M : Nat → Prop} {adr : Nat → Int → Option Nat} {dat : Nat → Int → Dat} (h : Trie w M adr dat) (h0 : adr 0 0 = none) (h1 : adr 1 0 = none) (h2 : adr 1 1 = none) :
    Trie (w.alloc (.cells node0 111)) M (adrSet adr 0 0 (some w.heap.size)) (datSet dat 0 0 noDat) := by
  have hal := al (rf w) (.cells node0 111)
  have hlt : ∀ i v b, adr i v = some b → b < w.heap.size := fun i v b e => by obtain ⟨⟨_, _, _, h1, _⟩, _⟩ := h.node i v b e; exact h1.lt
  refine ⟨fun i v g e => ?_, fun i v j u g e1 e2 => ?_, fun i v hne => ?_, fun k hk => Nat.lt_of_lt_of_le (h.lt k hk) hal.size⟩
  · by_cases hx : i = 0 ∧ v = 0
    · obtain ⟨rfl, rfl⟩ := hx
      rw [adrSet_at] at e
      cases e
      refine ⟨?_, fun hk => Nat.lt_irrefl _ (h.lt _ hk)⟩
      rw [datSet_at]
      refine ⟨none, 0, 0, ?_, RdL.nil_ _ _ _, Fits.of_i64 (by decide) (by decide)⟩
      rw [adrSet_ne (by omega), adrSet_ne (by omega), show (2 * (0 : Int)) = 0 by rfl, show ((0 : Int) + 1) = 1 by rfl, show (0 + 1) = 1 from rfl, h1, h2]
      exact Blk.new w 111 node0
    · rw [adrSet_ne hx] at e
      rw [datSet_ne hx]
      obtain ⟨n, m⟩ := (h.below hal).node i v g e
      obtain ⟨x, y, z, n1, n2, n3⟩ := n
      refine ⟨⟨x, y, z, ?_, n2, n3⟩, m⟩
      rw [adrSet_ne (by omega), adrSet_ne (by omega)]
      exact n1
  · by_cases hx : i = 0 ∧ v = 0
    · by_cases hy : j = 0 ∧ u = 0
      · exact ⟨hx.1.trans hy.1.symm, hx.2.trans hy.2.symm⟩
      · obtain ⟨rfl, rfl⟩ := hx
        rw [adrSet_at] at e1
        rw [adrSet_ne hy] at e2
        cases e1
        exact absurd (hlt _ _ _ e2) (Nat.lt_irrefl _)
    · rw [adrSet_ne hx] at e1
      by_cases hy : j = 0 ∧ u = 0
      · obtain ⟨rfl, rfl⟩ := hy
        rw [adrSet_at] at e2
        cases e2
        exact absurd (hlt _ _ _ e1) (Nat.lt_irrefl _)
      · rw [adrSet_ne hy] at e2
        exact h.inj _ _ _ _ _ e1 e2
  · rw [adrSet_ne (by omega)] at hne
    have := h.up i v hne
    unfold adrSet
    split
    · simp
    · exact this
def pfxDropC (width : Int) (E : Nat → Int → Option (Int × List Int)) (key k : Int) : Int :=
  if pfits width key k = false then 6 else if (E k.toNat (pre width.toNat key k.toNat)).isSome then 0 else 9
def pfxDropN (width n : Int) (E : Nat → Int → Option (Int × List Int)) (key k : Int) : Int := if pfxDropC width E key k = 0 then n - 1 else n
def pfxDropE (width : Int) (E : Nat → Int → Option (Int × List Int)) (key k : Int) : Nat → Int → Option (Int × List Int) := if pfxDropC width E key k = 0 then entSet E k.toNat (pre width.toNat key k.toNat) none else E
theorem pfxDrop_no {width n : Int} {E : Nat → Int → Option (Int × List Int)} {key k : Int} (h : pfxDropC width E key k ≠ 0) : pfxDropN width n E key k = n ∧ pfxDropE width E key k = E := by unfold pfxDropN pfxDropE; rw [if_neg h, if_neg h]; exact ⟨rfl, rfl⟩
theorem pfxDrop_yes {width n : Int} {E : Nat → Int → Option (Int × List Int)} {key k : Int} (h : pfxDropC width E key k = 0) : pfxDropN width n E key k = n - 1 ∧ pfxDropE width E key k = entSet E k.toNat (pre width.toNat key k.toNat) none := by unfold pfxDropN pfxDropE; rw [if_pos h, if_pos h]; exact ⟨rfl, rfl⟩
end Go.Proofs.Ytfakdapglbgokaa
