/-
  Texts joined: XWordJ XShZ XGrdH XCgro XWordM. No condition.
-/
import Derived.BigQuiet
import Derived.Deep.QuietTactic
import Derived.Outline
import Derived.Lib.Hide
import Derived.Test.YtfakdapglbgokaaProg
import Derived.Handy
import Derived.Test.YtfakdapglbgokaaI29
import Derived.Test.YtfakdapglbgokaaI27
import Derived.Test.YtfakdapglbgokaaI3
import Derived.Test.YtfakdapglbgokaaI23
import Derived.Test.YtfakdapglbgokaaI16
import Derived.Test.YtfakdapglbgokaaI17
/-
  The references' SameProgram. No condition.
-/
namespace Go.Proofs.Ytfakdapglbgokaa
set_option linter.all false
open Go.RowKit

set_option maxRecDepth 100000 in
set_option maxHeartbeats 4000000 in
theorem SameProgram_any (s1 s2 : Int) (to1 co1 to2 co2 : Option Addr) (tc1 cc1 tc2 cc2 : Nat) (t1 t2 : List Shape) (c1 c2 : List Ins) (A1 A2 : Nat → Prop) (w : World)
    (ht1 : RdL shapeLay A1 w to1 t1.length tc1 t1) (hc1 : RdL insLay A1 w co1 c1.length cc1 c1) (ht2 : RdL shapeLay A2 w to2 t2.length tc2 t2) (hc2 : RdL insLay A2 w co2 c2.length cc2 c2) :
    Calls Try.prog 35 #[.agg #[.int .i64 s1, .slice to1 t1.length tc1, .slice co1 c1.length cc1], .agg #[.int .i64 s2, .slice to2 t2.length tc2, .slice co2 c2.length cc2]] w fun e w' => e = .returned (.bool (decide ((⟨s1, t1, c1⟩ : Prog) = ⟨s2, t2, c2⟩))) ∧ Below w.heap.size w w' := by
  have l1 := ht1.lt
  have l2 := hc1.lt
  have l3 := ht2.lt
  have l4 := hc2.lt
  obtain ⟨E, hE⟩ : ∃ E, decide ((⟨s1, t1, c1⟩ : Prog) = ⟨s2, t2, c2⟩) = E := ⟨_, rfl⟩
  rw [hE]
  have HE := Lib.hid hE
  clear hE
  by_cases h1 : s1 = s2
  case neg =>
    have e1 : Hid (E = false) := by show _ = _; rw [← HE.out]; simp [h1]
    have q : (s1 != s2) = true := by rw [bne_iff_ne]; exact h1
    clear h1
    go_enter Try.func35, Try.ntmps35
    go_wp2_with fail
    go_ret
    exact ⟨by rw [e1.out]; rfl, by go_grown⟩
  subst h1
  by_cases h2 : t1.length = t2.length
  case neg =>
    have e1 : Hid (E = false) := by show _ = _; rw [← HE.out]; simp; intro h; subst h; exact absurd rfl h2
    have q : ((t1.length : Int) != (t2.length : Int)) = true := by rw [bne_iff_ne]; omega
    clear h2
    go_enter Try.func35, Try.ntmps35
    go_wp2_with fail
    go_ret
    exact ⟨by rw [e1.out]; rfl, by go_grown⟩
  by_cases h3 : c1.length = c2.length
  case neg =>
    have e1 : Hid (E = false) := by show _ = _; rw [← HE.out]; simp; intro _ h; subst h; exact absurd rfl h3
    have q : ((t1.length : Int) != (t2.length : Int)) = false := by rw [bne_eq_false_iff_eq]; omega
    have q2 : ((c1.length : Int) != (c2.length : Int)) = true := by rw [bne_iff_ne]; omega
    clear h2 h3
    go_enter Try.func35, Try.ntmps35
    go_wp2_with fail
    go_ret
    exact ⟨by rw [e1.out]; rfl, by go_grown⟩
  have q : ((t1.length : Int) != (t2.length : Int)) = false := by rw [bne_eq_false_iff_eq]; omega
  have q2 : ((c1.length : Int) != (c2.length : Int)) = false := by rw [bne_eq_false_iff_eq]; omega
  have H2 := Lib.hid h2
  have H3 := Lib.hid h3
  clear h2 h3
  have hk := blk2 (rf ((w.alloc (.cells #[.int .i64 s1, .slice to1 t1.length tc1, .slice co1 c1.length cc1] 63)).alloc (.cells #[.int .i64 s1, .slice to2 t2.length tc2, .slice co2 c2.length cc2] 63)))
  have HK : Kept (fun w' => (Below w.heap.size w w' ∧ Blk w' w.heap.size 63 #[.int .i64 s1, .slice to1 t1.length tc1, .slice co1 c1.length cc1]) ∧ Blk w' (w.heap.size + 1) 63 #[.int .i64 s1, .slice to2 t2.length tc2, .slice co2 c2.length cc2]) _ := ⟨⟨hk.1, hk.2.1⟩, hk.2.2⟩
  clear hk
  go_enter Try.func35, Try.ntmps35
  go_wp2_with fail
  generalize ((w.alloc (.cells #[.int .i64 s1, .slice to1 t1.length tc1, .slice co1 c1.length cc1] 63)).alloc (.cells #[.int .i64 s1, .slice to2 t2.length tc2, .slice co2 c2.length cc2] 63)) = w1 at *
  clear q q2
  go_loopw [5] (fun i wr => ∃ k : Nat, k ≤ t1.length ∧ (∀ j, j < k → nth t1 j = nth t2 j) ∧ i = .int .i64 k ∧ Below w1.heap.size w1 wr) (fun i _ => t1.length - (intOf i).toNat)
  case atStart => exact ⟨0, Nat.zero_le _, fun j hj => absurd hj (Nat.not_lt_zero j), rfl, rf _⟩
  case round =>
    obtain ⟨k, hk, hno, rfl, hbr⟩ := hrel
    have HN := Lib.hid hno
    clear hno
    replace HK := HK.to hbr
    have hd1 := HK.out.1.2.cell 1
    have he1 := HK.out.2.cell 1
    simp at hd1 he1
    have hz := HK.out.2.lt
    by_cases hlt : k < t1.length
    · obtain ⟨b, off, rfl, _, hb, hwf, hp0, hp1, hp2⟩ := (ht1.below HK.out.1.1).shape_at hlt
      obtain ⟨b', off', rfl, _, hb', hwf', hq0, hq1, hq2⟩ := (ht2.below HK.out.1.1).shape_at (i := k) (by have := H2.out; omega)
      have hi0 : (0 : Int) ≤ (k : Int) := by omega
      have hi1 : (k : Int) < (t1.length : Int) := by omega
      have hi2 : (k : Int) < (t2.length : Int) := by have := H2.out; omega
      clear hwf hwf' hb hb'
      have hg := guard_shape
      by_cases hx : nth t1 k = nth t2 k
      case neg =>
        have e1 : Hid (E = false) := by show _ = _; rw [← HE.out]; simp; intro h; subst h; exact absurd rfl hx
        have hq := fun w => eq_shape (nth t1 k) (nth t2 k) w
        rw [decide_eq_false hx] at hq
        have hBr := HK.out.1.1
        clear hx
        go_wp2_with fail
        go_quiet (fail)
        go_wp2_with fail
        go_ret
        exact ⟨by rw [e1.out]; rfl, below_drewN_ hBr _⟩
      have hq := fun w => eq_shape (nth t1 k) (nth t2 k) w
      rw [decide_eq_true hx] at hq
      have HN2 : Hid (∀ j, j < k + 1 → nth t1 j = nth t2 j) := fun j hj => by
        by_cases e : j = k
        · subst e; exact hx
        · exact HN.out j (by omega)
      clear hx
      go_wp2_with fail
      go_quiet (fail)
      go_wp2_with fail
      go_roundw
      case rel => exact ⟨k + 1, by omega, HN2.out, by go_num, below_drewN_ hbr _⟩
      case measure => simp [intOf]; omega
    · obtain rfl : k = t1.length := by omega
      have HT : Hid (t1 = t2) := ext_nth H2.out HN.out
      clear hlt hbr
      go_wp2_with fail
      obtain ⟨w2, hw2⟩ : ∃ w2, w2 = wr := ⟨_, rfl⟩
      rw [← hw2] at HK hz ⊢
      clear hw2 hd1 he1 hz
      go_loopw [6] (fun i wr => ∃ k : Nat, k ≤ c1.length ∧ (∀ j, j < k → nth c1 j = nth c2 j) ∧ i = .int .i64 k ∧ Below w2.heap.size w2 wr) (fun i _ => c1.length - (intOf i).toNat)
      case atStart => exact ⟨0, Nat.zero_le _, fun j hj => absurd hj (Nat.not_lt_zero j), rfl, rf _⟩
      case round =>
        obtain ⟨k, hk, hno, rfl, hbr⟩ := hrel
        have HN := Lib.hid hno
        clear hno
        replace HK := HK.to hbr
        have hd1 := HK.out.1.2.cell 2
        have he1 := HK.out.2.cell 2
        simp at hd1 he1
        have hz := HK.out.2.lt
        by_cases hlt : k < c1.length
        · obtain ⟨b, off, rfl, _, hb, hwf, hp0, hp1, hp2, hp3, hp4, hp5⟩ := (hc1.below HK.out.1.1).ins_at hlt
          obtain ⟨b', off', rfl, _, hb', hwf', hq0, hq1, hq2, hq3, hq4, hq5⟩ := (hc2.below HK.out.1.1).ins_at (i := k) (by have := H3.out; omega)
          have hi0 : (0 : Int) ≤ (k : Int) := by omega
          have hi1 : (k : Int) < (c1.length : Int) := by omega
          have hi2 : (k : Int) < (c2.length : Int) := by have := H3.out; omega
          clear hwf hwf' hb hb'
          have hg := guard_ins
          by_cases hx : nth c1 k = nth c2 k
          case neg =>
            have e1 : Hid (E = false) := by show _ = _; rw [← HE.out]; simp; intro _ h; subst h; exact absurd rfl hx
            have hq := fun w => eq_ins (nth c1 k) (nth c2 k) w
            rw [decide_eq_false hx] at hq
            have hBr := HK.out.1.1
            clear hx
            go_wp2_with fail
            go_quiet (fail)
            go_wp2_with fail
            go_ret
            exact ⟨by rw [e1.out]; rfl, below_drewN_ hBr _⟩
          have hq := fun w => eq_ins (nth c1 k) (nth c2 k) w
          rw [decide_eq_true hx] at hq
          have HN2 : Hid (∀ j, j < k + 1 → nth c1 j = nth c2 j) := fun j hj => by
            by_cases e : j = k
            · subst e; exact hx
            · exact HN.out j (by omega)
          clear hx
          go_wp2_with fail
          go_quiet (fail)
          go_wp2_with fail
          go_roundw
          case rel => exact ⟨k + 1, by omega, HN2.out, by go_num, below_drewN_ hbr _⟩
          case measure => simp [intOf]; omega
        · obtain rfl : k = c1.length := by omega
          have HC : c1 = c2 := ext_nth H3.out HN.out
          have e1 : Hid (E = true) := by show _ = _; rw [← HE.out, ← HC, ← HT.out]; simp
          have hBr := HK.out.1.1
          clear HC hlt hbr
          go_wp2_with fail
          go_ret
          exact ⟨by rw [e1.out]; rfl, hBr⟩
end Go.Proofs.Ytfakdapglbgokaa

/-
  The plain machine: loops and ends with less to say. No condition.
-/
namespace Go.Proofs.Ytfakdapglbgokaa
set_option linter.all false
open Go.RowKit
/-- Cells of a thing without names in them. -/
class PureF {α : Type} (f : α → List SV) : Prop where
  ren : ∀ σ x, (f x).map (Go.Proofs.Ytfakdapglbgokaa.ren σ) = f x
  ok : ∀ x, (f x).all ok2 = true
  pure : ∀ x, PureL (f x)
theorem rowf_ren {α : Type} (f : α → List SV) [PureF f] (σ : Nat → Nat) (xs : List α) : (xs.map f).map (·.map (ren σ)) = xs.map f := by
  rw [List.map_map]; exact List.map_congr_left fun x _ => PureF.ren σ x
theorem rowf_ok {α : Type} (f : α → List SV) [PureF f] (xs : List α) : ∀ x ∈ xs.map f, x.all ok2 = true := fun x hx => by obtain ⟨b, _, rfl⟩ := List.mem_map.1 hx; exact PureF.ok b
theorem rowf_pure {α : Type} (f : α → List SV) [PureF f] (xs : List α) : ∀ x ∈ xs.map f, PureL x := fun x hx => by obtain ⟨b, _, rfl⟩ := List.mem_map.1 hx; exact PureF.pure b
theorem rowf_pureO {α : Type} (f : α → List SV) [PureF f] (e z : Nat) (xs : List α) : PureO (.row e z (xs.map f)) ↔ True := ⟨fun _ => trivial, fun _ => rowf_pure f xs⟩
theorem pureL_ints (cs : List SV) (h : cs.all (fun x => match x with | .int _ _ | .bool _ | .str _ | .nil | .nilsl | .view _ _ | .cp _ => true | _ => false) = true) : PureL cs := fun x hx => by
  have := List.all_eq_true.1 h x hx
  cases x <;> first | exact pure_int _ _ | exact pure_bool _ | exact pure_str _ | exact pure_nil | exact pure_nilsl | exact pure_view _ _ | exact pure_cp _ | simp at this
instance pureF_int (k : IntKind) : PureF (fun n : Int => [SV.int k n]) := ⟨fun _ _ => rfl, fun _ => rfl, fun _ => pureL_ints _ rfl⟩
instance pureF_bool : PureF (fun b : Bool => [SV.bool b]) := ⟨fun _ _ => rfl, fun _ => rfl, fun _ => pureL_ints _ rfl⟩
/-- Rows without names in them. -/
class PureR (fs : List (List SV)) : Prop where
  ren : ∀ σ, fs.map (·.map (Go.Proofs.Ytfakdapglbgokaa.ren σ)) = fs
  ok : ∀ x ∈ fs, x.all ok2 = true
  pure : ∀ x ∈ fs, PureL x
instance pureR_map {α : Type} (f : α → List SV) [PureF f] (xs : List α) : PureR (xs.map f) := ⟨fun σ => rowf_ren f σ xs, rowf_ok f xs, rowf_pure f xs⟩
theorem pureR_O (e z : Nat) (fs : List (List SV)) [PureR fs] : PureO (.row e z fs) ↔ True := ⟨fun _ => trivial, fun _ => PureR.pure⟩
/-- A slot, an object, turned in its place. -/
def setS : Sl → Nat → SV → Sl
  | [], t, v => [(t, v)]
  | (u, x) :: l, t, v => if u = t then (t, v) :: l else (u, x) :: setS l t v
def setSs : Sl → List (Nat × SV) → Sl
  | l, [] => l
  | l, (t, v) :: r => setSs (setS l t v) r
def putHs : Hp → List (Nat × SObj) → Hp
  | h, [] => h
  | h, (i, o) :: r => putHs (puth h i o) r
def SSt.turn (s : SSt) (sl : List (Nat × SV)) (hp : List (Nat × SObj)) : SSt := ⟨setSs s.sl sl, putHs s.hp hp, s.nx⟩
variable {X : Cx} {s s' : SSt} {Q : SExit → SSt → Prop} {σ : Nat → Nat} {sl : Sl} {hp : Hp}
theorem slotsM_nil : SlotsM σ sl [] := trivial
theorem slotsM_cons {t : Nat} {v : SV} {r : Sl} (h : Co (gets sl t) (ren σ v)) (g : SlotsM σ sl r) : SlotsM σ sl ((t, v) :: r) := ⟨h, g⟩
theorem objsM_nil : ObjsM σ hp [] := trivial
theorem objsM_cells {i : Nat} {t : TypeId} {cs ds : List SV} {r : Hp} (h : geth hp (σ i) = some (.cells t cs)) (h2 : CoL cs (ds.map (ren σ))) (g : ObjsM σ hp r) : ObjsM σ hp ((i, .cells t ds) :: r) := ⟨⟨_, h, rfl, h2⟩, g⟩
theorem objsM_row {i e z : Nat} {es fs : List (List SV)} {r : Hp} (h : geth hp (σ i) = some (.row e z es)) (h2 : fs.map (·.map (ren σ)) = fs) (h3 : es = fs) (g : ObjsM σ hp r) : ObjsM σ hp ((i, .row e z fs) :: r) := ⟨⟨_, h, rfl, rfl, by rw [h2, h3]; exact CoLL.refl _⟩, g⟩
theorem objsM_rowm {i e z : Nat} {es fs : List (List SV)} [PureR fs] {r : Hp} (h : geth hp (σ i) = some (.row e z es)) (h3 : es = fs) (g : ObjsM σ hp r) : ObjsM σ hp ((i, .row e z fs) :: r) := objsM_row h (PureR.ren σ) h3 g
theorem objsM_rowc {i e z : Nat} {es fs : List (List SV)} {r : Hp} (h : geth hp (σ i) = some (.row e z es)) (h3 : CoLL es (fs.map (·.map (ren σ)))) (g : ObjsM σ hp r) : ObjsM σ hp ((i, .row e z fs) :: r) := ⟨⟨_, h, rfl, rfl, h3⟩, g⟩
theorem objsM_abs {i : Nat} {I : AbsI} {r : Hp} (h : geth hp (σ i) = some (.abs I)) (g : ObjsM σ hp r) : ObjsM σ hp ((i, .abs I) :: r) := ⟨⟨_, h, rfl⟩, g⟩
theorem subH_nil : SubH hp [] := trivial
theorem subH_cons {i : Nat} {o : SObj} {r : Hp} (h : geth hp i = some o) (g : SubH hp r) : SubH hp ((i, o) :: r) := ⟨h, g⟩
theorem coL_nil : CoL [] [] := trivial
theorem coL_cons {x y : SV} {xs ys : List SV} (h : Co x y) (g : CoL xs ys) : CoL (x :: xs) (y :: ys) := ⟨h, g⟩
theorem coL_nilm {f : SV → SV} : CoL [] (List.map f []) := trivial
theorem coL_consm {f : SV → SV} {x y : SV} {xs ys : List SV} (h : Co x (f y)) (g : CoL xs (ys.map f)) : CoL (x :: xs) ((y :: ys).map f) := ⟨h, g⟩
theorem co_wrap {a b c : Int} (h1 : -9223372036854775808 ≤ a + b ∧ a + b ≤ 9223372036854775807) (h : a + b = c) : Co (.int .i64 (IntKind.i64.wrap (a + b))) (.int .i64 c) := co_int (by rw [i64_add_ h1.1 h1.2, h])
/-- The names that stay. -/
def diag (m : Nat) (E : List (Nat × Nat)) (hp : Hp) : List (Nat × Nat) := ((List.range m ++ (idsH hp).filter fun i => decide (m ≤ i)).filter fun i => !(E.any fun p => p.1 == i)).map fun i => (i, i)
theorem wk_self (E : List (Nat × Nat)) {m : Nat} (hm : X.m = m) (hsl : SlotsM (rn (E ++ diag m E s'.hp) s.nx) s.sl s'.sl) (hhp : ObjsM (rn (E ++ diag m E s'.hp) s.nx) s.hp s'.hp) (hok : okNames m s'.nx (E ++ diag m E s'.hp) s'.hp = true) (hle : m ≤ s'.nx) : Wk X s s' := wk_list _ hm hok hle hsl hhp
/-- A loop over states F s a. -/
theorem swp_for {α : Type} {c : SCode} (F : SSt → α → SSt) (I : α → Prop) (μ : α → Nat) (a : α) (hw : Wk X s (F s a)) (h0 : I a) (h : ∀ J : SSt → Nat → Prop, RowKit.Hid (∀ a, I a → J (F s a) (μ a)) → ∀ a, I a → SWp X c (QLoop X J (μ a) Q) (F s a)) : SWp X (.loop c) Q s :=
  swp_loop (fun s' n => ∃ a, s' = F s a ∧ I a ∧ n = μ a) hw ⟨a, rfl, h0, rfl⟩ fun s' n ⟨a, e, hi, hn⟩ => by subst e hn; exact h _ (Lib.hid fun a hi => ⟨a, rfl, hi, rfl⟩) a hi
theorem qfor_next {α : Type} {F : α → SSt} {I : α → Prop} {μ : α → Nat} {n : Nat} {J : SSt → Nat → Prop} (hJ : RowKit.Hid (∀ a, I a → J (F a) (μ a))) (a : α) (hw : Wk X s' (F a)) (h0 : I a) (hn : μ a < n) : QLoop X J n Q .normal s' := ⟨F a, μ a, hw, (by have h : ∀ a, I a → J (F a) (μ a) := hJ; exact h a h0), hn⟩
/-- The end of a function, without objects. -/
theorem wk_fself (D : List Nat) (E : List (Nat × Nat)) {m : Nat} (hm : X.m = m) (hD : (D.all fun i => decide (m ≤ i)) = true) (hf : FrzOk s.hp D)
    (hsl : SlotsM (rn (E ++ diag m E s'.hp) s.nx) (frzS (geth s.hp) D s.sl) s'.sl) (hhp : ObjsM (rn (E ++ diag m E s'.hp) s.nx) (frzH (geth s.hp) D s.hp) s'.hp) (hok : okNames m s'.nx (E ++ diag m E s'.hp) s'.hp = true) (hle : m ≤ s'.nx) : Wk X s s' :=
  wk_fz D _ hm hD hf hok hle hsl hhp
/-- New rows, one name behind the other. -/
def RowsL : Nat → List (TypeId × Nat × List (List SV)) → Hp
  | _, [] => []
  | q, x :: r => (q, .row x.1 x.2.1 x.2.2) :: RowsL (q + 1) r
theorem rowsL_get : ∀ (l : List (TypeId × Nat × List (List SV))) (q i : Nat), geth (RowsL q l) (q + i) = (l[i]?).map fun x => .row x.1 x.2.1 x.2.2
  | [], _, _ => rfl
  | x :: r, q, 0 => by simp [RowsL, geth]
  | x :: r, q, i + 1 => by
    simp only [RowsL, geth]
    rw [if_neg (by omega), show q + (i + 1) = q + 1 + i by omega, rowsL_get r (q + 1) i]; simp
theorem rowsL_F {σ : Nat → Nat} {H : Hp} : ∀ (l : List (TypeId × Nat × List (List SV))) (a : Nat), (∀ x ∈ l, PureR x.2.2) → (∀ i x, l[i]? = some x → geth H (σ (a + i)) = some (.row x.1 x.2.1 x.2.2)) → ObjsF σ H (RowsL a l)
  | [], _, _, _ => trivial
  | x :: r, a, hp, h => by
    have := hp x (by simp)
    exact ⟨⟨.row x.1 x.2.1 x.2.2, h 0 x rfl, rfl, rfl, PureR.ok, (PureR.ren σ).symm⟩, rowsL_F r (a + 1) (fun y hy => hp y (by simp [hy])) fun i y hy => by rw [show a + 1 + i = a + (i + 1) by omega]; exact h (i + 1) y (by simpa using hy)⟩
theorem rowsL_ids (l : List (TypeId × Nat × List (List SV))) : ∀ q, idsH (RowsL q l) = (List.range' q l.length) := by
  induction l with
  | nil => intro q; rfl
  | cons x r ih => intro q; simp only [RowsL, List.length_cons, List.range'_succ]; rw [← ih]; rfl
/-- A function whose new rows are named anew. -/
theorem scalls_rows {P : Program} {f : FuncId} {args : List SV} {r : SV} (l : List (TypeId × Nat × List (List SV))) (h : SCalls P f args [] 0 r (RowsL 0 l)) (ha : ∀ σ, args.map (Go.Proofs.Ytfakdapglbgokaa.ren σ) = args) (hp : ∀ x ∈ l, PureR x.2.2) (hl : l.length ≤ 8) (q : Nat) {r' : SV} (hr : r' = Go.Proofs.Ytfakdapglbgokaa.ren (sg [] q) r) (hk : ok2 r = true) : SCalls P f args [] q r' (RowsL q l) := by
  have e : ∀ i, i < 8 → sg [] q i = q + i := fun i hi => by unfold sg; simp [hi]
  refine scalls_ren [] h rfl (by simp) (by simp) (ha _).symm trivial (by simp [idsH]) hr hk (rowsL_F l 0 hp fun i x hx => ?_) (fun i hi => ?_) ?_
  · have hi : i < l.length := (List.getElem?_eq_some_iff.1 hx).1
    rw [Nat.zero_add, e i (by omega), rowsL_get, hx]; rfl
  · rw [rowsL_ids] at hi
    have := List.mem_range'_1.1 hi
    simp; omega
  · rw [rowsL_ids, rowsL_ids]
    apply List.ext_getElem
    · simp
    · intro i h1 h2
      simp at h1
      simp [e i (by omega)]
end Go.Proofs.Ytfakdapglbgokaa

/-
  Package guard: what a program without a fault has. Plain. No condition.
-/
namespace Go.Proofs.Ytfakdapglbgokaa
set_option linter.all false
open Go.RowKit
theorem insP_of {slots : Int} {tabs : List Shape} {x : Ins} (hs : 0 ≤ slots ∧ slots ≤ 96) (ht : ∀ j, j < tabs.length → tabBad (nth tabs j) = false) (hw : x.wf) (h : insOk slots tabs x = true) : InsP slots tabs x ∧ 0 ≤ x.to := by
  have hn0 : 0 ≤ x.n := (Fits.u64 hw.2.2.2.2.2).1
  unfold insOk at h
  simp only [Bool.and_eq_true] at h
  obtain ⟨⟨_, hr⟩, hk⟩ := h
  unfold regsOk at hr
  simp only [Bool.and_eq_true, Bool.or_eq_true, decide_eq_true_eq] at hr
  obtain ⟨⟨h1, h2⟩, h3⟩ := hr
  have k13 : x.op = 13 → x.n < tabs.length ∧ slotsOk slots x.s (nth tabs x.n.toNat).keys = true ∧ slotsOk slots x.k (nth tabs x.n.toNat).args = true := fun e => by
    unfold kindOk at hk
    simpa [e, and_assoc] using hk
  have kt : x.op = 13 → tabBad (nth tabs x.n.toNat) = false := fun e => ht _ (by have := (k13 e).1; omega)
  refine ⟨⟨h1, fun e => h2.resolve_left e, hn0, fun e => ?_, fun e => ?_, fun e => ?_, fun e => (k13 e).1, fun e => ?_, fun e => ?_, fun e => ?_, hs⟩, h3⟩
  · unfold kindOk at hk
    simpa [e] using hk
  · unfold kindOk at hk
    rcases e with e | e <;> simpa [e] using hk
  · unfold kindOk at hk
    simpa [e] using hk
  · have := tabBad_false (kt e); omega
  · have := (k13 e).2.1; unfold slotsOk at this; simpa using this
  · have := (k13 e).2.2; unfold slotsOk at this; simpa using this
theorem progF_ins_ok {p : Prog} (hx : ∀ x ∈ p.code, x.wf) (h : (progF p).1 = 0) : ∀ i, i < p.code.length → InsP p.slots p.tabs (nth p.code i) ∧ 0 ≤ (nth p.code i).to ∧ (hasT (nth p.code i).op = true → (nth p.code i).to < (p.code.length : Int) - i - 1) := by
  have hv := (progF_valid hx h).1
  by_cases h1 : p.slots < 0 ∨ 96 < p.slots
  · rw [progF_slots h1] at h; cases h
  by_cases h2 : 5 < p.tabs.length ∨ p.code.length = 0 ∨ 60000 < p.code.length
  · rw [progF_many h1 h2] at h; cases h
  by_cases h4 : firstN (insBad p.slots p.tabs p.code) p.code.length < p.code.length
  · rw [progF_ins h1 h2 hv.tab (firstN_before _ _) h4 (firstN_at _ _ h4)] at h
    simp only at h
    split at h <;> cases h
  have h4' := firstN_all (insBad p.slots p.tabs p.code) p.code.length (by have := firstN_le (insBad p.slots p.tabs p.code) p.code.length; omega)
  intro i hi
  have hb := h4' i hi
  unfold insBad at hb
  simp only [Bool.or_eq_false_iff, Bool.not_eq_false'] at hb
  obtain ⟨q1, q2⟩ := insP_of hv.slots hv.tab (by rw [nth_lt _ _ hi]; exact hx _ (List.getElem_mem hi)) hb.1
  refine ⟨q1, q2, fun ht => ?_⟩
  have := hb.2
  unfold jumpBad at this
  rw [ht] at this
  simpa using this
end Go.Proofs.Ytfakdapglbgokaa

/-
  The plain machine's code of functions (printed by scode.py). No condition.
-/
namespace Go.Proofs.Ytfakdapglbgokaa
set_option linter.all false
open Go.RowKit
abbrev c_ownp_r1 : List SOper := [⟨(some 1), .box 63 (.t 0), none, none, 0⟩,
  ⟨(some 2), .alloc 63 [(.int .i64 0), .nilsl, .nilsl], none, none, 0⟩]
abbrev c_ownp_r2 : List SOper := [⟨(some 3), .mv (.c .nilsl), none, none, 0⟩]
abbrev c_ownp_r3 : List SOper := [⟨(some 4), .mv (.c .nilsl), none, none, 0⟩]
abbrev c_ownp_r4 : List SOper := [⟨(some 5), .faddr 0 (.t 1), none, none, 0⟩,
  ⟨(some 6), .load (.t 5), none, none, 1⟩,
  ⟨(some 7), .mv (.t 3), none, none, 0⟩,
  ⟨(some 8), .faddr 1 (.t 1), none, none, 0⟩,
  ⟨(some 9), .load (.t 8), none, none, 8⟩,
  ⟨(some 10), .app 123 3 24 (.t 7) (.t 9), none, none, 28⟩,
  ⟨(some 11), .mv (.t 4), none, none, 0⟩,
  ⟨(some 12), .faddr 2 (.t 1), none, none, 0⟩,
  ⟨(some 13), .load (.t 12), none, none, 128⟩,
  ⟨(some 14), .app 56 6 48 (.t 11) (.t 13), none, none, 508⟩,
  ⟨(some 15), .build [(.int .i64 0), .nilsl, .nilsl] [(0, 1, (.t 6)), (1, 1, (.t 10)), (2, 1, (.t 14))], none, none, 1023⟩,
  ⟨none, .store 3 (.t 2) (.t 15), none, none, 2047⟩]
def c_ownp : SCode := (.seq (.reg false c_ownp_r1 [1, 2]) (.seq (.reg false c_ownp_r2 [1, 2, 3]) (.seq (.reg false c_ownp_r3 [1, 2, 3, 4]) (.seq (.reg true c_ownp_r4 [2]) .ret))))
theorem comp_c_ownp : comp Try.prog 16 ((Try.f47.body).getD .skip) = some c_ownp.erase := by kernel_rfl
end Go.Proofs.Ytfakdapglbgokaa

/-
  A program of a machine that came in: how it lies in cells. No condition.
-/
namespace Go.Proofs.Ytfakdapglbgokaa
set_option linter.all false
open Go.RowKit Go.ChangeShapes Go.WideShapes

theorem opens_int : Opens Try.prog 3 (Lay.int .i64) := Opens.int Try.underlying3 (by kernel_rfl)
theorem opens_u64 : Opens Try.prog 23 (Lay.int .u64) := Opens.int Try.underlying23 (by kernel_rfl)
theorem opens_shape : Opens Try.prog 123 shapeLay := by
  have h : Opens Try.prog 123 (Lay.pair (Lay.int .i64) (Lay.pair (Lay.int .i64) (Lay.int .i64))) :=
    Opens.struct Try.underlying123 (OpensF.cons opens_int rfl (OpensF.cons opens_int rfl (OpensF.one opens_int rfl))) (by kernel_rfl) (by decide)
  refine h.weak rfl ?_
  rintro w ⟨a, b, c⟩ cs ⟨x, y, rfl, ⟨rfl, h1⟩, z, u, rfl, ⟨rfl, h2⟩, rfl, h3⟩
  exact ⟨⟨a, b, c⟩, rfl, h1, h2, h3⟩
theorem opens_ins : Opens Try.prog 56 insLay := by
  have h : Opens Try.prog 56 (Lay.pair (Lay.int .i64) (Lay.pair (Lay.int .i64) (Lay.pair (Lay.int .i64) (Lay.pair (Lay.int .i64) (Lay.pair (Lay.int .i64) (Lay.int .u64)))))) :=
    Opens.struct Try.underlying56 (OpensF.cons opens_int rfl (OpensF.cons opens_int rfl (OpensF.cons opens_int rfl (OpensF.cons opens_int rfl (OpensF.cons opens_int rfl (OpensF.one opens_u64 rfl)))))) (by kernel_rfl) (by decide)
  refine h.weak rfl ?_
  rintro w ⟨a, b, c, d, e, f⟩ cs ⟨_, _, rfl, ⟨rfl, h1⟩, _, _, rfl, ⟨rfl, h2⟩, _, _, rfl, ⟨rfl, h3⟩, _, _, rfl, ⟨rfl, h4⟩, _, _, rfl, ⟨rfl, h5⟩, rfl, h6⟩
  exact ⟨⟨a, b, c, d, e, f⟩, rfl, h1, h2, h3, h4, h5, h6⟩
theorem opens_shapes : Opens Try.prog 47 (Lay.slice shapeLay) := opens_shape.slice Try.underlying47 (by kernel_rfl)
theorem opens_inss : Opens Try.prog 51 (Lay.slice insLay) := opens_ins.slice Try.underlying51 (by kernel_rfl)
theorem opens_prog : Opens Try.prog 63 (Lay.pair (Lay.int .i64) (Lay.pair (Lay.slice shapeLay) (Lay.slice insLay))) := by
  refine Opens.struct Try.underlying63 ?_ (by kernel_rfl) (by decide)
  refine OpensF.cons opens_int rfl ?_
  refine OpensF.cons opens_shapes rfl ?_
  exact OpensF.one opens_inss rfl
set_option maxRecDepth 100000 in
/-- A program that came in by value. -/
theorem open_prog {H : Type} {enc : TypeId × Value → H} {w : World} {r : Reach} {b0 : Nat} {v : Value} {d : DataW H} {p : List MemPlace}
    (hv : Value.okWide Try.prog w r b0 63 v) (ht : DataW.Trod enc Try.prog w 0 (fun _ => true) true 63 v d p) :
    ∃ slots to_ tn tc co cn cc tabs code, v = .agg #[.int .i64 slots, .slice to_ tn tc, .slice co cn cc] ∧ Fits .i64 slots ∧ RdL shapeLay NoA w to_ tn tc tabs ∧ RdL insLay NoA w co cn cc code := by
  obtain ⟨⟨slots, tabs, code⟩, cs, hv', hr⟩ := opens_prog.arg Try.underlying63 hv ht
  subst hv'
  obtain ⟨c1, d1, e, hr1, hr2⟩ := hr
  obtain ⟨rfl, h1⟩ := hr1
  obtain ⟨c2, d2, rfl, hr3, hr4⟩ := hr2
  obtain ⟨to_, tn, tc, rfl, h2⟩ := hr3
  obtain ⟨co, cn, cc, rfl, h3⟩ := hr4
  refine ⟨slots, to_, tn, tc, co, cn, cc, tabs, code, ?_, h1, h2, h3⟩
  obtain ⟨l⟩ := cs
  simp only at e
  rw [e]; rfl
end Go.Proofs.Ytfakdapglbgokaa
