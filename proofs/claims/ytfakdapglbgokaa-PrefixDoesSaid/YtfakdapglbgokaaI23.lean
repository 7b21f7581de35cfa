/-
  Texts joined: XRowJ XRowK XRowL XShX. No condition.
-/
import Derived.Test.YtfakdapglbgokaaI22
import Derived.Test.YtfakdapglbgokaaI20
/-
  The reference's tables, in the plain machine: All. No condition.
-/
namespace Go.Proofs.Ytfakdapglbgokaa
set_option linter.all false
open Go.RowKit
attribute [local simp] sops_nil sops_run sopsk_some sops_call sops_guard sopsg_yes sopsg_tf sopsg_ft sopsg_undef rg_true SOp.run SX.ev putd puts argS upds SOp.touch SSt.keep SSt.skip gets geth puth delh idOf SV.cells? setL fillS fillR sbin eq0 eq1 eqL rowOf qseq_n qseq_e qseq_r qblock_n qblock_r qblock_e qloop_e qloop_r take_map_len FrzOk pureV_int pureV_bool pureV_str pureV_nil pureV_nilsl pureV_view pureV_cp pureL_nil_ pureL_cons_ pureO_row pureO_cells frzS frzH frz frz1 frz0 SlotsM ObjsM ObjM rn ren ren1 ren0 co_self co_int co_own co_view co_nilsl co_agg co_tup CoL coll_self mergeH dels adds idsH okNames ren_ents ren_ents2 ren_nums ren_ecells
theorem lessL_self : ∀ xs : List Int, lessL xs xs = 0
  | [] => rfl
  | x :: xs => by show (if x < x then (-1 : Int) else if x > x then 1 else lessL xs xs) = 0; rw [if_neg (by omega), if_neg (by omega)]; exact lessL_self xs
theorem lessL_swap : ∀ xs ys : List Int, lessL ys xs = - lessL xs ys
  | [], [] => rfl
  | [], _ :: _ => rfl
  | _ :: _, [] => rfl
  | x :: xs, y :: ys => by
    show (if y < x then (-1 : Int) else if y > x then 1 else lessL ys xs) = - (if x < y then (-1 : Int) else if x > y then 1 else lessL xs ys)
    rw [lessL_swap xs ys]
    (repeat' split) <;> omega
theorem lessL_zero : ∀ {xs ys : List Int}, lessL xs ys = 0 → xs = ys
  | [], [], _ => rfl
  | [], _ :: _, h => by cases h
  | _ :: _, [], h => by cases h
  | x :: xs, y :: ys, h => by
    have h2 : (if x < y then (-1 : Int) else if x > y then 1 else lessL xs ys) = 0 := h
    split at h2
    · cases h2
    · split at h2
      · cases h2
      · rw [lessL_zero h2, show x = y by omega]
theorem ahead_asymm {a b : Entry} (h : aheadB a b = true) : aheadB b a = false := by
  unfold aheadB at h ⊢
  have h1 := lessL_swap a.keys b.keys
  have h2 := lessL_swap a.masks b.masks
  rw [h1, h2]
  (repeat' split at h) <;> (repeat' split) <;> simp_all <;> omega
/-- Is an entry still to come, behind the first n? -/
def candB (S : List Entry) (n : Nat) (x : Entry) : Bool := match n with
  | 0 => true
  | m + 1 => match S[m]? with
    | some l => aheadB l x
    | none => true
def BestA (S L : List Entry) (n i : Nat) (b : Int) : Prop :=
  (b = -1 ∧ ∀ j a, j < i → L[j]? = some a → candB S n a = false) ∨ ∃ (k : Nat) (e : Entry), b = k ∧ k < i ∧ L[k]? = some e ∧ candB S n e = true ∧ ∀ j a, j < i → L[j]? = some a → candB S n a = true → aheadB a e = false
theorem sorted_lt {S : List Entry} (hS : S.Pairwise fun a b => aheadB a b = true) {i j : Nat} (hij : i < j) (hj : j < S.length) : aheadB S[i] S[j] = true := List.pairwise_iff_getElem.1 hS i j (by omega) hj hij
theorem cand_iff {S : List Entry} (hS : S.Pairwise fun a b => aheadB a b = true) {n m : Nat} (hn : n ≤ S.length) (hm : m < S.length) : candB S n S[m] = true ↔ n ≤ m := by
  cases n with
  | zero => simp [candB]
  | succ k =>
    show (match S[k]? with | some l => aheadB l S[m] | none => true) = true ↔ k + 1 ≤ m
    rw [List.getElem?_eq_getElem (by omega)]
    show aheadB S[k] S[m] = true ↔ k + 1 ≤ m
    rcases Nat.lt_or_ge k m with h | h
    · rw [sorted_lt hS h hm]; simp; omega
    · have : aheadB S[k] S[m] = false := by
        rcases Nat.lt_or_ge m k with h2 | h2
        · exact ahead_asymm (sorted_lt hS h2 (by omega))
        · obtain rfl : m = k := by omega
          unfold aheadB; rw [if_pos rfl, if_pos (lessL_self _), if_pos rfl, lessL_self]; rfl
      rw [this]; simp; omega
theorem bestA_end {S L : List Entry} (hS : S.Pairwise fun a b => aheadB a b = true) (hp : S.Perm L) {n : Nat} (hn : n < S.length) {b : Int} (h : BestA S L n L.length b) : ∃ k : Nat, b = k ∧ L[k]? = some S[n] := by
  have mem : ∀ m (hm : m < S.length), ∃ j, j < L.length ∧ L[j]? = some S[m] := fun m hm => by
    obtain ⟨j, hj⟩ := List.getElem?_of_mem (hp.mem_iff.1 (List.getElem_mem hm))
    exact ⟨j, (List.getElem?_eq_some_iff.1 hj).1, hj⟩
  obtain ⟨j, hj, hjn⟩ := mem n hn
  rcases h with ⟨rfl, h⟩ | ⟨k, e, rfl, hk, he, hc, hb⟩
  · have := h j _ hj hjn
    rw [(cand_iff hS (by omega) hn).2 (Nat.le_refl _)] at this; cases this
  · refine ⟨k, rfl, ?_⟩
    obtain ⟨m, hm0⟩ := List.getElem?_of_mem (hp.mem_iff.2 (List.mem_of_getElem? he))
    obtain ⟨hm, rfl⟩ := List.getElem?_eq_some_iff.1 hm0
    have h1 := (cand_iff hS (by omega) hm).1 hc
    rcases Nat.lt_or_ge n m with h2 | h2
    · have := hb j _ hj hjn ((cand_iff hS (by omega) hn).2 (Nat.le_refl _))
      rw [sorted_lt hS h2 hm] at this; cases this
    · obtain rfl : m = n := by omega
      exact he
end Go.Proofs.Ytfakdapglbgokaa

/-
  The reference's tables, in the plain machine: All. No condition.
-/
namespace Go.Proofs.Ytfakdapglbgokaa
set_option linter.all false
open Go.RowKit
theorem frz_ents2 (g : Nat → Option SObj) (D : List Nat) (L : List Entry) : List.map ((fun x => List.map (frz0 g D) x) ∘ ecells) L = L.map ecells := rfl
attribute [local simp] sops_nil sops_run sopsk_some sops_call sops_guard sopsg_yes sopsg_tf sopsg_ft sopsg_undef rg_true SOp.run SX.ev putd puts argS upds SOp.touch SSt.keep SSt.skip gets geth puth delh idOf SV.cells? setL fillS fillR sbin eq0 eq1 eqL rowOf qseq_n qseq_e qseq_r qblock_n qblock_r qblock_e qloop_e qloop_r take_map_len FrzOk pureV_int pureV_bool pureV_str pureV_nil pureV_nilsl pureV_view pureV_cp pureL_nil_ pureL_cons_ pureO_row pureO_cells frzS frzH frz frz1 frz0 SlotsM ObjsM ObjM rn ren ren1 ren0 co_self co_int co_own co_view co_nilsl co_agg co_tup CoL coll_self mergeH dels adds idsH okNames ren_ents ren_ents2 ren_nums ren_ecells frz_ents2
theorem ahead_q (a b : Entry) (hs : Small a) (q : Nat) : SCalls Try.prog 97 [.agg (ecells a), .agg (ecells b)] [] q (.bool (aheadB a b)) [] := scalls_q (ahead_s a b hs) (fun σ => rfl) (fun σ => rfl) rfl q
theorem bestA_no {S L : List Entry} {n i : Nat} {b : Int} (hi : i < L.length) (h : BestA S L n i b) (hc : candB S n L[i] = false) : BestA S L n (i + 1) b := by
  rcases h with ⟨rfl, h⟩ | ⟨k, e, rfl, hk, he, hce, hb⟩
  · exact .inl ⟨rfl, all_succ hi h hc⟩
  · exact .inr ⟨k, e, rfl, by omega, he, hce, all_succ (P := fun a => candB S n a = true → aheadB a e = false) hi hb fun h => by rw [hc] at h; cases h⟩
theorem bestA_new {S L : List Entry} {n i : Nat} {b : Int} (hi : i < L.length) (h : BestA S L n i b) (hc : candB S n L[i] = true) (hb2 : b = -1 ∨ ∃ (k : Nat) (hk : k < L.length), b = k ∧ aheadB L[i] L[k] = true) (hS : ∀ a ∈ L, ∀ c ∈ L, ∀ d ∈ L, aheadB a c = true → aheadB d c = false → aheadB d a = false) : BestA S L n (i + 1) i := by
  refine .inr ⟨i, L[i], rfl, by omega, by simp [hi], hc, ?_⟩
  have hself : aheadB L[i] L[i] = false := by unfold aheadB; rw [if_pos rfl, if_pos (lessL_self _), if_pos rfl, lessL_self]; rfl
  rcases h with ⟨rfl, h⟩ | ⟨k, e, rfl, hk, he, hce, hb⟩
  · exact all_succ (P := fun a => candB S n a = true → aheadB a L[i] = false) hi (fun j a hj ha hca => by rw [h j a hj ha] at hca; cases hca) fun _ => hself
  · rcases hb2 with h2 | ⟨k2, hk2, h2, h3⟩
    · omega
    · obtain rfl : k = k2 := by omega
      rw [List.getElem?_eq_getElem hk2] at he; cases he
      exact all_succ (P := fun a => candB S n a = true → aheadB a L[i] = false) hi (fun j a hj ha hca => hS L[i] (List.getElem_mem _) L[k] (List.getElem_mem _) a (List.mem_of_getElem? ha) h3 (hb j a hj ha hca)) fun _ => hself
theorem bestA_old {S L : List Entry} {n i : Nat} {k : Nat} (hi : i < L.length) (hk : k < L.length) (h : BestA S L n i k) (hn : aheadB L[i] L[k] = false) : BestA S L n (i + 1) k := by
  rcases h with ⟨h1, h⟩ | ⟨k2, e, h1, hk2, he, hce, hb⟩
  · omega
  · obtain rfl : k = k2 := by omega
    rw [List.getElem?_eq_getElem hk] at he; cases he
    exact .inr ⟨k, L[k], rfl, by omega, by simp [hk], hce, all_succ (P := fun a => candB S n a = true → aheadB a L[k] = false) hi hb fun _ => hn⟩
theorem sorted_iff {S : List Entry} (hS : S.Pairwise fun a b => aheadB a b = true) {i j : Nat} (hi : i < S.length) (hj : j < S.length) : aheadB S[i] S[j] = true ↔ i < j := by
  have := cand_iff hS (n := i + 1) (m := j) (by omega) hj
  unfold candB at this
  simp only [List.getElem?_eq_getElem hi] at this
  exact this
theorem sorted_hS {S L : List Entry} (hS : S.Pairwise fun a b => aheadB a b = true) (hp : S.Perm L) : ∀ a ∈ L, ∀ c ∈ L, ∀ d ∈ L, aheadB a c = true → aheadB d c = false → aheadB d a = false := by
  intro a ha c hc d hd h1 h2
  obtain ⟨i, hi0⟩ := List.getElem?_of_mem (hp.mem_iff.2 ha)
  obtain ⟨j, hj0⟩ := List.getElem?_of_mem (hp.mem_iff.2 hc)
  obtain ⟨m, hm0⟩ := List.getElem?_of_mem (hp.mem_iff.2 hd)
  obtain ⟨hi, rfl⟩ := List.getElem?_eq_some_iff.1 hi0
  obtain ⟨hj, rfl⟩ := List.getElem?_eq_some_iff.1 hj0
  obtain ⟨hm, rfl⟩ := List.getElem?_eq_some_iff.1 hm0
  have k1 := (sorted_iff hS hi hj).1 h1
  have k2 : ¬ m < j := fun h => by rw [(sorted_iff hS hm hj).2 h] at h2; cases h2
  cases h3 : aheadB S[m] S[i] with
  | false => rfl
  | true => have := (sorted_iff hS hm hi).1 h3; omega
set_option maxHeartbeats 4000000 in
theorem rall_s (k ks wd ms : Int) (L S : List Entry) (hs : ∀ a ∈ L, Small a) (hL : L.length ≤ 1000000) (hS : S.Pairwise fun a b => aheadB a b = true) (hp : S.Perm L) : SCalls Try.prog 44 [.ptr 0 0] (rowsH k ks wd ms L) 2 (ents S) (rowsH k ks wd ms L) := by
  refine scalls_of (N := 75) Try.func44 rfl rfl (by kernel_rfl) comp_c_rall (by simp) ⟨rfl, trivial⟩ (rowsH_lt _ _ _ _ _) ?_
  rintro X hP hN hm
  have hlen : S.length = L.length := hp.length_eq
  have hsS : ∀ a ∈ S, Small a := fun a ha => hs a (hp.mem_iff.1 ha)
  unfold c_rall rowsH rowsC rowsL
  repeat' (first
    | (with_reducible refine swp_seq ?_)
    | (with_reducible refine swp_reg ?_; (try rw [hP]); simp -implicitDefEqProofs [*])
    | (with_reducible refine swp_regd (by rw [hP]; exact mixed) ?_; (try rw [hP]); simp -implicitDefEqProofs [*])
    | (refine swp_skip ?_; (try simp -implicitDefEqProofs [*]))
    | (refine swp_exit ?_; (try simp -implicitDefEqProofs [*]))
    | (refine swp_ret ?_; (try simp only [qseq_r, qblock_r, qloop_r]))
    | (with_reducible refine swp_cond rfl (fun h => ?_) (fun h => ?_) <;> have h' := h <;> (try simp at h') <;> (try subst h'))
    | (with_reducible refine sopsg_cases (fun h => ?_) (fun h => ?_) <;> have h' := h <;> (try simp at h') <;> (try subst h') <;> simp -implicitDefEqProofs [*])
    | (refine draw_ok rfl ?_)
    | (with_reducible refine sopsk_rg ?_ ?_; (first | omega | (unfold maxLen; omega)); simp -implicitDefEqProofs [*])
    | (with_reducible refine swp_block1 ?_))
  refine swp_wk (wk_adopt 3 30 6 rfl) ?_
  refine swp_block (swp_loop (fun s m => ∃ n : Nat, s = ⟨[(0, .ptr 0 0), (3, .own 2 n)], [(0, rowsC k ks wd ms 1 L.length), (1, rowsL L), (2, .row 30 6 ((S.take n).map ecells))], 3⟩ ∧ n ≤ L.length ∧ m = L.length - n) (wk_list [(0, 0), (1, 1), (2, 4)] hm rfl (by simp) (by simp -implicitDefEqProofs) (by simp -implicitDefEqProofs [rowsC, rowsL])) ⟨0, rfl, by omega, rfl⟩ ?_)
  rintro s m ⟨n, rfl, hn, rfl⟩
  unfold c_rall_l2
  repeat' (first
    | (with_reducible refine swp_seq ?_)
    | (with_reducible refine swp_reg ?_; (try rw [hP]); simp -implicitDefEqProofs [ecells, nums, rowsC, rowsL, *])
    | (with_reducible refine swp_regd (by rw [hP]; exact mixed) ?_; (try rw [hP]); simp -implicitDefEqProofs [ecells, nums, rowsC, rowsL, *])
    | (refine swp_skip ?_; (try simp -implicitDefEqProofs [ecells, nums, rowsC, rowsL, *]))
    | (refine swp_exit ?_; (try simp -implicitDefEqProofs [ecells, nums, rowsC, rowsL, *]))
    | (refine swp_ret ?_; (try simp only [qseq_r, qblock_r, qloop_r]))
    | (with_reducible refine swp_cond rfl (fun h => ?_) (fun h => ?_) <;> have h' := h <;> (try simp at h') <;> (try subst h'))
    | (with_reducible refine sopsg_cases (fun h => ?_) (fun h => ?_) <;> have h' := h <;> (try simp at h') <;> (try subst h') <;> simp -implicitDefEqProofs [ecells, nums, rowsC, rowsL, *])
    | (refine draw_ok rfl ?_)
    | (with_reducible refine sopsk_rg ?_ ?_; (first | omega | (unfold maxLen; omega)); simp -implicitDefEqProofs [ecells, nums, rowsC, rowsL, *])
    | (with_reducible refine swp_block1 ?_))
  · have hnS : n < S.length := by omega
    have hsh := sorted_hS hS hp
    refine swp_block (swp_loop (fun s m => ∃ (i : Nat) (b : Int), s = ⟨[(0, .ptr 0 0), (3, .own 2 n), (4, .int .i64 b), (5, .int .i64 i)], [(0, rowsC k ks wd ms 1 L.length), (1, rowsL L), (2, .row 30 6 ((S.take n).map ecells))], 3⟩ ∧ i ≤ L.length ∧ BestA S L n i b ∧ m = L.length - i) (wk_list [(0, 0), (1, 1), (2, 2)] hm rfl (by simp) (by simp -implicitDefEqProofs) (by simp -implicitDefEqProofs [rowsC, rowsL])) ⟨0, -1, rfl, by omega, .inl ⟨rfl, by intro j a hj; omega⟩, rfl⟩ ?_)
    rintro s m ⟨i, b, rfl, h1, hb, rfl⟩
    unfold c_rall_l1
    rcases Nat.lt_or_ge i L.length with hi | hi
    · have hbr : b = -1 ∨ ∃ k : Nat, b = k ∧ k < i := by
        rcases hb with ⟨h, _⟩ | ⟨k, _, h, h2, _⟩
        · exact .inl h
        · exact .inr ⟨k, h, h2⟩
      have hno := fun hc => bestA_no hi hb hc
      have hnew := fun hc hb2 => bestA_new hi hb hc hb2 hsh
      have hold := fun (k : Nat) (hk : k < L.length) (e : b = k) hn => bestA_old (k := k) hi hk (by rw [← e]; exact hb) hn
      replace hno := Lib.hid hno
      replace hnew := Lib.hid hnew
      replace hold := Lib.hid hold
      replace hb := Lib.hid hb
      cases n with
      | zero =>
        have hcand : candB S 0 L[i] = true := rfl
        replace hcand := Lib.hid hcand
        rcases hbr with rfl | ⟨q, rfl, hq⟩
        ·
          repeat' (first
            | (with_reducible refine swp_seq ?_)
            | (with_reducible refine swp_reg ?_; (try rw [hP]); simp -implicitDefEqProofs [ecells, nums, rowsC, rowsL, *])
            | (with_reducible refine swp_regd (by rw [hP]; exact mixed) ?_; (try rw [hP]); simp -implicitDefEqProofs [ecells, nums, rowsC, rowsL, *])
            | (refine swp_skip ?_; (try simp -implicitDefEqProofs [ecells, nums, rowsC, rowsL, *]))
            | (refine swp_exit ?_; (try simp -implicitDefEqProofs [ecells, nums, rowsC, rowsL, *]))
            | (refine swp_ret ?_; (try simp only [qseq_r, qblock_r, qloop_r]))
            | (with_reducible refine swp_cond rfl (fun h => ?_) (fun h => ?_) <;> have h' := h <;> (try simp at h') <;> (try subst h'))
            | (with_reducible refine sopsg_cases (fun h => ?_) (fun h => ?_) <;> have h' := h <;> (try simp at h') <;> (try subst h') <;> simp -implicitDefEqProofs [ecells, nums, rowsC, rowsL, *])
            | (refine draw_ok rfl ?_)
            | (with_reducible refine sopsk_rg ?_ ?_; (first | omega | (unfold maxLen; omega)); simp -implicitDefEqProofs [ecells, nums, rowsC, rowsL, *])
            | (with_reducible refine swp_block1 ?_)
            | (refine call_q (ahead_q _ _ (by first | exact hs _ (by simp) | exact hsS _ (by simp)) _) ?_; simp -implicitDefEqProofs [ecells, nums, rowsC, rowsL, *])
            | ((rw [i64_add_ (by omega) (by omega)]; refine qloop_next (wk_list [(0, 0), (1, 1), (2, 2)] hm rfl (by simp) ?_ ?_) ⟨i + 1, i, rfl, by omega, ?_, rfl⟩ (by omega); (focus (simp -implicitDefEqProofs; done)); (focus (simp -implicitDefEqProofs [rowsC, rowsL]; done))))
            | ((rw [i64_add_ (by omega) (by omega)]; refine qloop_next (wk_list [(0, 0), (1, 1), (2, 2)] hm rfl (by simp) ?_ ?_) ⟨i + 1, -1, rfl, by omega, ?_, rfl⟩ (by omega); (focus (simp -implicitDefEqProofs; done)); (focus (simp -implicitDefEqProofs [rowsC, rowsL]; done)))))
          all_goals first
            | exact hno.out (hcand.out.trans ‹_›)
            | exact hnew.out hcand.out (.inl rfl)
            | exact hnew.out hcand.out (.inr ⟨_, ‹_›, rfl, ‹_›⟩)
            | exact hnew.out (hcand.out.trans ‹_›) (.inl rfl)
            | exact hnew.out (hcand.out.trans ‹_›) (.inr ⟨_, ‹_›, rfl, ‹_›⟩)
            | exact hold.out _ ‹_› rfl ‹_›
        · have hqL : q < L.length := by omega
          have hq0 : ¬ ((q : Int) < 0) := by omega
          repeat' (first
            | (with_reducible refine swp_seq ?_)
            | (with_reducible refine swp_reg ?_; (try rw [hP]); simp -implicitDefEqProofs [ecells, nums, rowsC, rowsL, *])
            | (with_reducible refine swp_regd (by rw [hP]; exact mixed) ?_; (try rw [hP]); simp -implicitDefEqProofs [ecells, nums, rowsC, rowsL, *])
            | (refine swp_skip ?_; (try simp -implicitDefEqProofs [ecells, nums, rowsC, rowsL, *]))
            | (refine swp_exit ?_; (try simp -implicitDefEqProofs [ecells, nums, rowsC, rowsL, *]))
            | (refine swp_ret ?_; (try simp only [qseq_r, qblock_r, qloop_r]))
            | (with_reducible refine swp_cond rfl (fun h => ?_) (fun h => ?_) <;> have h' := h <;> (try simp at h') <;> (try subst h'))
            | (with_reducible refine sopsg_cases (fun h => ?_) (fun h => ?_) <;> have h' := h <;> (try simp at h') <;> (try subst h') <;> simp -implicitDefEqProofs [ecells, nums, rowsC, rowsL, *])
            | (refine draw_ok rfl ?_)
            | (with_reducible refine sopsk_rg ?_ ?_; (first | omega | (unfold maxLen; omega)); simp -implicitDefEqProofs [ecells, nums, rowsC, rowsL, *])
            | (with_reducible refine swp_block1 ?_)
            | (refine call_q (ahead_q _ _ (by first | exact hs _ (by simp) | exact hsS _ (by simp)) _) ?_; simp -implicitDefEqProofs [ecells, nums, rowsC, rowsL, *])
            | ((rw [i64_add_ (by omega) (by omega)]; refine qloop_next (wk_list [(0, 0), (1, 1), (2, 2)] hm rfl (by simp) ?_ ?_) ⟨i + 1, i, rfl, by omega, ?_, rfl⟩ (by omega); (focus (simp -implicitDefEqProofs; done)); (focus (simp -implicitDefEqProofs [rowsC, rowsL]; done))))
            | ((rw [i64_add_ (by omega) (by omega)]; refine qloop_next (wk_list [(0, 0), (1, 1), (2, 2)] hm rfl (by simp) ?_ ?_) ⟨i + 1, q, rfl, by omega, ?_, rfl⟩ (by omega); (focus (simp -implicitDefEqProofs; done)); (focus (simp -implicitDefEqProofs [rowsC, rowsL]; done)))))
          all_goals first
            | exact hno.out (hcand.out.trans ‹_›)
            | exact hnew.out hcand.out (.inl rfl)
            | exact hnew.out hcand.out (.inr ⟨_, ‹_›, rfl, ‹_›⟩)
            | exact hnew.out (hcand.out.trans ‹_›) (.inl rfl)
            | exact hnew.out (hcand.out.trans ‹_›) (.inr ⟨_, ‹_›, rfl, ‹_›⟩)
            | exact hold.out _ ‹_› rfl ‹_›
      | succ m =>
        have hmS : m < S.length := by omega
        have hwm : IntKind.i64.wrap (m : Int) = m := IntWalk.i64_in _ ⟨by omega, by omega⟩
        have hcand : candB S (m + 1) L[i] = aheadB S[m] L[i] := by unfold candB; simp only [List.getElem?_eq_getElem hmS]
        replace hcand := Lib.hid hcand
        rcases hbr with rfl | ⟨q, rfl, hq⟩
        ·
          repeat' (first
            | (with_reducible refine swp_seq ?_)
            | (with_reducible refine swp_reg ?_; (try rw [hP]); simp -implicitDefEqProofs [ecells, nums, rowsC, rowsL, *])
            | (with_reducible refine swp_regd (by rw [hP]; exact mixed) ?_; (try rw [hP]); simp -implicitDefEqProofs [ecells, nums, rowsC, rowsL, *])
            | (refine swp_skip ?_; (try simp -implicitDefEqProofs [ecells, nums, rowsC, rowsL, *]))
            | (refine swp_exit ?_; (try simp -implicitDefEqProofs [ecells, nums, rowsC, rowsL, *]))
            | (refine swp_ret ?_; (try simp only [qseq_r, qblock_r, qloop_r]))
            | (with_reducible refine swp_cond rfl (fun h => ?_) (fun h => ?_) <;> have h' := h <;> (try simp at h') <;> (try subst h'))
            | (with_reducible refine sopsg_cases (fun h => ?_) (fun h => ?_) <;> have h' := h <;> (try simp at h') <;> (try subst h') <;> simp -implicitDefEqProofs [ecells, nums, rowsC, rowsL, *])
            | (refine draw_ok rfl ?_)
            | (with_reducible refine sopsk_rg ?_ ?_; (first | omega | (unfold maxLen; omega)); simp -implicitDefEqProofs [ecells, nums, rowsC, rowsL, *])
            | (with_reducible refine swp_block1 ?_)
            | (refine call_q (ahead_q _ _ (by first | exact hs _ (by simp) | exact hsS _ (by simp)) _) ?_; simp -implicitDefEqProofs [ecells, nums, rowsC, rowsL, *])
            | ((rw [i64_add_ (by omega) (by omega)]; refine qloop_next (wk_list [(0, 0), (1, 1), (2, 2)] hm rfl (by simp) ?_ ?_) ⟨i + 1, i, rfl, by omega, ?_, rfl⟩ (by omega); (focus (simp -implicitDefEqProofs; done)); (focus (simp -implicitDefEqProofs [rowsC, rowsL]; done))))
            | ((rw [i64_add_ (by omega) (by omega)]; refine qloop_next (wk_list [(0, 0), (1, 1), (2, 2)] hm rfl (by simp) ?_ ?_) ⟨i + 1, -1, rfl, by omega, ?_, rfl⟩ (by omega); (focus (simp -implicitDefEqProofs; done)); (focus (simp -implicitDefEqProofs [rowsC, rowsL]; done)))))
          all_goals first
            | exact hno.out (hcand.out.trans ‹_›)
            | exact hnew.out hcand.out (.inl rfl)
            | exact hnew.out hcand.out (.inr ⟨_, ‹_›, rfl, ‹_›⟩)
            | exact hnew.out (hcand.out.trans ‹_›) (.inl rfl)
            | exact hnew.out (hcand.out.trans ‹_›) (.inr ⟨_, ‹_›, rfl, ‹_›⟩)
            | exact hold.out _ ‹_› rfl ‹_›
        · have hqL : q < L.length := by omega
          have hq0 : ¬ ((q : Int) < 0) := by omega
          repeat' (first
            | (with_reducible refine swp_seq ?_)
            | (with_reducible refine swp_reg ?_; (try rw [hP]); simp -implicitDefEqProofs [ecells, nums, rowsC, rowsL, *])
            | (with_reducible refine swp_regd (by rw [hP]; exact mixed) ?_; (try rw [hP]); simp -implicitDefEqProofs [ecells, nums, rowsC, rowsL, *])
            | (refine swp_skip ?_; (try simp -implicitDefEqProofs [ecells, nums, rowsC, rowsL, *]))
            | (refine swp_exit ?_; (try simp -implicitDefEqProofs [ecells, nums, rowsC, rowsL, *]))
            | (refine swp_ret ?_; (try simp only [qseq_r, qblock_r, qloop_r]))
            | (with_reducible refine swp_cond rfl (fun h => ?_) (fun h => ?_) <;> have h' := h <;> (try simp at h') <;> (try subst h'))
            | (with_reducible refine sopsg_cases (fun h => ?_) (fun h => ?_) <;> have h' := h <;> (try simp at h') <;> (try subst h') <;> simp -implicitDefEqProofs [ecells, nums, rowsC, rowsL, *])
            | (refine draw_ok rfl ?_)
            | (with_reducible refine sopsk_rg ?_ ?_; (first | omega | (unfold maxLen; omega)); simp -implicitDefEqProofs [ecells, nums, rowsC, rowsL, *])
            | (with_reducible refine swp_block1 ?_)
            | (refine call_q (ahead_q _ _ (by first | exact hs _ (by simp) | exact hsS _ (by simp)) _) ?_; simp -implicitDefEqProofs [ecells, nums, rowsC, rowsL, *])
            | ((rw [i64_add_ (by omega) (by omega)]; refine qloop_next (wk_list [(0, 0), (1, 1), (2, 2)] hm rfl (by simp) ?_ ?_) ⟨i + 1, i, rfl, by omega, ?_, rfl⟩ (by omega); (focus (simp -implicitDefEqProofs; done)); (focus (simp -implicitDefEqProofs [rowsC, rowsL]; done))))
            | ((rw [i64_add_ (by omega) (by omega)]; refine qloop_next (wk_list [(0, 0), (1, 1), (2, 2)] hm rfl (by simp) ?_ ?_) ⟨i + 1, q, rfl, by omega, ?_, rfl⟩ (by omega); (focus (simp -implicitDefEqProofs; done)); (focus (simp -implicitDefEqProofs [rowsC, rowsL]; done)))))
          all_goals first
            | exact hno.out (hcand.out.trans ‹_›)
            | exact hnew.out hcand.out (.inl rfl)
            | exact hnew.out hcand.out (.inr ⟨_, ‹_›, rfl, ‹_›⟩)
            | exact hnew.out (hcand.out.trans ‹_›) (.inl rfl)
            | exact hnew.out (hcand.out.trans ‹_›) (.inr ⟨_, ‹_›, rfl, ‹_›⟩)
            | exact hold.out _ ‹_› rfl ‹_›
    · obtain rfl : i = L.length := by omega
      obtain ⟨q, rfl, hqe⟩ := bestA_end hS hp hnS hb
      obtain ⟨hqL, hqe2⟩ := List.getElem?_eq_some_iff.1 hqe
      have hn1 : n ≤ S.length := by omega
      replace hb := Lib.hid hb
      have hz1 : n + 1 ≤ maxLen ∧ (n + 1) * 96 ≤ 140737488355328 := by unfold maxLen; omega
      repeat' (first
        | (with_reducible refine swp_seq ?_)
        | (with_reducible refine swp_reg ?_; (try rw [hP]); simp -implicitDefEqProofs [ecells, nums, rowsC, rowsL, *])
        | (with_reducible refine swp_regd (by rw [hP]; exact mixed) ?_; (try rw [hP]); simp -implicitDefEqProofs [ecells, nums, rowsC, rowsL, *])
        | (refine swp_skip ?_; (try simp -implicitDefEqProofs [ecells, nums, rowsC, rowsL, *]))
        | (refine swp_exit ?_; (try simp -implicitDefEqProofs [ecells, nums, rowsC, rowsL, *]))
        | (refine swp_ret ?_; (try simp only [qseq_r, qblock_r, qloop_r]))
        | (with_reducible refine swp_cond rfl (fun h => ?_) (fun h => ?_) <;> have h' := h <;> (try simp at h') <;> (try subst h'))
        | (with_reducible refine sopsg_cases (fun h => ?_) (fun h => ?_) <;> have h' := h <;> (try simp at h') <;> (try subst h') <;> simp -implicitDefEqProofs [ecells, nums, rowsC, rowsL, *])
        | (refine draw_ok rfl ?_)
        | (with_reducible refine sopsk_rg ?_ ?_; (first | omega | (unfold maxLen; omega)); simp -implicitDefEqProofs [ecells, nums, rowsC, rowsL, *])
        | (with_reducible refine swp_block1 ?_)
        | (refine call_q (call_own S[n] (hsS _ (List.getElem_mem _)) _) ?_; simp -implicitDefEqProofs [ecells, nums, rowsC, rowsL, *]))
      have hrow : List.take (n + 1) (List.map ecells S) = List.take n (List.map ecells S) ++ [ecells S[n]] := by
        rw [← List.map_take, List.take_succ_eq_append_getElem hnS, List.map_append, List.map_take]; rfl
      exact qloop_next (wk_list [(0, 0), (1, 1), (2, 27)] hm rfl (by simp) (by simp -implicitDefEqProofs) (by simp -implicitDefEqProofs [rowsC, rowsL]; rw [hrow]; exact .refl _)) ⟨n + 1, rfl, by omega, rfl⟩ (by omega)
  · obtain rfl : n = S.length := by omega
    exact qfun_done (s' := ⟨[(2, ents S)], [(0, rowsC k ks wd ms 1 L.length), (1, rowsL L)], 2⟩) (wk_fz [2] [(0, 0), (1, 1)] hm rfl (by simp -implicitDefEqProofs [pure_ecells]) rfl (by simp) (by simp -implicitDefEqProofs [ents]) (by simp -implicitDefEqProofs [rowsC, rowsL])) rfl ⟨rfl, rfl, trivial⟩ (by simp)
end Go.Proofs.Ytfakdapglbgokaa

/-
  The reference's tables, in the plain machine: contracts under other names. No condition.
-/
namespace Go.Proofs.Ytfakdapglbgokaa
set_option linter.all false
open Go.RowKit
theorem row_ok2 (L : List Entry) : ∀ x ∈ L.map ecells, x.all ok2 = true := by
  intro x hx
  obtain ⟨e, _, rfl⟩ := List.mem_map.1 hx
  rfl
/-- Entries turn, the row stays where it is. -/
theorem rows_same {f : FuncId} {args : List SV} {r : SV} {k ks wd ms : Int} {L L' : List Entry} (h : SCalls Try.prog f (.ptr 0 0 :: args) (rowsH k ks wd ms L) 2 r (rowsH k ks wd ms L')) (ha : ∀ σ, args.map (ren σ) = args) (hr : ∀ σ, ren σ r = r) (hk : ok2 r = true)
    (a b q : Nat) (hab : a ≠ b) (haq : a < q) (hbq : b < q) : SCalls Try.prog f (.ptr a 0 :: args) (rowsHn a b k ks wd ms L) q r (rowsHn a b k ks wd ms L') := by
  have g0 : ∀ L, geth (rowsHn a b k ks wd ms L) a = some (rowsC k ks wd ms b L.length) := fun L => by simp [rowsHn, geth]
  have g1 : ∀ L, geth (rowsHn a b k ks wd ms L) b = some (rowsL L) := fun L => by simp [rowsHn, geth, hab]
  refine scalls_ren [a, b] h rfl (by simp [hab]) (by simp; omega) ?_ ⟨⟨_, g0 L, rfl, .refl _⟩, ⟨_, g1 L, rfl, rfl, ?_⟩, trivial⟩ (by simp [idsH, rowsH]) (hr _).symm hk ⟨⟨_, g0 L', rfl, rfl, rfl⟩, ⟨_, g1 L', rfl, rfl, row_ok2 L', ?_⟩, trivial⟩ (by simp [idsH, rowsH]) rfl
  · show _ = _ :: args.map _
    rw [ha]; rfl
  · rw [ren_ents]; exact .refl _
  · exact (ren_ents _ L').symm
/-- A new row comes in the old one's place. -/
theorem rows_new {f : FuncId} {args : List SV} {r : SV} {k ks wd ms : Int} {L L' : List Entry} (h : SCalls Try.prog f (.ptr 0 0 :: args) (rowsH k ks wd ms L) 2 r [(0, rowsC k ks wd ms 2 L'.length), (2, rowsL L')]) (ha : ∀ σ, args.map (ren σ) = args) (hr : ∀ σ, ren σ r = r) (hk : ok2 r = true)
    (a b q : Nat) (hab : a ≠ b) (haq : a < q) (hbq : b < q) : SCalls Try.prog f (.ptr a 0 :: args) (rowsHn a b k ks wd ms L) q r (rowsHn a q k ks wd ms L') := by
  have g0 : geth (rowsHn a b k ks wd ms L) a = some (rowsC k ks wd ms b L.length) := by simp [rowsHn, geth]
  have g1 : geth (rowsHn a b k ks wd ms L) b = some (rowsL L) := by simp [rowsHn, geth, hab]
  have g2 : geth (rowsHn a q k ks wd ms L') a = some (rowsC k ks wd ms q L'.length) := by simp [rowsHn, geth]
  have g3 : geth (rowsHn a q k ks wd ms L') q = some (rowsL L') := by simp [rowsHn, geth, Nat.ne_of_lt haq]
  have e2 : sg [a, b] q 2 = q := rfl
  refine scalls_ren [a, b] h rfl (by simp [hab]) (by simp; omega) ?_ ⟨⟨_, g0, rfl, .refl _⟩, ⟨_, g1, rfl, rfl, ?_⟩, trivial⟩ (by simp [idsH, rowsH]) (hr _).symm hk ⟨⟨_, g2, rfl, rfl, rfl⟩, ⟨rowsL L', by rw [e2]; exact g3, rfl, rfl, row_ok2 L', ?_⟩, trivial⟩ (by simp [idsH]) rfl
  · show _ = _ :: args.map _
    rw [ha]; rfl
  · rw [ren_ents]; exact .refl _
  · exact (ren_ents _ L').symm
theorem addL_len (L : List Entry) (x : Entry) : (L ++ [x]).length = L.length + 1 := by simp
theorem raddY (k ks wd ms : Int) (L : List Entry) (e : Entry) (hs : ∀ a ∈ L, Small a) (hse : Small e) (hL : L.length ≤ 1000000) (hok : MaskOk k ks L) (h0 : addC k ks wd ms L e = 0) (a b q : Nat) (hab : a ≠ b) (haq : a < q) (hbq : b < q) :
    SCalls Try.prog 37 [.ptr a 0, .agg (ecells e)] (rowsHn a b k ks wd ms L) q (.int .i64 0) (rowsHn a q k ks wd ms (L ++ [keptE k e])) := by
  have := radd_s k ks wd ms L e hs hse hL hok
  rw [addH_yes h0, h0, ← addL_len] at this
  exact rows_new this (fun σ => rfl) (fun σ => rfl) rfl a b q hab haq hbq
theorem raddN (k ks wd ms : Int) (L : List Entry) (e : Entry) (hs : ∀ a ∈ L, Small a) (hse : Small e) (hL : L.length ≤ 1000000) (hok : MaskOk k ks L) (h0 : addC k ks wd ms L e ≠ 0) (a b q : Nat) (hab : a ≠ b) (haq : a < q) (hbq : b < q) :
    SCalls Try.prog 37 [.ptr a 0, .agg (ecells e)] (rowsHn a b k ks wd ms L) q (.int .i64 (addC k ks wd ms L e)) (rowsHn a b k ks wd ms L) := by
  have := radd_s k ks wd ms L e hs hse hL hok
  rw [addH_no h0] at this
  exact rows_same this (fun σ => rfl) (fun σ => rfl) rfl a b q hab haq hbq
theorem rdropY (k ks wd ms : Int) (L : List Entry) (e : Entry) (hs : ∀ a ∈ L, Small a) (hse : Small e) (hL : L.length ≤ 1000000) (h0 : dropC k ks wd L e = 0) (a b q : Nat) (hab : a ≠ b) (haq : a < q) (hbq : b < q) :
    SCalls Try.prog 40 [.ptr a 0, .agg (ecells e)] (rowsHn a b k ks wd ms L) q (.int .i64 0) (rowsHn a q k ks wd ms (dropL k ks wd L e)) := by
  have := rdrop_s k ks wd ms L e hs hse hL
  rw [show dropH k ks wd ms L e = [(0, rowsC k ks wd ms 2 (dropL k ks wd L e).length), (2, rowsL (dropL k ks wd L e))] from if_pos h0, h0] at this
  exact rows_new this (fun σ => rfl) (fun σ => rfl) rfl a b q hab haq hbq
theorem rdropN (k ks wd ms : Int) (L : List Entry) (e : Entry) (hs : ∀ a ∈ L, Small a) (hse : Small e) (hL : L.length ≤ 1000000) (h0 : dropC k ks wd L e ≠ 0) (a b q : Nat) (hab : a ≠ b) (haq : a < q) (hbq : b < q) :
    SCalls Try.prog 40 [.ptr a 0, .agg (ecells e)] (rowsHn a b k ks wd ms L) q (.int .i64 (dropC k ks wd L e)) (rowsHn a b k ks wd ms L) := by
  have := rdrop_s k ks wd ms L e hs hse hL
  rw [show dropH k ks wd ms L e = rowsH k ks wd ms L from if_neg h0] at this
  exact rows_same this (fun σ => rfl) (fun σ => rfl) rfl a b q hab haq hbq
theorem rchgA (k ks wd ms : Int) (L : List Entry) (e : Entry) (hs : ∀ a ∈ L, Small a) (hse : Small e) (hL : L.length ≤ 1000000) (a b q : Nat) (hab : a ≠ b) (haq : a < q) (hbq : b < q) :
    SCalls Try.prog 39 [.ptr a 0, .agg (ecells e)] (rowsHn a b k ks wd ms L) q (.int .i64 (chgC k ks wd L e)) (rowsHn a b k ks wd ms (chgL k ks wd L e)) :=
  rows_same (rchg_s k ks wd ms L e hs hse hL) (fun σ => rfl) (fun σ => rfl) rfl a b q hab haq hbq
theorem rfindV_ren (σ : Nat → Nat) (o : Option Entry) : ren σ (rfindV o) = rfindV o := by cases o <;> rfl
theorem rfindA (k ks wd ms : Int) (L : List Entry) (xs : List Int) (hs : ∀ a ∈ L, Small a) (hL : L.length ≤ 1000000) (hk2 : k = 2 → ks = 1) (hok : (xs.length : Int) = ks → ∀ a ∈ L, FitsOk k a xs) (a b q : Nat) (hab : a ≠ b) (haq : a < q) (hbq : b < q) :
    SCalls Try.prog 41 [.ptr a 0, nums .u64 xs] (rowsHn a b k ks wd ms L) q (rfindV (findR k ks wd L xs)) (rowsHn a b k ks wd ms L) :=
  rows_q (rfind_s k ks wd ms L xs hs hL hk2 hok) (fun σ => rfl) (fun σ => rfindV_ren σ _) (by cases findR k ks wd L xs <;> rfl) a b q hab haq hbq
theorem rallA (k ks wd ms : Int) (L S : List Entry) (hs : ∀ a ∈ L, Small a) (hL : L.length ≤ 1000000) (hS : S.Pairwise fun a b => aheadB a b = true) (hp : S.Perm L) (a b q : Nat) (hab : a ≠ b) (haq : a < q) (hbq : b < q) :
    SCalls Try.prog 44 [.ptr a 0] (rowsHn a b k ks wd ms L) q (ents S) (rowsHn a b k ks wd ms L) :=
  rows_q (rall_s k ks wd ms L S hs hL hS hp) (fun σ => rfl) (fun σ => rfl) rfl a b q hab haq hbq
end Go.Proofs.Ytfakdapglbgokaa

/-
  The plain machine: a nil slice in cells becomes an own row. No condition.
-/
namespace Go.Proofs.Ytfakdapglbgokaa
set_option linter.all false
open Go.RowKit
variable {X : Cx} {s : SSt}
theorem wk_adoptc {t : TypeId} {cs : List SV} (id j e size : Nat) (h : geth s.hp id = some (.cells t cs)) (hj : cs[j]? = some .nilsl) : Wk X s ⟨s.sl, puth (puth s.hp s.nx (.row e size [])) id (.cells t (cs.set j (.own s.nx 0))), s.nx + 1⟩ := by
  intro ρ fp a w hs
  obtain ⟨ρ', fp', h1, h2, h3, h4⟩ := hs.sim.h.add (w' := w) hs.le (hs.fresh _ (Nat.le_refl _)) (.row e size []) none (fun _ => False) (Below.refl _ _) (fun _ h => h.elim) fun A' ρ' hp' hpl => ⟨.slice none 0 0, [], World.ownsRow_nil _ _ _ _, ⟨Reps.nil, fun v hv => by cases hv⟩, (fun x hx => by cases hx), hpl, fun k => by simp [Value.ownBlock]⟩
  have hne : id ≠ s.nx := fun e => by
    have := (hs.sim.h.objs id _ h).place
    rw [e] at this
    exact this (hs.fresh _ (Nat.le_refl _))
  have hg : geth (puth s.hp s.nx (.row e size [])) id = some (.cells t cs) := by rw [geth_puth, if_neg hne]; exact h
  have hlive : ∀ k, Live (puth (puth s.hp s.nx (.row e size [])) id (.cells t (cs.set j (.own s.nx 0)))) fp' k → Live (puth s.hp s.nx (.row e size [])) fp' k := by
    rintro k ⟨i, o, ho, hk⟩
    rw [geth_puth] at ho
    split at ho
    · rename_i e; subst e; exact ⟨i, _, hg, hk⟩
    · exact ⟨i, o, ho, hk⟩
  have hobj : ∀ i o, geth (puth (puth s.hp s.nx (.row e size [])) id (.cells t (cs.set j (.own s.nx 0)))) i = some o → ∃ o', geth (puth s.hp s.nx (.row e size [])) i = some o' := by
    intro i o ho
    rw [geth_puth] at ho
    split at ho
    · rename_i e; subst e; exact ⟨_, hg⟩
    · exact ⟨o, ho⟩
  refine ⟨ρ', fp', ⟨⟨fun i o ho => ?_, fun i i' o o' hne' ho ho' => ?_, fun i o ho => ?_, h1.step, h1.keep⟩, hs.sim.tmps, hs.sim.defers, fun u => ?_⟩, fun i hi => ?_, by have := hs.le; simp only; omega⟩
  · rw [geth_puth] at ho
    split at ho
    · rename_i e; subst e
      cases ho
      obtain ⟨b, c, vs, p1, p2, ⟨p3, p4⟩, p5⟩ := h1.objs i _ hg
      refine ⟨b, c, vs, p1, p2, ⟨⟨by rw [List.length_set]; exact p3.1, fun m x v hx hv => ?_⟩, p4⟩, p5⟩
      rw [List.getElem?_set] at hx
      split at hx
      · rename_i ejm; subst ejm
        split at hx
        · cases hx
          have := p3.2 j _ v hj hv
          cases this
          exact .own0 h3
        · cases hx
      · exact (p3.2 m x v hx hv).weaken fun k hk _ => hk.imp (fun h => h) (hlive k)
    · exact (h1.objs i o ho).weaken fun k hk _ => hk.imp (fun h => h) (hlive k)
  · obtain ⟨x, hx⟩ := hobj i o ho
    obtain ⟨y, hy⟩ := hobj i' o' ho'
    exact h1.disj i i' x y hne' hx hy
  · obtain ⟨x, hx⟩ := hobj i o ho
    exact h1.turn i x hx
  · exact (h2.rep (hs.sim.slots u)).weaken fun k hk _ => hk.imp (fun h => h) (hlive k)
  · cases e : ρ' i with
    | none => rfl
    | some p =>
      simp only at hi
      rcases h4 i (by rw [e]; simp) with h5 | h5
      · exact absurd (hs.fresh i (by omega)) h5
      · omega
/-- A walk stops there. -/
structure Stop (p : Prop) : Prop where
  out : p
theorem swp_stop {Q : SExit → SSt → Prop} {c : SCode} (h : Stop (SWp X c Q s)) : SWp X c Q s := h.out
end Go.Proofs.Ytfakdapglbgokaa
