/-
  Texts joined: XStoK XStoL. No condition.
-/
import Derived.WalkSpells
import Derived.RegionTactic
import Derived.BigRegion
import Derived.Deep.RegionLaw
import Derived.Test.YtalejfkholifpaaGreatProg
import Derived.Test.YtalejfkholifpaaGreatStoreSetK18
namespace Go.Proofs.YtalejfkholifpaaGreat
set_option linter.all false
open Go.RowKit
def Ahead (l : List Entry) : Prop := l.Pairwise fun a b => qahm a b = true
theorem qak1 {F : Fin_} (h : F.Inv) : Ahead F.all := by
 cases F with
 | ex k m S =>
  show ((qajk S).map entE).Pairwise _
  rw [List.pairwise_map]
  have hd : (qajk S).Pairwise fun a b => a.keys ≠ b.keys := by
   refine List.pairwise_iff_getElem.2 fun i j hi hj hij e => ?_
   have hn : (qajk S).Nodup := (qac4 S).nodup_iff.2 (ents_nd h.1)
   have e2 := qak2 h.1 ((qac4 S).mem_iff.1 (List.getElem_mem hi)) ((qac4 S).mem_iff.1 (List.getElem_mem hj)) e
   exact absurd ((List.getElem_inj hn).1 e2) (by omega)
  refine List.pairwise_iff_getElem.2 fun i j hi hj hij => ?_
  have a1 := List.pairwise_iff_getElem.1 (qaii S) i j hi hj hij
  have a2 := List.pairwise_iff_getElem.1 hd i j hi hj hij
  have a3 : ¬ cmpL (qajk S)[j].keys (qajk S)[i].keys < 0 := a1
  have a4 := qac9 (qajk S)[i].keys (qajk S)[j].keys
  have a5 : cmpL (qajk S)[i].keys (qajk S)[j].keys ≠ 0 := fun e => a2 ((qad3 _ _).1 e)
  refine qa4j ((qarf _ _).2 (.inr ⟨rfl, .inl ?_⟩)) (fun e => a2 ((qafb _ _).1 e).2.1) rfl rfl
  show cmpL (qajk S)[i].keys (qajk S)[j].keys < 0
  omega
 | px w m n E =>
  show (allT w E).Pairwise _
  unfold allT; rw [if_pos h.1]
  exact qavw _ _ _ (by omega)
 | te k m l => exact qbbd h.1
theorem qbbe {a b : List Entry} (ha : Ahead a) (hb : Ahead b) (hp : a.Perm b) : a = b :=
 List.Perm.eq_of_pairwise (le := fun a b => qahm a b = true) (fun x y _ _ h1 h2 => by rw [qavy h1] at h2; cases h2) ha hb hp
theorem fin_nd {F : Fin_} (h : F.Inv) : F.all.Nodup := qaok (qak1 h)
def Fin_.Like : Fin_ → Fin_ → Prop
 | .ex k m _, .ex k' m' _ => k = k' ∧ m = m'
 | .px w m _ _, .px w' m' _ _ => w = w' ∧ m = m'
 | .te k m _, .te k' m' _ => k = k' ∧ m = m'
 | _, _ => False
theorem ent_inj {a b : XSlot} (h : entE a = entE b) : a = b := by
 cases a; cases b; simp only [entE, Entry.mk.injEq] at h; obtain ⟨h1, _, _, _, h2, h3⟩ := h; subst h1 h2 h3; rfl
theorem qa5h {a b : List XSlot} (h : (a.map entE).Perm (b.map entE)) : a.Perm b := by
 have e : ∀ l : List XSlot, (l.map entE).map (fun e : Entry => (⟨e.keys, e.act, e.args⟩ : XSlot)) = l := fun l => by
  rw [List.map_map]; exact (List.map_congr_left fun s _ => rfl).trans (List.map_id _)
 have := h.map (fun e : Entry => (⟨e.keys, e.act, e.args⟩ : XSlot))
 rwa [e, e] at this
theorem ce_one {W j i : Nat} {u v : Int} {x y : Int × List Int} (h : ce W j u x = ce W i v y) : j = i ∧ u = v ∧ x = y := by
 simp only [ce, Entry.mk.injEq, List.cons.injEq, and_true] at h
 obtain ⟨h1, _, h3, _, h5, h6⟩ := h
 have hj : j = i := by omega
 subst hj
 have hp : (0 : Int) < 2 ^ (W - j) := Int.pow_pos (by decide)
 exact ⟨rfl, Int.eq_of_mul_eq_mul_right (by omega) h1, Prod.ext h5 h6⟩
theorem qahv {w m n : Int} {E : PE} (h : (Fin_.px w m n E).Inv) {e : Entry} : e ∈ (Fin_.px w m n E).all ↔ ∃ (j : Nat) (u : Int) (x : Int × List Int), j ≤ w.toNat ∧ E j u = some x ∧ e = ce w.toNat j u x := by
 show e ∈ allT w E ↔ _
 unfold allT; rw [if_pos h.1]
 exact qaxk h.2.1
theorem pe_eq {w m n n' : Int} {E E' : PE} (h : (Fin_.px w m n E).Inv) (h' : (Fin_.px w m n' E').Inv) (hm : ∀ e, e ∈ (Fin_.px w m n E).all ↔ e ∈ (Fin_.px w m n' E').all) : E = E' := by
 funext i v
 have key : ∀ {n n' : Int} {E E' : PE}, (Fin_.px w m n E).Inv → (Fin_.px w m n' E').Inv → (∀ e, e ∈ (Fin_.px w m n E).all → e ∈ (Fin_.px w m n' E').all) → ∀ x, E i v = some x → E' i v = some x := fun h h' hm x hx => by
  obtain ⟨j, u, y, _, hy, he⟩ := (qahv h').1 (hm _ ((qahv h).2 ⟨i, v, x, (h.2.1.ok i v x hx).1, hx, rfl⟩))
  obtain ⟨rfl, rfl, rfl⟩ := ce_one he
  exact hy
 cases hx : E i v with
 | some x => exact (key h h' (fun e => (hm e).1) x hx).symm
 | none =>
  cases hy : E' i v with
  | none => rfl
  | some y => rw [key h' h (fun e => (hm e).2) y hy] at hx; cases hx
theorem qbex {F G : Fin_} (hF : F.Inv) (hG : G.Inv) (hl : F.Like G) (hp : G.all.Perm F.all) : G.all = F.all ∧ G.cnt = F.cnt ∧ ∀ xs, G.find xs = F.find xs := by
 have h1 : G.all = F.all := qbbe (qak1 hG) (qak1 hF) hp
 refine ⟨h1, by rw [← qajx hG, ← qajx hF, h1], fun xs => ?_⟩
 cases F with
 | ex k m S =>
  cases G with
  | ex k' m' U =>
   obtain ⟨rfl, rfl⟩ := hl
   have hq : (qafh U).Perm (qafh S) := ((qac4 U).symm.trans (qa5h hp)).trans (qac4 S)
   show (qafp k U xs).map _ = (qafp k S xs).map _
   rw [qa55 hF.1 hG.1 hq]
  | px _ _ _ _ => exact hl.elim
  | te _ _ _ => exact hl.elim
 | px w m n E =>
  cases G with
  | px w' m' n' E' =>
   obtain ⟨rfl, rfl⟩ := hl
   have := pe_eq hF hG fun e => hp.mem_iff.symm
   subst this; rfl
  | ex _ _ _ => exact hl.elim
  | te _ _ _ => exact hl.elim
 | te k m l =>
  cases G with
  | te k' m' l' =>
   obtain ⟨rfl, rfl⟩ := hl
   have h2 : qai9 l' = qai9 l := h1
   show (qag5 k l' xs).map _ = (qag5 k l xs).map _
   unfold qag5; rw [h2]
  | ex _ _ _ => exact hl.elim
  | px _ _ _ _ => exact hl.elim
def Fin_.Kept : Fin_ → Entry → Prop
 | .ex _ _ _, e => e.masks = [] ∧ e.len = 0 ∧ e.prio = 0
 | .px _ _ _ _, e => e.masks = [] ∧ e.prio = 0 ∧ e.keys.length = 1
 | .te _ _ _, e => e.len = 0
theorem qajf {k m : Int} {S : XTab} {e : Entry} : e ∈ (Fin_.ex k m S).all ↔ ∃ s ∈ qafh S, entE s = e := by
 show e ∈ (qajk S).map entE ↔ _
 rw [List.mem_map]
 exact ⟨fun ⟨s, h1, h2⟩ => ⟨s, (qac4 S).mem_iff.1 h1, h2⟩, fun ⟨s, h1, h2⟩ => ⟨s, (qac4 S).mem_iff.2 h1, h2⟩⟩
theorem qak4 {e : Entry} (h : e.masks = [] ∧ e.len = 0 ∧ e.prio = 0) : entE ⟨e.keys, e.act, e.args⟩ = e := by
 cases e; obtain ⟨h1, h2, h3⟩ := h; simp only at h1 h2 h3; subst h1 h2 h3; rfl
theorem qbb7 {w : Int} {e : Entry} (hk : e.masks = [] ∧ e.prio = 0 ∧ e.keys.length = 1) (hp : qae5 w (kof e) e.len = true) : ce w.toNat e.len.toNat (pre w.toNat (kof e) e.len.toNat) (e.act, e.args) = e ∧ e.len.toNat ≤ w.toNat := by
 obtain ⟨W, K, rfl, hK, _, _, h1, _, h2⟩ := qaek hp
 obtain ⟨keys, masks, len, prio, act, args⟩ := e
 obtain ⟨q1, q2, q3⟩ := hk
 simp only at q1 q2 q3 hK
 subst q1 q2 hK
 match keys, q3 with
 | [key], _ =>
  have hkey : kof ⟨[key], [], (K : Int), 0, act, args⟩ = key := rfl
  rw [hkey] at h2 ⊢
  simp only [Int.toNat_natCast]
  refine ⟨?_, h1⟩
  have hd := Int.mul_ediv_add_emod key (2 ^ (W - K))
  rw [h2] at hd
  rw [Int.mul_comm] at hd
  have hk3 : key / 2 ^ (W - K) * 2 ^ (W - K) = key := by omega
  simp only [ce, pre]
  rw [hk3]
theorem qbck {F : Fin_} (hF : F.Inv) {e : Entry} (he : EOk e) (hk : F.Kept e) (hV : F.addV e = 0) (x : Entry) : x ∈ (F.add e).all ↔ x ∈ F.all ∨ x = e := by
 have hF' := qamf hF he
 cases F with
 | ex k m S =>
  have hV' : qaoa k m S e.keys = 0 := hV
  obtain ⟨p1, p2⟩ := qaqo hF.1 (s := ⟨e.keys, e.act, e.args⟩) ⟨he.small.1, he.small.2.2⟩ hV'
  have e1 : (Fin_.ex k m S).add e = .ex k m (S.set (qacf S e.keys).1 (some ⟨e.keys, e.act, e.args⟩)) := congrArg (Fin_.ex k m) (if_pos hV')
  rw [e1, qajf, qajf]
  constructor
  ·rintro ⟨s, h1, rfl⟩
   rcases (qapl p2 _ s).1 h1 with rfl | h1
   ·exact .inr (qak4 hk)
   ·exact .inl ⟨s, h1, rfl⟩
  ·rintro (⟨s, h1, rfl⟩ | rfl)
   ·exact ⟨s, (qapl p2 _ s).2 (.inr h1), rfl⟩
   ·exact ⟨_, (qapl p2 _ _).2 (.inl rfl), qak4 hk⟩
 | px w m n E =>
  have hV' : qacg w m n E (kof e) e.len = 0 := hV
  obtain ⟨q1, q2⟩ := qaio hV' e.act e.args
  have e1 : (Fin_.px w m n E).add e = .px w m (n + 1) (qadb E e.len.toNat (pre w.toNat (kof e) e.len.toNat) (some (e.act, e.args))) := by
   show Fin_.px w m (qae1 w m n E (kof e) e.len) (qaff w m n E (kof e) e.len e.act e.args) = _
   rw [q1, q2]
  rw [e1] at hF' ⊢
  have hp : qae5 w (kof e) e.len = true ∧ E e.len.toNat (pre w.toNat (kof e) e.len.toNat) = none := by
   unfold qacg at hV'
   cases h1 : qae5 w (kof e) e.len
   ·rw [if_pos h1] at hV'; cases hV'
   ·rw [if_neg (by rw [h1]; simp)] at hV'
    refine ⟨rfl, ?_⟩
    cases h2 : E e.len.toNat (pre w.toNat (kof e) e.len.toNat) with
    | none => rfl
    | some y => rw [h2] at hV'; exact absurd hV' (by simp)
  obtain ⟨hc, hle⟩ := qbb7 hk hp.1
  rw [qahv hF', qahv hF]
  constructor
  ·rintro ⟨j, u, y, h1, h2, rfl⟩
   unfold qadb at h2
   split at h2
   ·rename_i h3
    obtain ⟨rfl, rfl⟩ := h3
    cases h2; exact .inr hc
   ·exact .inl ⟨j, u, y, h1, h2, rfl⟩
  ·rintro (⟨j, u, y, h1, h2, rfl⟩ | h)
   ·refine ⟨j, u, y, h1, ?_, rfl⟩
    unfold qadb
    rw [if_neg]
    ·exact h2
    ·rintro ⟨rfl, rfl⟩; rw [hp.2] at h2; cases h2
   ·exact ⟨_, _, _, hle, by unfold qadb; rw [if_pos ⟨rfl, rfl⟩], by rw [h]; exact hc.symm⟩
 | te k m l =>
  have hV' : addV k m l e = 0 := hV
  have e1 : (Fin_.te k m l).add e = .te k m (qasl l e) := by
   show Fin_.te k m (addR k m l e) = _
   unfold addR; rw [if_pos hV', qaoh e hk]
  rw [e1] at hF' ⊢
  show x ∈ qai9 (qasl l e) ↔ x ∈ qai9 l ∨ x = e
  rw [(qadj hF'.1).mem_iff, (qadj hF.1).mem_iff, (qaez l e).mem_iff, List.mem_append, List.mem_singleton]
theorem mem_chg {F : Fin_} (hF : F.Inv) {e : Entry} (he : EOk e) (hk : F.Kept e) (x : Entry) (hx : x ∈ (F.chg e).all) : x ∈ F.all ∨ x = e := by
 by_cases hV : F.chgV e = 0
 rotate_left 1
 ·rw [(qaky e).2.1 hV] at hx; exact .inl hx
 have hF' := qame hF he
 cases F with
 | ex k m S =>
  have hV' : qajb k S e.keys = 0 := hV
  obtain ⟨j, t, hj, hk2, hp⟩ := qak8 hF.1 hV'
  have e1 : (Fin_.ex k m S).chg e = .ex k m (S.set j (some ⟨e.keys, e.act, e.args⟩)) := by
   show Fin_.ex k m (chgX k S ⟨e.keys, e.act, e.args⟩) = _
   unfold chgX; rw [if_pos hV', hp]
  rw [e1, qajf] at hx
  rw [qajf]
  obtain ⟨s, h1, rfl⟩ := hx
  obtain ⟨i, hi⟩ := qacx.1 h1
  rw [qacd (qaco hj)] at hi
  split at hi
  ·cases hi; exact .inr (qak4 hk)
  ·exact .inl ⟨s, qacx.2 ⟨i, hi⟩, rfl⟩
 | px w m n E =>
  have hV' : qac5 w E (kof e) e.len = 0 := hV
  have e1 : (Fin_.px w m n E).chg e = .px w m n (qadb E e.len.toNat (pre w.toNat (kof e) e.len.toNat) (some (e.act, e.args))) := congrArg (Fin_.px w m n) (qain hV' _ _)
  rw [e1] at hF' hx
  have hp : qae5 w (kof e) e.len = true := by
   unfold qac5 at hV'
   cases h1 : qae5 w (kof e) e.len
   ·rw [if_pos h1] at hV'; cases hV'
   ·rfl
  obtain ⟨j, u, y, h1, h2, rfl⟩ := (qahv hF').1 hx
  unfold qadb at h2
  split at h2
  ·rename_i h3
   obtain ⟨rfl, rfl⟩ := h3
   cases h2; exact .inr (qbb7 hk hp).1
  ·exact .inl ((qahv hF).2 ⟨j, u, y, h1, h2, rfl⟩)
 | te k m l =>
  have hx' : x ∈ qai9 (chgR k l e) := hx
  rw [(qadj hF'.1).mem_iff] at hx'
  show x ∈ qai9 l ∨ _
  rw [(qadj hF.1).mem_iff]
  unfold chgR at hx'
  split at hx'
  ·exact .inl hx'
  ·split at hx'
   ·exact .inl hx'
   ·rw [qaoh e hk] at hx'
    exact List.mem_or_eq_of_mem_set hx'
theorem qbeh {F : Fin_} (hF : F.Inv) {e : Entry} (he : EOk e) (x : Entry) (hx : x ∈ (F.drop e).all) : x ∈ F.all := by
 by_cases hV : F.dropV e = 0
 rotate_left 1
 ·rw [(qaky e).2.2 hV] at hx; exact hx
 have hF' := qajy hF he
 cases F with
 | ex k m S =>
  have hV' : qajb k S e.keys = 0 := hV
  obtain ⟨j, t, hj, hk2, hp⟩ := qak8 hF.1 hV'
  have e1 : (Fin_.ex k m S).drop e = .ex k m (qajg (qaf1 S.length) S.length S j) := by
   show Fin_.ex k m (drpX k S e.keys) = _
   unfold drpX; rw [if_pos hV', hp]
  rw [e1, qajf] at hx
  rw [qajf]
  obtain ⟨s, h1, rfl⟩ := hx
  obtain ⟨i, _, hi⟩ := ((qayh hF.1 hj).2.1 s).1 (qacx.1 h1)
  exact ⟨s, qacx.2 ⟨i, hi⟩, rfl⟩
 | px w m n E =>
  have hV' : qacb w E (kof e) e.len = 0 := hV
  obtain ⟨q1, q2⟩ := qafy (n := n) hV'
  have e1 : (Fin_.px w m n E).drop e = .px w m (n - 1) (qadb E e.len.toNat (pre w.toNat (kof e) e.len.toNat) none) := by
   show Fin_.px w m (qadq w n E (kof e) e.len) (qaec w E (kof e) e.len) = _
   rw [q1, q2]
  rw [e1] at hF' hx
  obtain ⟨j, u, y, h1, h2, rfl⟩ := (qahv hF').1 hx
  unfold qadb at h2
  split at h2
  ·cases h2
  ·exact (qahv hF).2 ⟨j, u, y, h1, h2, rfl⟩
 | te k m l =>
  have hx' : x ∈ qai9 (qan9 k l e) := hx
  rw [(qadj hF'.1).mem_iff] at hx'
  show x ∈ qai9 l
  rw [(qadj hF.1).mem_iff]
  unfold qan9 at hx'
  split at hx'
  ·exact hx'
  ·split at hx'
   ·exact hx'
   ·exact (qafv _ _).mem_iff.1 (List.dropLast_subset _ hx')
theorem qbbg {S G : Fin_} (hS : S.Inv) (hG : G.Inv) (hl : S.Like G) (hsub : ∀ x ∈ G.all, x ∈ S.all) (hlen : G.all.length < S.all.length) {e : Entry} (he : e ∈ S.all) (hne : e ∉ G.all) : G.addV e = 0 := by
 have c1 := qajx hS
 have c2 := qajx hG
 have c3 := qamd hS
 cases S with
 | ex k m S =>
  cases G with
  | ex k' m' U =>
   obtain ⟨rfl, rfl⟩ := hl
   obtain ⟨s, hs, rfl⟩ := qajf.1 he
   have hpl : ¬ (qacf U s.keys).2 = true := fun h0 => by
    obtain ⟨t, h1, h2⟩ := (qaim hG.1).1 h0
    have h3 := hsub (entE t) (qajf.2 ⟨t, h1, rfl⟩)
    obtain ⟨t', h4, h5⟩ := qajf.1 h3
    have := ent_inj h5
    subst this
    have := qak2 hS.1 h4 hs h2
    subst this
    exact hne (qajf.2 ⟨_, h1, rfl⟩)
   obtain ⟨j, hj⟩ := qacx.1 hs
   have hfit := hS.1.fit j s hj
   have hn := qa5q (m := m) (by have := hS.2.2.1; omega)
   have hln := hG.1.len
   have d1 : (cnt U : Int) < cnt S := by
    show (Fin_.ex k m U).cnt < (Fin_.ex k m S).cnt
    rw [← c1, ← c2]; omega
   have d2 := hS.2.2.2
   show qaoa k m U s.keys = 0
   unfold qaoa
   rw [if_neg (by rw [hfit]; simp), if_neg hpl, if_neg (by omega)]
  | px _ _ _ _ => exact hl.elim
  | te _ _ _ => exact hl.elim
 | px w m n E =>
  cases G with
  | px w' m' n' E' =>
   obtain ⟨rfl, rfl⟩ := hl
   obtain ⟨j, u, x, h1, h2, rfl⟩ := (qahv hS).1 he
   obtain ⟨i1, i2, i3, _⟩ := hS.2.1.ok j u x h2
   have hw := hS.1
   have hwN : ((w.toNat : Nat) : Int) = w := by have := hw.1; omega
   have hp0 : (0 : Int) < 2 ^ (w.toNat - j) := Int.pow_pos (by decide)
   have hkof : kof (ce w.toNat j u x) = u * 2 ^ (w.toNat - j) := rfl
   have hpre : pre w.toNat (u * 2 ^ (w.toNat - j)) j = u := by unfold pre; exact Int.mul_ediv_cancel _ (by omega)
   have hlt : u * 2 ^ (w.toNat - j) < 2 ^ w.toNat := by
    have h5 : (2 : Int) ^ w.toNat = 2 ^ j * 2 ^ (w.toNat - j) := by rw [← Int.pow_add]; congr 1; omega
    rw [h5]; exact Int.mul_lt_mul_of_pos_right i3 hp0
   have hmod : u * 2 ^ (w.toNat - j) % 2 ^ (w.toNat - j) = 0 := Int.mul_emod_left _ _
   have hfits : qae5 w (u * 2 ^ (w.toNat - j)) (j : Int) = true := by
    unfold qae5
    rw [decide_eq_true_iff, show (w - (j : Int)).toNat = w.toNat - j by omega]
    exact ⟨hw.1, hw.2, by omega, by omega, hlt, hmod⟩
   have hno : E' j u = none := by
    cases h6 : E' j u with
    | none => rfl
    | some y =>
     obtain ⟨j2, u2, y2, _, g2, g3⟩ := (qahv hS).1 (hsub _ ((qahv hG).2 ⟨j, u, y, i1, h6, rfl⟩))
     obtain ⟨rfl, rfl, rfl⟩ := ce_one g3
     rw [h2] at g2; cases g2
     exact absurd ((qahv hG).2 ⟨j, u, x, i1, h6, rfl⟩) hne
   have d1 : n' < n := by
    show (Fin_.px w m n' E').cnt < (Fin_.px w m n E).cnt
    rw [← c1, ← c2]; omega
   have d2 := hS.2.2.2.2
   show qacg w m n' E' (kof (ce w.toNat j u x)) (j : Int) = 0
   unfold qacg
   rw [hkof, hfits, if_neg (by simp), Int.toNat_natCast, hpre, hno, if_neg (by simp), if_neg (by omega)]
  | ex _ _ _ => exact hl.elim
  | te _ _ _ => exact hl.elim
 | te k m l =>
  cases G with
  | te k' m' l' =>
   obtain ⟨rfl, rfl⟩ := hl
   have he' : e ∈ l := (qadj hS.1).mem_iff.1 he
   have hne' : e ∉ l' := fun h => hne ((qadj hG.1).mem_iff.2 h)
   have hsub' : ∀ x ∈ l', x ∈ l := fun x hx => (qadj hS.1).mem_iff.1 (hsub x ((qadj hG.1).mem_iff.2 hx))
   have hno : ∀ x ∈ l', ¬ (x.prio = e.prio ∧ qao2 x e = true) := fun x hx h => by
    have hx2 := hsub' x hx
    obtain ⟨i, hi, rfl⟩ := List.mem_iff_getElem.1 hx2
    obtain ⟨j, hj, rfl⟩ := List.mem_iff_getElem.1 he'
    rcases Nat.lt_trichotomy i j with hij | rfl | hij
    ·exact List.pairwise_iff_getElem.1 hS.1.no i j hi hj hij h
    ·exact hne' hx
    ·exact List.pairwise_iff_getElem.1 hS.1.no j i hj hi hij ⟨h.1.symm, by rw [qal1]; exact h.2⟩
   have d1 : (l'.length : Int) < l.length := by
    show (Fin_.te k m l').cnt < (Fin_.te k m l).cnt
    rw [← c1, ← c2]; omega
   have d2 := hS.2.2.2
   show addV k m l' e = 0
   unfold addV
   have idx : ∀ p : Entry → Bool, (∀ x ∈ l', p x = false) → ¬ 0 ≤ idxV l' p := fun p h => by
    unfold idxV
    rw [List.findIdx?_eq_none_iff.2 h]; simp
   rw [if_neg (by rw [hS.1.fit e he']; simp), if_neg (show ¬ 0 ≤ tatV l' e from idx _ fun x hx => ?_), if_neg (show ¬ 0 ≤ qatz l' e from idx _ fun x hx => ?_), if_neg (by omega)]
   ·cases h : (x.prio == e.prio && qao2 x e)
    ·rfl
    ·rw [Bool.and_eq_true, beq_iff_eq] at h; exact absurd h (hno x hx)
   ·cases h : (ordE x e == 0)
    ·rfl
    ·rw [beq_iff_eq] at h
     obtain ⟨b1, b2, b3⟩ := (qafb _ _).1 h
     exact absurd ⟨b1, by unfold qao2; rw [b2]; exact qakq _ _ _ _ fun i _ => qal2 _ _ _⟩ (hno x hx)
  | ex _ _ _ => exact hl.elim
  | px _ _ _ _ => exact hl.elim
end Go.Proofs.YtalejfkholifpaaGreat
namespace Go.Proofs.YtalejfkholifpaaGreat
set_option linter.all false
open Go.RowKit
def stF (s : StoD) (F : Fin_) : StoD := { s with F := F }
theorem qa5t (F : Fin_) : F.Like F := by cases F <;> exact ⟨rfl, rfl⟩
theorem qae2 {A B C : Fin_} (h : A.Like B) (g : B.Like C) : A.Like C := by
 cases A <;> cases B <;> first | exact h.elim | skip
 all_goals cases C <;> first | exact g.elim | exact ⟨h.1.trans g.1, h.2.trans g.2⟩
theorem qard {A B : Fin_} (h : A.Like B) : B.Like A := by
 cases A <;> cases B <;> first | exact h.elim | exact ⟨h.1.symm, h.2.symm⟩
theorem qaxo (F : Fin_) (e : Entry) : F.Like (F.add e) := by cases F <;> exact ⟨rfl, rfl⟩
theorem qbei (F : Fin_) (e : Entry) : F.Like (F.chg e) := by cases F <;> exact ⟨rfl, rfl⟩
theorem qa5u (F : Fin_) (e : Entry) : F.Like (F.drop e) := by cases F <;> exact ⟨rfl, rfl⟩
structure Filled (s : StoD) (F : Fin_) : Prop where
 ok : StOk (stF s F)
 like : s.F.Like F
 all : ∀ e ∈ F.all, qafg s e = 0 ∧ qaja s e.act e.args = 0 ∧ EOk e
theorem qakv {s : StoD} {F : Fin_} (h : StOk (stF s F)) {e : Entry} (hk : qafg s e = 0) : F.Kept e := by
 obtain ⟨h1, h2, h3, h4, _⟩ := qagv hk
 have hkd : s.t.kind = F.kind := h.kind
 have hkk : (s.w.length : Int) = F.k := h.k
 cases F with
 | ex k m S =>
  have : s.t.kind = 1 := hkd
  obtain ⟨a, b⟩ := h3 (by omega)
  exact ⟨List.length_eq_zero_iff.1 a, h4 (by omega), b⟩
 | px w m n E =>
  have : s.t.kind = 2 := hkd
  obtain ⟨a, b⟩ := h3 (by omega)
  have : (s.w.length : Int) = 1 := hkk
  exact ⟨List.length_eq_zero_iff.1 a, b, by omega⟩
 | te k m l =>
  have : s.t.kind = 3 := hkd
  exact h4 (by omega)
theorem qbe4 {s : StoD} {F : Fin_} (h : Filled s F) {e : Entry} (he : EOk e) : qaws (stF s F) e = stF s (qaws (stF s F) e).F ∧ Filled s (qaws (stF s F) e).F := by
 have hok := qbb1 h.ok he
 have e1 : qaws (stF s F) e = if qafg s e ≠ 0 then stF s F else if qaja s e.act e.args ≠ 0 then stF s F else stF s (F.add e) := rfl
 rw [e1] at hok ⊢
 split at hok
 ·rename_i h1; rw [if_pos h1]; exact ⟨rfl, h⟩
 ·rename_i h1
  rw [if_neg h1]
  split at hok
  ·rename_i h2; rw [if_pos h2]; exact ⟨rfl, h⟩
  ·rename_i h2
   rw [if_neg h2]
   refine ⟨rfl, hok, qae2 h.like (qaxo _ _), fun x hx => ?_⟩
   by_cases hV : F.addV e = 0
   ·rcases (qbck h.ok.inv he (qakv h.ok (by omega)) hV x).1 hx with h3 | rfl
    ·exact h.all x h3
    ·exact ⟨by omega, by omega, he⟩
   ·have hx : x ∈ (F.add e).all := hx
    rw [(qaky e).1 hV] at hx; exact h.all x hx
theorem qbe3 {s : StoD} {F : Fin_} (h : Filled s F) {e : Entry} (he : EOk e) : qa43 (stF s F) e = stF s (qa43 (stF s F) e).F ∧ Filled s (qa43 (stF s F) e).F := by
 have hok := schg_ok h.ok he
 have e1 : qa43 (stF s F) e = if qafg s e ≠ 0 then stF s F else if qaja s e.act e.args ≠ 0 then stF s F else stF s (F.chg e) := rfl
 rw [e1] at hok ⊢
 split at hok
 ·rename_i h1; rw [if_pos h1]; exact ⟨rfl, h⟩
 ·rename_i h1
  rw [if_neg h1]
  split at hok
  ·rename_i h2; rw [if_pos h2]; exact ⟨rfl, h⟩
  ·rename_i h2
   rw [if_neg h2]
   refine ⟨rfl, hok, qae2 h.like (qbei _ _), fun x hx => ?_⟩
   rcases mem_chg h.ok.inv he (qakv h.ok (by omega)) x hx with h3 | rfl
   ·exact h.all x h3
   ·exact ⟨by omega, by omega, he⟩
theorem qa57 {s : StoD} {F : Fin_} (h : Filled s F) {e : Entry} (he : EOk e) : qakg (stF s F) e = stF s (qakg (stF s F) e).F ∧ Filled s (qakg (stF s F) e).F := by
 have hok := qbdl h.ok he
 have e1 : qakg (stF s F) e = if qafg s e ≠ 0 then stF s F else stF s (F.drop e) := rfl
 rw [e1] at hok ⊢
 split at hok
 ·rename_i h1; rw [if_pos h1]; exact ⟨rfl, h⟩
 ·rename_i h1
  rw [if_neg h1]
  exact ⟨rfl, hok, qae2 h.like (qa5u _ _), fun x hx => h.all x (qbeh h.ok.inv he x hx)⟩
theorem qaxi {t : TabD} {ws : List Int} {acts : List ActD} (h : qaei t ws acts = 0) : (qael t ws).all = [] := by
 have h1 := qajx (qalz h)
 have hc : cnt (List.replicate (newN t.cap) (none : Option XSlot)) = 0 := by unfold cnt; rw [List.countP_replicate]; simp
 have h2 : (qael t ws).cnt = 0 := by
  unfold qael
  split
  ·show ((cnt (List.replicate (newN t.cap) (none : Option XSlot)) : Nat) : Int) = 0; rw [hc]; rfl
  ·split <;> rfl
 rw [h2] at h1
 exact List.length_eq_zero_iff.1 (by omega)
theorem qbe2 {t : TabD} {ws : List Int} {acts : List ActD} (ha : AW acts) (ht : t.args.length ≤ 1000000) (h : qaei t ws acts = 0) : Filled (qahw t ws acts) (qael t ws) :=
 ⟨qa5p ha ht h, qa5t _, fun e he => by rw [qaxi h] at he; cases he⟩
structure Half (s : StoD) (R : List Entry) (i : Nat) (G : Fin_) : Prop where
 ok : StOk (stF s G)
 like : s.F.Like G
 all : G.all.Perm (R.take i)
theorem qa50 {s : StoD} {F : Fin_} (h : Filled s F) {R : List Entry} (hR : R.Perm F.all) {i : Nat} (hi : i < R.length) {G : Fin_} (hG : Half s R i G) : saddC (stF s G) R[i] = 0 ∧ qaws (stF s G) R[i] = stF s (G.add R[i]) ∧ Half s R (i + 1) (G.add R[i]) := by
 have he : R[i] ∈ F.all := hR.mem_iff.1 (List.getElem_mem hi)
 obtain ⟨k1, k2, k3⟩ := h.all _ he
 have hnd : R.Nodup := hR.nodup_iff.2 (fin_nd h.ok.inv)
 have hne : R[i] ∉ G.all := fun hm => by
  have hm2 := hG.all.mem_iff.1 hm
  obtain ⟨j, hj, e⟩ := List.mem_iff_getElem.1 hm2
  rw [List.length_take] at hj
  rw [List.getElem_take] at e
  exact absurd ((List.getElem_inj hnd).1 e) (by omega)
 have hFi : F.Inv := h.ok.inv
 have hGi : G.Inv := hG.ok.inv
 have hV : G.addV R[i] = 0 := qbbg hFi hGi (qae2 (qard h.like) hG.like) (fun x hx => hR.mem_iff.1 (List.mem_of_mem_take (hG.all.mem_iff.1 hx))) (by rw [hG.all.length_eq, ← hR.length_eq, List.length_take]; omega) he hne
 have e1 : qaws (stF s G) R[i] = if qafg s R[i] ≠ 0 then stF s G else if qaja s R[i].act R[i].args ≠ 0 then stF s G else stF s (G.add R[i]) := rfl
 have e2 : saddC (stF s G) R[i] = if qafg s R[i] ≠ 0 then qafg s R[i] else if qaja s R[i].act R[i].args ≠ 0 then qaja s R[i].act R[i].args else G.addV R[i] := rfl
 rw [if_neg (by omega), if_neg (by omega)] at e1 e2
 have hok := qbb1 hG.ok k3
 rw [e1] at hok
 refine ⟨by rw [e2, hV], e1, hok, qae2 hG.like (qaxo _ _), ?_⟩
 refine (List.perm_ext_iff_of_nodup (fin_nd hok.inv) (hnd.sublist (List.take_sublist ..))).2 fun x => ?_
 have hm := qbck hGi k3 (qakv hG.ok k1) hV x
 show x ∈ (G.add R[i]).all ↔ _
 rw [hm, List.take_succ_eq_append_getElem hi, List.mem_append, List.mem_singleton, hG.all.mem_iff]
theorem qbeu {s : StoD} {F : Fin_} (h : Filled s F) {R : List Entry} (hR : R.Perm F.all) {G : Fin_} (hG : Half s R R.length G) : G.all = F.all ∧ G.cnt = F.cnt ∧ ∀ xs, qaon (stF s G) xs = qaon (stF s F) xs := by
 have hp := hG.all
 rw [List.take_length] at hp
 have hFi : F.Inv := h.ok.inv
 have hGi : G.Inv := hG.ok.inv
 obtain ⟨a, b, c⟩ := qbex hFi hGi (qae2 (qard h.like) hG.like) (hp.trans hR)
 refine ⟨a, b, fun xs => ?_⟩
 have e : qahu (stF s G) xs = qahu (stF s F) xs := by
  show (if xs.length = s.w.length ∧ qac1 xs s.w = false then G.find xs else none) = if xs.length = s.w.length ∧ qac1 xs s.w = false then F.find xs else none
  rw [c]
 unfold qaon
 rw [e]; rfl
theorem qak0 {F : Fin_} (h : F.Inv) {xs : List Int} {r : Int × List Int} (hr : F.find xs = some r) : r.2.length ≤ 1000000 := by
 cases F with
 | ex k m S =>
  have hr : (qafp k S xs).map (fun s => (s.act, s.args)) = some r := hr
  cases hf : qafp k S xs with
  | none => rw [hf] at hr; cases hr
  | some s =>
   rw [hf] at hr; cases hr
   by_cases hx : ∃ t ∈ qafh S, t.keys = xs
   ·obtain ⟨t, h1, rfl⟩ := hx
    rw [qahg h.1 h1] at hf
    cases hf
    obtain ⟨j, hj⟩ := qacx.1 h1
    exact (h.1.small j _ hj).2
   ·rw [qahh h.1 fun s h1 h2 => hx ⟨s, h1, h2⟩] at hf; cases hf
 | px w m n E =>
  have hr : (qadp w E (el xs 0)).map (fun x => (x.2.1, x.2.2)) = some r := hr
  cases hf : qadp w E (el xs 0) with
  | none => rw [hf] at hr; cases hr
  | some y =>
   rw [hf] at hr; cases hr
   unfold qadp at hf
   split at hf
   ·split at hf
    ·cases hf
    ·rename_i i _
     cases hE : E i (pre w.toNat (el xs 0) i) with
     | none => rw [hE] at hf; cases hf
     | some z => rw [hE] at hf; cases hf; have := (h.2.1.ok _ _ _ hE).2.2.2.1; show z.2.length ≤ 1000000; omega
   ·cases hf
 | te k m l =>
  have hr : (qag5 k l xs).map (fun e => (e.act, e.args)) = some r := hr
  cases hf : qag5 k l xs with
  | none => rw [hf] at hr; cases hr
  | some e =>
   rw [hf] at hr; cases hr
   unfold qag5 at hf
   split at hf
   ·exact (h.1.small e ((qadj h.1).mem_iff.1 (List.mem_of_find?_eq_some hf))).2.2
   ·cases hf
theorem qawk {s : StoD} (h : StOk s) (xs : List Int) : ∃ a r b, r.length ≤ 1000000 ∧ qaon s xs = .tup [.agg (hitc a r), .bool b] := by
 unfold qaon
 cases hc : qahu s xs with
 | none => exact ⟨s.da, s.dl, false, h.dl, rfl⟩
 | some r =>
  refine ⟨r.1, r.2, true, ?_, rfl⟩
  unfold qahu at hc
  split at hc
  ·exact qak0 h.inv hc
  ·cases hc
end Go.Proofs.YtalejfkholifpaaGreat
