/-
  Texts joined: XShX. No condition.
-/
import Derived.Test.YtfakdapglbgokaaI20
/-
  The plain machine: a nil slice in cells becomes an own row. No condition.
-/
namespace Go.Proofs.Ytfakdapglbgokaa
set_option linter.all false
open Go.RowKit
variable {X : Cx} {s : SSt}
theorem wk_adoptc {t : TypeId} {cs : List SV} (id j e size : Nat) (h : geth s.hp id = some (.cells t cs)) (hj : cs[j]? = some .nilsl) : Wk X s ⟨s.sl, puth (puth s.hp s.nx (.row e size [])) id (.cells t (cs.set j (.own s.nx 0))), s.nx + 1⟩ := by
  intro ρ fp a w hs
  obtain ⟨ρ', fp', h1, h2, h3, h4⟩ := hs.sim.h.add (w' := w) hs.le (hs.fresh _ (Nat.le_refl _)) (.row e size []) none (fun _ => False) (Below.refl _ _) (fun _ h => h.elim) fun A' ρ' hp' hpl => ⟨.slice none 0 0, [], World.ownsRow_nil _ _ _ _, ⟨Reps.nil, fun v hv => by cases hv⟩, (fun x hx => by cases hx), hpl, fun k => by simp [Value.ownBlock]⟩
  have hne : id ≠ s.nx := fun e => by
    have := (hs.sim.h.objs id _ h).place
    rw [e] at this
    exact this (hs.fresh _ (Nat.le_refl _))
  have hg : geth (puth s.hp s.nx (.row e size [])) id = some (.cells t cs) := by rw [geth_puth, if_neg hne]; exact h
  have hlive : ∀ k, Live (puth (puth s.hp s.nx (.row e size [])) id (.cells t (cs.set j (.own s.nx 0)))) fp' k → Live (puth s.hp s.nx (.row e size [])) fp' k := by
    rintro k ⟨i, o, ho, hk⟩
    rw [geth_puth] at ho
    split at ho
    · rename_i e; subst e; exact ⟨i, _, hg, hk⟩
    · exact ⟨i, o, ho, hk⟩
  have hobj : ∀ i o, geth (puth (puth s.hp s.nx (.row e size [])) id (.cells t (cs.set j (.own s.nx 0)))) i = some o → ∃ o', geth (puth s.hp s.nx (.row e size [])) i = some o' := by
    intro i o ho
    rw [geth_puth] at ho
    split at ho
    · rename_i e; subst e; exact ⟨_, hg⟩
    · exact ⟨o, ho⟩
  refine ⟨ρ', fp', ⟨⟨fun i o ho => ?_, fun i i' o o' hne' ho ho' => ?_, fun i o ho => ?_, h1.step, h1.keep⟩, hs.sim.tmps, hs.sim.defers, fun u => ?_⟩, fun i hi => ?_, by have := hs.le; simp only; omega⟩
  · rw [geth_puth] at ho
    split at ho
    · rename_i e; subst e
      cases ho
      obtain ⟨b, c, vs, p1, p2, ⟨p3, p4⟩, p5⟩ := h1.objs i _ hg
      refine ⟨b, c, vs, p1, p2, ⟨⟨by rw [List.length_set]; exact p3.1, fun m x v hx hv => ?_⟩, p4⟩, p5⟩
      rw [List.getElem?_set] at hx
      split at hx
      · rename_i ejm; subst ejm
        split at hx
        · cases hx
          have := p3.2 j _ v hj hv
          cases this
          exact .own0 h3
        · cases hx
      · exact (p3.2 m x v hx hv).weaken fun k hk _ => hk.imp (fun h => h) (hlive k)
    · exact (h1.objs i o ho).weaken fun k hk _ => hk.imp (fun h => h) (hlive k)
  · obtain ⟨x, hx⟩ := hobj i o ho
    obtain ⟨y, hy⟩ := hobj i' o' ho'
    exact h1.disj i i' x y hne' hx hy
  · obtain ⟨x, hx⟩ := hobj i o ho
    exact h1.turn i x hx
  · exact (h2.rep (hs.sim.slots u)).weaken fun k hk _ => hk.imp (fun h => h) (hlive k)
  · cases e : ρ' i with
    | none => rfl
    | some p =>
      simp only at hi
      rcases h4 i (by rw [e]; simp) with h5 | h5
      · exact absurd (hs.fresh i (by omega)) h5
      · omega
/-- A walk stops there. -/
structure Stop (p : Prop) : Prop where
  out : p
theorem swp_stop {Q : SExit → SSt → Prop} {c : SCode} (h : Stop (SWp X c Q s)) : SWp X c Q s := h.out
end Go.Proofs.Ytfakdapglbgokaa
