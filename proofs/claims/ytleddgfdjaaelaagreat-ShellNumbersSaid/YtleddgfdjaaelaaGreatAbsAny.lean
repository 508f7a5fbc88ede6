/- Every order of a planned region: the whole. Conditions: the plan's own facts, CallOk. -/
import Derived.Test.YtleddgfdjaaelaaGreatAbsOrder
namespace Go.Abs
section
variable {P : Program} {call : CallF} {N : Nat} {ops : Array Oper} {base : Mem} {a0 : Nat} {tm0 : PM Value}
variable {pl : Plan P call N ops base a0 tm0} {ρ₀ : Pl} {w₀ : World}

def lis (listed : Array Bool) (i : Nat) : Bool := listed.getD i false

theorem count_set : ∀ {l : List Bool} {i : Nat}, l[i]? = some false → (l.set i true).count false + 1 = l.count false
  | [], i, h => by simp at h
  | b :: l, 0, h => by
    simp only [List.getElem?_cons_zero, Option.some.injEq] at h
    subst h
    simp
  | b :: l, i + 1, h => by
    have := count_set (l := l) (i := i) (by simpa using h)
    simp only [List.set_cons_succ, List.count_cons]
    omega

theorem all_of_count : ∀ {l : List Bool}, l.count false = 0 → ∀ {i : Nat} {b : Bool}, l[i]? = some b → b = true
  | [], _, i, b, h => by simp at h
  | c :: l, hc, i, b, h => by
    cases c with
    | false => simp at hc
    | true =>
      cases i with
      | zero => simp at h; exact h
      | succ i => exact all_of_count (l := l) (by simpa using hc) (i := i) (by simpa using h)

theorem lis_set {listed : Array Bool} {j : Nat} (hj : j < listed.size) : lis (listed.setIfInBounds j true) = setD (lis listed) j := by
  funext i
  unfold lis setD
  by_cases e : i = j
  · subst e
    rw [if_pos rfl]
    simp [Array.getD_eq_getD_getElem?, hj]
  · rw [if_neg e]
    simp [Array.getD_eq_getD_getElem?, Array.getElem?_setIfInBounds_ne (Ne.symm e)]

theorem lis_getD {listed : Array Bool} {i : Nat} (hi : i < listed.size) : listed.getD i true = lis listed i := by
  unfold lis
  simp [Array.getD_eq_getD_getElem?, Array.getElem?_eq_getElem hi]

theorem ready_spec {listed : Array Bool} (hs : listed.size = ops.size) {i : Nat} (h : i ∈ Region.ready .any ops listed) :
    ∃ o, ops[i]? = some o ∧ lis listed i = false ∧ ∀ e ∈ o.after.toList, Region.binds .any e = true → lis listed e.on = true := by
  unfold Region.ready at h
  rw [List.mem_filter] at h
  obtain ⟨hr, hb⟩ := h
  have hi : i < ops.size := List.mem_range.1 hr
  simp only [Bool.and_eq_true, Bool.not_eq_true'] at hb
  refine ⟨ops[i], Array.getElem?_eq_getElem hi, ?_, ?_⟩
  · rw [← lis_getD (by omega)]; exact hb.1
  · intro e he hbind
    have h2 := hb.2
    rw [Array.getElem?_eq_getElem hi] at h2
    simp only [Option.map_some, Option.getD_some, Array.all_eq_true'] at h2
    have := h2 e (Array.mem_toList_iff.1 he)
    simp only [hbind, Bool.not_true, Bool.false_or] at this
    exact this

theorem ready_nil (hg : pl.Good) {listed : Array Bool} (hs : listed.size = ops.size) (h : Region.ready .any ops listed = []) : ∀ i, i < ops.size → lis listed i = true := by
  intro i
  induction i using Nat.strongRecOn with
  | _ i ih =>
    intro hi
    cases hl : lis listed i with
    | true => rfl
    | false =>
      have : i ∈ Region.ready .any ops listed := by
        unfold Region.ready
        rw [List.mem_filter]
        refine ⟨List.mem_range.2 hi, ?_⟩
        rw [lis_getD (by omega), hl, Array.getElem?_eq_getElem hi]
        simp only [Bool.not_false, Option.map_some, Option.getD_some, Bool.true_and, Array.all_eq_true']
        intro e he
        cases hb : Region.binds .any e with
        | false => rfl
        | true =>
          have hlt := hg.edge i _ (Array.getElem?_eq_getElem hi) e (Array.mem_toList_iff.2 he) hb
          have h3 := ih e.on hlt (by omega)
          unfold lis at h3
          simpa using h3
      rw [h] at this
      cases this

theorem order_any (hg : pl.Good) (hcall : CallOk P call) {Q : Exit → Act → World → Prop}
    (hQ : ∀ D ρ a w, (∀ i, i < ops.size → D i = true) → Inv pl ρ₀ w₀ D ρ a w → Q .normal a w) :
    ∀ (fuel : Nat) (listed : Array Bool) (ρ : Pl) (a : Act) (w : World), listed.size = ops.size → listed.toList.count false ≤ fuel →
      (∀ i, lis listed i = true → ∀ k, Nat.testBit (pl.pre i) k = true → lis listed k = true) → Inv pl ρ₀ w₀ (lis listed) ρ a w → wpAny P .any ops Q fuel listed a w := by
  intro fuel
  induction fuel with
  | zero =>
    intro listed ρ a w hs hc _ hi
    have hall : ∀ i, i < ops.size → lis listed i = true := fun i hil => by
      have : listed.toList[i]? = some (listed[i]'(by omega)) := by simp [hs, hil]
      have := all_of_count (by omega) this
      unfold lis
      simp [Array.getD_eq_getD_getElem?, hs, hil, this]
    refine ⟨?_, hQ _ ρ a w hall hi⟩
    cases hr : Region.ready .any ops listed with
    | nil => rfl
    | cons i r =>
      obtain ⟨o, h1, h2, _⟩ := ready_spec hs (i := i) (by rw [hr]; simp)
      have hil : i < ops.size := by
        rcases Nat.lt_or_ge i ops.size with h | h
        · exact h
        · rw [Array.getElem?_eq_none h] at h1; cases h1
      rw [hall i hil] at h2
      cases h2
  | succ fuel ih =>
    intro listed ρ a w hs hc hcl hi
    refine ⟨fun hr => hQ _ ρ a w (ready_nil hg hs hr) hi, fun j hj => ?_⟩
    obtain ⟨o, ho, hnot, hedges⟩ := ready_spec hs hj
    have hjs : j < ops.size := by
      rcases Nat.lt_or_ge j ops.size with h | h
      · exact h
      · rw [Array.getElem?_eq_none h] at ho; cases ho
    have hpre : ∀ k, Nat.testBit (pl.pre j) k = true → lis listed k = true := fun k hk => by
      obtain ⟨e, he, hb, h⟩ := hg.clos j o ho k hk
      rcases h with rfl | h
      · exact hedges e he hb
      · exact hcl e.on (hedges e he hb) k h
    have := step_inv hg hcall hi hcl ho hnot hpre (wpAny P .any ops Q fuel (listed.setIfInBounds j true)) Q (fun ρ' a' w' hi' => by
      refine ih _ ρ' a' w' (by simp [hs]) ?_ ?_ (by rw [lis_set (by omega)]; exact hi')
      · have hget : listed.toList[j]? = some false := by
          unfold lis at hnot
          rw [Array.getD_eq_getD_getElem?] at hnot
          have hx : listed[j]? = some (listed[j]'(by omega)) := Array.getElem?_eq_getElem (by omega)
          rw [hx] at hnot
          simp only [Option.getD_some] at hnot
          rw [Array.getElem?_toList, hx, hnot]
        have h1 := count_set hget
        rw [Array.toList_setIfInBounds]
        omega
      · rw [lis_set (by omega)]
        intro i hil k hk
        by_cases e : i = j
        · subst e
          have := hpre k hk
          by_cases e' : k = i
          · subst e'; exact setD_same _ _
          · rw [setD_ne _ e']; exact this
        · rw [setD_ne _ e] at hil
          have := hcl i hil k hk
          by_cases e' : k = j
          · subst e'; exact setD_same _ _
          · rw [setD_ne _ e']; exact this)
    unfold wpOp
    rw [ho]
    simp only
    split
    · rename_i hw; rw [if_pos hw] at this; exact .inl this
    · rename_i hw; rw [if_neg hw] at this; exact this

end
end Go.Abs
