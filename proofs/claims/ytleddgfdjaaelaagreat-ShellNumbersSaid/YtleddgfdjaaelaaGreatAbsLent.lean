/- Calls that were seen in a memory of their own hold in every other. Conditions: none beyond what was seen. -/
import Derived.Test.YtleddgfdjaaelaaGreatAbsProg
namespace Go.Proofs.YtleddgfdjaaelaaGreat
open Go.Abs

theorem isTrue_inv {r : Res} (h : isTrue r = true) : ∃ m', r = some (.bool true, m') := by
  unfold isTrue at h
  split at h
  · subst h; exact ⟨_, rfl⟩
  · cases h

/-- Nothing of this memory may be written. -/
def Meek (m : Mem) : Prop := ∀ g, ¬ Owns m g

theorem Meek.ownB {ρ : Pl} {m : Mem} (h : Meek m) {b : Nat} : ¬ OwnB ρ m b := fun ⟨g, _, ho, _, _⟩ => h g ho

theorem back_still {ρ₁ ρ : Pl} {m₁ m m' : Mem} {w w' : World} {e : Ending} (hm : Meek m₁) (hr : Rel ρ m w) (h : Back ρ₁ m₁ w (.bool true) m' e w') : Back ρ m w (.bool true) m e w' := by
  obtain ⟨ρ₂, v', he, _, hext, hv⟩ := h
  have e' := VR.bool_inv hv
  subst e'
  have keep : ∀ b, b < w.heap.size → w'.heap[b]? = w.heap[b]? := fun b hb => hext.keep b hb hm.ownB
  exact ⟨ρ, _, he, hr.still keep hext.size, ⟨Pl.le_refl _, hext.size, fun b hb _ => keep b hb, fun _ _ h => h, hext.os, hext.output, Nat.le_refl _, fun _ _ => rfl, fun _ _ h => h⟩, .vb (.sc (.bool true))⟩

def bare : Mem := ⟨.nil, 0⟩
theorem bare_meek : Meek bare := fun g h => by
  rcases h with ⟨_, _, _, h, _⟩ | ⟨_, _, h⟩ <;> (rw [show bare.b.get g = none from PM.get_nil g] at h; cases h)
theorem bare_rel (w : World) : Rel (fun _ => none) bare w where
  cells g cs k sz e := by rw [show bare.b.get g = none from PM.get_nil g] at e; cases e
  map g es c e := by rw [show bare.b.get g = none from PM.get_nil g] at e; cases e
  disj g g' p p' _ ho _ _ _ _ := absurd ho (bare_meek g)
  place g p e := by cases e
  live g _ := PM.get_nil g

/-- A call without arguments, seen in the empty memory. -/
theorem lent_none {orc : Orc} (ho : OrcOk Tryz.prog orc) {n f : Nat} (h : isTrue (run orc n f [] bare) = true) :
    Own Tryz.prog f ∧ ∀ (ρ : Pl) (m : Mem) (w : World), Rel ρ m w → Calls Tryz.prog f #[] w (Back ρ m w (.bool true) m) := by
  obtain ⟨m', hm'⟩ := isTrue_inv h
  obtain ⟨h1, h2⟩ := run_ok ho n f [] bare (.bool true) m' hm'
  exact ⟨h1, fun ρ m w hr => Calls.mono (h2 _ w [] .nil (bare_rel w)) (fun e w' hb => back_still bare_meek hr hb)⟩

def ints : List Value → Bool
  | [] => true
  | .int _ _ :: r => ints r
  | _ => false

theorem ints_get : ∀ {l : List Value}, ints l = true → ∀ {i : Nat} {c : Value}, l[i]? = some c → ∃ k n, c = .int k n
  | [], _, i, c, h => by simp at h
  | x :: r, hl, i, c, h => by
    unfold ints at hl
    split at hl
    · rename_i he; cases he
    · rename_i k n r' he
      simp only [List.cons.injEq] at he
      obtain ⟨rfl, rfl⟩ := he
      cases i with
      | zero => simp only [List.getElem?_cons_zero, Option.some.injEq] at h; exact ⟨k, n, h.symm⟩
      | succ i => exact ints_get hl (by simpa using h)
    · cases hl

noncomputable def lone (B : List Value) : Mem := ⟨.node .nil (some (.cells B .ro 1)) .nil, 1⟩
theorem lone_get (B : List Value) (g : Nat) : (lone B).b.get g = if g = 0 then some (.cells B .ro 1) else none := by
  cases g with
  | zero => rfl
  | succ g =>
    rw [if_neg (by omega)]
    rcases PM.parity g with h | h
    · exact (PM.get_even _ _ _ h).trans (PM.get_nil _)
    · exact (PM.get_odd _ _ _ h).trans (PM.get_nil _)
theorem lone_meek (B : List Value) : Meek (lone B) := fun g h => by
  rcases h with ⟨_, _, _, h, hr⟩ | ⟨_, _, h⟩
  · rw [lone_get] at h
    split at h
    · simp only [Option.some.injEq, Blk.cells.injEq] at h
      rw [← h.2.1] at hr
      cases hr
    · cases h
  · rw [lone_get] at h
    split at h <;> cases h

/-- A call with one slice of bytes, seen in a memory that holds these alone. -/
theorem lent_slice {orc : Orc} (ho : OrcOk Tryz.prog orc) {B : List Value} (hB : ints B = true) {n f k c : Nat} (h : isTrue (run orc n f [.slice (some ⟨0, 0, none⟩) k c] (lone B)) = true) :
    Own Tryz.prog f ∧ ∀ (ρ : Pl) (m : Mem) (w : World) (g : Nat) (kd : Kind) (x' : Value), m.b.get g = some (.cells B kd 1) → VR ρ (.slice (some ⟨g, 0, none⟩) k c) x' → Rel ρ m w →
      Calls Tryz.prog f ⟨[x']⟩ w (Back ρ m w (.bool true) m) := by
  obtain ⟨m', hm'⟩ := isTrue_inv h
  obtain ⟨h1, h2⟩ := run_ok ho n f _ (lone B) (.bool true) m' hm'
  refine ⟨h1, fun ρ m w g kd x' hg hx hr => ?_⟩
  obtain ⟨p, hp, hc⟩ := hr.cells g B kd 1 hg
  have hrel : Rel (fun i => if i = 0 then some p else none) (lone B) w := by
    refine ⟨?_, ?_, fun g g' p p' _ ho _ _ _ _ => absurd ho (lone_meek B g), ?_, ?_⟩
    · intro i cs kk sz e
      rw [lone_get] at e
      split at e
      · rename_i hi
        simp only [Option.some.injEq, Blk.cells.injEq] at e
        obtain ⟨rfl, rfl, rfl⟩ := e
        refine ⟨p, if_pos hi, hc.n, hc.sz, (fun h => by cases h), ?_, (fun h => by cases h), (fun h => by cases h)⟩
        intro i c hi
        obtain ⟨c', h3, h4⟩ := hc.cells i c hi
        obtain ⟨kk, nn, rfl⟩ := ints_get hB hi
        have := VR.int_inv (.vb (.sc h4))
        subst this
        exact ⟨_, h3, .int _ _⟩
      · cases e
    · intro i es c e
      rw [lone_get] at e
      split at e <;> cases e
    · intro i q hq
      have hq' : (if i = 0 then some p else none) = some q := hq
      clear hq
      split at hq'
      · cases hq'
        rename_i hi
        exact ⟨by subst hi; exact Nat.zero_lt_one, (hr.place g p hp).2⟩
      · cases hq'
    · intro i hi
      rw [lone_get, if_neg (by have : 1 ≤ i := hi; omega)]
  have hv : VR (fun i => if i = 0 then some p else none) (.slice (some ⟨0, 0, none⟩) k c) x' := by
    rcases VR.slice_inv hx with ⟨q, c', hq, _, he, hcc⟩ | ⟨h0, hc0, y, he⟩
    · simp only at hq he hcc
      rw [hp] at hq
      cases hq
      subst he
      exact .vb (.sc (.slice (if_pos rfl) hcc))
    · subst h0; subst hc0; subst he
      exact .vb (.sc .slice0)
  exact Calls.mono (h2 _ w [x'] (.cons hv .nil) hrel) (fun e w' hb => back_still (lone_meek B) hr hb)

/-- The bytes that ShellNumbers writes. -/
noncomputable def bytes : List Value := [.int .u8 (Int.ofNat 255), .int .u8 (Int.ofNat 128), .int .u8 (Int.ofNat 0), .int .u8 (Int.ofNat 0), .int .u8 (Int.ofNat 0), .int .u8 (Int.ofNat 0), .int .u8 (Int.ofNat 0), .int .u8 (Int.ofNat 0), .int .u8 (Int.ofNat 0), .int .u8 (Int.ofNat 0), .int .u8 (Int.ofNat 0), .int .u8 (Int.ofNat 0), .int .u8 (Int.ofNat 0), .int .u8 (Int.ofNat 0), .int .u8 (Int.ofNat 0), .int .u8 (Int.ofNat 0), .int .u8 (Int.ofNat 5), .int .u8 (Int.ofNat 0), .int .u8 (Int.ofNat 0), .int .u8 (Int.ofNat 0), .int .u8 (Int.ofNat 0), .int .u8 (Int.ofNat 0), .int .u8 (Int.ofNat 0), .int .u8 (Int.ofNat 0), .int .u8 (Int.ofNat 9), .int .u8 (Int.ofNat 13), .int .u8 (Int.ofNat 4), .int .u8 (Int.ofNat 1), .int .u8 (Int.ofNat 7), .int .u8 (Int.ofNat 0), .int .u8 (Int.ofNat 8), .int .u8 (Int.ofNat 0), .int .u8 (Int.ofNat 0), .int .u8 (Int.ofNat 0), .int .u8 (Int.ofNat 0), .int .u8 (Int.ofNat 0), .int .u8 (Int.ofNat 0), .int .u8 (Int.ofNat 0), .int .u8 (Int.ofNat 0), .int .u8 (Int.ofNat 10), .int .u8 (Int.ofNat 0), .int .u8 (Int.ofNat 8), .int .u8 (Int.ofNat 0), .int .u8 (Int.ofNat 0), .int .u8 (Int.ofNat 0), .int .u8 (Int.ofNat 0), .int .u8 (Int.ofNat 0), .int .u8 (Int.ofNat 0), .int .u8 (Int.ofNat 0), .int .u8 (Int.ofNat 0), .int .u8 (Int.ofNat 1), .int .u8 (Int.ofNat 129), .int .u8 (Int.ofNat 0), .int .u8 (Int.ofNat 0), .int .u8 (Int.ofNat 1), .int .u8 (Int.ofNat 2), .int .u8 (Int.ofNat 0), .int .u8 (Int.ofNat 5), .int .u8 (Int.ofNat 0), .int .u8 (Int.ofNat 255), .int .u8 (Int.ofNat 255), .int .u8 (Int.ofNat 3), .int .u8 (Int.ofNat 97), .int .u8 (Int.ofNat 98), .int .u8 (Int.ofNat 99), .int .u8 (Int.ofNat 7), .int .u8 (Int.ofNat 8), .int .u8 (Int.ofNat 1), .int .u8 (Int.ofNat 255), .int .u8 (Int.ofNat 255), .int .u8 (Int.ofNat 9), .int .u8 (Int.ofNat 0), .int .u8 (Int.ofNat 0), .int .u8 (Int.ofNat 0), .int .u8 (Int.ofNat 255), .int .u8 (Int.ofNat 255), .int .u8 (Int.ofNat 255), .int .u8 (Int.ofNat 255), .int .u8 (Int.ofNat 255), .int .u8 (Int.ofNat 255), .int .u8 (Int.ofNat 255), .int .u8 (Int.ofNat 255), .int .u8 (Int.ofNat 1), .int .u8 (Int.ofNat 100), .int .u8 (Int.ofNat 10), .int .u8 (Int.ofNat 0), .int .u8 (Int.ofNat 0), .int .u8 (Int.ofNat 0), .int .u8 (Int.ofNat 5), .int .u8 (Int.ofNat 64), .int .u8 (Int.ofNat 71), .int .u8 (Int.ofNat 11), .int .u8 (Int.ofNat 0), .int .u8 (Int.ofNat 0), .int .u8 (Int.ofNat 0), .int .u8 (Int.ofNat 64), .int .u8 (Int.ofNat 64), .int .u8 (Int.ofNat 12), .int .u8 (Int.ofNat 0), .int .u8 (Int.ofNat 0), .int .u8 (Int.ofNat 0), .int .u8 (Int.ofNat 0), .int .u8 (Int.ofNat 4), .int .u8 (Int.ofNat 13), .int .u8 (Int.ofNat 0), .int .u8 (Int.ofNat 0), .int .u8 (Int.ofNat 0), .int .u8 (Int.ofNat 0), .int .u8 (Int.ofNat 5), .int .u8 (Int.ofNat 14), .int .u8 (Int.ofNat 0), .int .u8 (Int.ofNat 0), .int .u8 (Int.ofNat 0), .int .u8 (Int.ofNat 6), .int .u8 (Int.ofNat 15), .int .u8 (Int.ofNat 0), .int .u8 (Int.ofNat 0), .int .u8 (Int.ofNat 2), .int .u8 (Int.ofNat 16), .int .u8 (Int.ofNat 2), .int .u8 (Int.ofNat 17), .int .u8 (Int.ofNat 18), .int .u8 (Int.ofNat 6), .int .u8 (Int.ofNat 4), .int .u8 (Int.ofNat 3), .int .u8 (Int.ofNat 1), .int .u8 (Int.ofNat 4), .int .u8 (Int.ofNat 1)]
theorem bytes_ints : ints bytes = true := by kernel_rfl

noncomputable def readsAt (k : Nat) : Bool := isTrue (run .nil 64 9 [.slice (some ⟨0, 0, none⟩) k 128] (lone bytes))

end Go.Proofs.YtleddgfdjaaelaaGreat
