/- A row of bytes turned to its own type. Conditions: none. -/
import Derived.Test.YtleddgfdjaaelaaGreatAbsOps6
namespace Go.Abs
section
variable {P : Program} {o : Oper} {a : Act} {w w' : World} {ρ : Pl} {tm : PM Value} {m m' : Mem} {v : Value}

/-- An object's frozen range changes, and nothing else. -/
theorem Rel.reframe (h : Rel ρ m w) {b : Nat} {C : Array Value} {e : TypeId} {fr fr' : Nat × Nat} (h0 : w.heap[b]? = some (.cells C e fr)) (h1 : w'.heap[b]? = some (.cells C e fr'))
    (ht : Thawed w' b) (hk : ∀ i, i ≠ b → w'.heap[i]? = w.heap[i]?) (hs : w'.heap.size = w.heap.size) : Rel ρ m w' := by
  have cell : ∀ i x, w'.cell? ⟨i, x, none⟩ = w.cell? ⟨i, x, none⟩ := fun i x => by
    unfold World.cell?
    by_cases hi : i = b
    · subst hi; simp only [h0, h1]
    · simp only [hk i hi]
  refine ⟨?_, ?_, h.disj, fun g p hp => by rw [hs]; exact h.place g p hp, h.live⟩
  · intro g cs k sz hg
    obtain ⟨p, hp, hc⟩ := h.cells g cs k sz hg
    refine ⟨p, hp, hc.n, hc.sz, hc.spare, fun i c hi => by rw [cell]; exact hc.cells i c hi, fun hr i hi => by rw [cell]; exact hc.room hr i hi, fun hr => ?_⟩
    by_cases hb : p.b = b
    · rw [hb]; exact ht
    · exact (hc.tha hr).same (hk _ hb)
  · intro g es c hg
    obtain ⟨p, hp, h2, h3, h4, h5⟩ := h.map g es c hg
    refine ⟨p, hp, h2, h3, h4, ?_⟩
    have hb : p.b ≠ b := by
      rintro rfl
      rw [h0] at h5
      cases h5
    rw [hk _ hb]; exact h5

theorem freeze_os (w : World) (x : Addr) (n : Nat) : (w.freeze x n).os = w.os := by unfold World.freeze; split <;> rfl
theorem freeze_output (w : World) (x : Addr) (n : Nat) : (w.freeze x n).output = w.output := by unfold World.freeze; split <;> rfl

theorem sound_conv {s d : TypeId} {x : Operand} (ho : o.op = .convert s d x) (h : convOp P m s d (ev tm x) = some (v, m')) (ht : TR ρ tm a) (hr : Rel ρ m w) : Sound P o a w ρ m v m' := by
  unfold convOp at h
  split at h
  case h_2 => exact sound_convert ho h ht hr
  have hx := ht.ev x
  unfold selfConv at h
  split at h
  case h_2 => cases h
  rename_i e1 e g off n c hs hd hev
  split at h
  case h_2 => cases h
  rename_i c0 cr k sz he hg
  cases hro : isRo k with
  | true => rw [hro] at h; cases h
  | false =>
    rw [hro] at h
    simp only [cond_false] at h
    cases hsd : Nat.beq s d with
    | false => rw [hsd] at h; cases h
    | true =>
      rw [hsd] at h
      obtain ⟨rfl, rfl⟩ := mk_inj h
      obtain rfl := Nat.eq_of_beq_eq_true hsd
      rw [hev] at hx
      obtain ⟨p, hp, hc⟩ := hr.cells g _ k sz hg
      rcases VR.slice_inv hx with ⟨q, c', hq, _, hx', _⟩ | ⟨_, h0, _⟩
      case inr => cases h0
      simp only at hq hx'
      rw [hp] at hq
      cases hq
      obtain ⟨u, hu, _⟩ := hc.cells 0 c0 rfl
      unfold World.cell? at hu
      split at hu
      case h_2 => cases hu
      rename_i C t fr hh
      simp only at hh
      have hT : Thawed (w.freeze ⟨p.b, C.size, none⟩ 1) p.b ∧ ∃ fr', (w.freeze ⟨p.b, C.size, none⟩ 1).heap[p.b]? = some (.cells C t fr') := by
        have h1 : (w.freeze ⟨p.b, C.size, none⟩ 1).heap[p.b]? = some (.cells C t (if fr.1 == fr.2 then (C.size, C.size + 1) else (min fr.1 C.size, max fr.2 (C.size + 1)))) := by
          unfold World.freeze
          rw [if_neg (by decide)]
          simp only [Array.getElem?_modify, if_true, hh, Option.map_some]
        refine ⟨fun C' t' f' hf => ?_, _, h1⟩
        rw [h1] at hf
        simp only [Option.some.injEq, Obj.cells.injEq] at hf
        obtain ⟨rfl, _, rfl⟩ := hf
        right
        have := (hc.tha hro) C t fr hh
        split
        · exact Nat.le_refl _
        · rename_i hne
          rcases this with h' | h'
          · exact absurd (by simpa using h') hne
          · show C.size ≤ min fr.1 C.size
            omega
      obtain ⟨hT, fr', h1⟩ := hT
      have hk : ∀ i, i ≠ p.b → (w.freeze ⟨p.b, C.size, none⟩ 1).heap[i]? = w.heap[i]? := fun i hi => by
        unfold World.freeze
        rw [if_neg (by decide)]
        simp only [Array.getElem?_modify, if_neg (Ne.symm hi)]
      have hsz : (w.freeze ⟨p.b, C.size, none⟩ 1).heap.size = w.heap.size := by
        unfold World.freeze
        rw [if_neg (by decide)]
        simp
      have hrel := hr.reframe hh h1 hT hk hsz
      refine .value (v' := a.eval x) ?_ hrel ⟨Pl.le_refl _, Nat.le_of_eq hsz.symm, fun b hb hn => hk b (fun e => hn ⟨g, p, .inl ⟨_, _, _, hg, hro⟩, hp, e.symm⟩), fun _ _ h => h, freeze_os _ _ _, freeze_output _ _ _, Nat.le_refl _, fun _ _ => rfl, fun _ _ h => h⟩ hx
      have hee : e1 = e := by rw [hs] at hd; cases hd; rfl
      subst hee
      unfold execOp
      simp only [ho, hx']
      refine run_value ?_
      have hshape : w.shape? p.b = some (t, C.size) := by unfold World.shape?; rw [hh]
      simp [convert, Sem.run_bind, run_under hs, run_under he, markStringish, hshape]

end
end Go.Abs
