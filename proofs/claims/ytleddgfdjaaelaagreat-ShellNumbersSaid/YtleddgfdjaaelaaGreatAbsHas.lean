/- A block that stands by itself beside a memory, and how it joins it. Conditions: none. -/
import Derived.Test.YtleddgfdjaaelaaGreatAbsCall
namespace Go.Abs
section
variable {w w' : World} {ρ ρ' : Pl} {m m' S : Mem} {blk : Blk} {q : Place}

def HasAt (ρ : Pl) (w : World) (blk : Blk) (q : Place) : Prop :=
  match blk with
  | .cells cs k sz => CellsAt ρ w cs k sz q
  | .map es c => q.d = 0 ∧ q.n = 1 ∧ q.spare = 0 ∧ w.heap[q.b]? = some (.map ⟨es⟩ c)
  | .dead => True

theorem cell_same {b o : Nat} (h : w'.heap[b]? = w.heap[b]?) : w'.cell? ⟨b, o, none⟩ = w.cell? ⟨b, o, none⟩ := by
  unfold World.cell?
  simp only [h]
theorem frozen_same {b o : Nat} (h : w'.heap[b]? = w.heap[b]?) : w'.frozen? ⟨b, o, none⟩ = w.frozen? ⟨b, o, none⟩ := by
  unfold World.frozen?
  simp only [h]

theorem CellsAt.same {cs : List Value} {k : Kind} {sz : Nat} (h : CellsAt ρ w cs k sz q) (he : w'.heap[q.b]? = w.heap[q.b]?) : CellsAt ρ w' cs k sz q where
  n := h.n
  sz := h.sz
  spare := h.spare
  cells i c hc := by rw [cell_same he]; exact h.cells i c hc
  room hr i hi := by rw [cell_same he]; exact h.room hr i hi
  tha hr := (h.tha hr).same he

theorem HasAt.same (h : HasAt ρ w blk q) (he : w'.heap[q.b]? = w.heap[q.b]?) : HasAt ρ w' blk q := by
  cases blk with
  | cells cs k sz => exact CellsAt.same h he
  | map es c => exact ⟨h.1, h.2.1, h.2.2.1, by rw [he]; exact h.2.2.2⟩
  | dead => trivial

theorem HasAt.mono (h : HasAt ρ w blk q) (hl : ρ.le ρ') : HasAt ρ' w blk q := by
  cases blk with
  | cells cs k sz => exact CellsAt.mono h hl
  | map es c => exact h
  | dead => trivial

theorem Rel.pl (h : Rel ρ m w) {g : Nat} (hg : Live m g) : ∃ q, ρ g = some q := by
  rcases hg with ⟨cs, k, sz, hg⟩ | ⟨es, c, hg⟩
  · obtain ⟨p, hp, _⟩ := h.cells g cs k sz hg; exact ⟨p, hp⟩
  · obtain ⟨p, hp, _⟩ := h.map g es c hg; exact ⟨p, hp⟩

/-- A memory of fewer blocks. -/
theorem Rel.sub (h : Rel ρ m w) (hn : S.next = m.next) (hg : ∀ g, Live S g → m.b.get g = S.b.get g) (hl : ∀ g, S.next ≤ g → S.b.get g = none) : Rel ρ S w where
  cells g cs k sz e := h.cells g cs k sz (by rw [hg g (.inl ⟨cs, k, sz, e⟩)]; exact e)
  map g es c e := h.map g es c (by rw [hg g (.inr ⟨es, c, e⟩)]; exact e)
  disj g g' p p' hne ho hl' := h.disj g g' p p' hne
    (by have := hg g ho.live; unfold Owns at *; rw [this]; exact ho) (by have := hg g' hl'; unfold Live at *; rw [this]; exact hl')
  place g p e := by rw [hn]; exact h.place g p e
  live := hl

/-- A world that has kept all. -/
theorem Rel.still (h : Rel ρ S w) (hk : ∀ b, b < w.heap.size → w'.heap[b]? = w.heap[b]?) (hs : w.heap.size ≤ w'.heap.size) : Rel ρ S w' where
  cells g cs k sz e := let ⟨p, hp, hc⟩ := h.cells g cs k sz e; ⟨p, hp, hc.same (hk _ (h.place g p hp).2)⟩
  map g es c e := let ⟨p, hp, h1, h2, h3, h4⟩ := h.map g es c e; ⟨p, hp, h1, h2, h3, by rw [hk _ (h.place g p hp).2]; exact h4⟩
  disj := h.disj
  place g p e := ⟨(h.place g p e).1, Nat.lt_of_lt_of_le (h.place g p e).2 hs⟩
  live := h.live

/-- A place more. -/
theorem Rel.more (h : Rel ρ S w) {α : Nat} (hα : ρ α = none) (hn : α < S.next) (hq : q.b < w.heap.size) : Rel (ρ.put α q) S w := by
  have hle := Pl.le_put q hα
  have dead : ∀ g, Live S g → g ≠ α := fun g hg e => by
    obtain ⟨p, hp⟩ := h.pl hg
    subst e
    rw [hα] at hp
    cases hp
  refine ⟨?_, ?_, ?_, ?_, h.live⟩
  · intro g cs k sz e
    obtain ⟨p, hp, hc⟩ := h.cells g cs k sz e
    exact ⟨p, hle _ _ hp, hc.mono hle⟩
  · intro g es c e
    obtain ⟨p, hp, hc⟩ := h.map g es c e
    exact ⟨p, hle _ _ hp, hc⟩
  · intro g g' p p' hne ho hl hp hp'
    rw [Pl.put_ne ρ _ (dead g ho.live)] at hp
    rw [Pl.put_ne ρ _ (dead g' hl)] at hp'
    exact h.disj g g' p p' hne ho hl hp hp'
  · intro g p hp
    by_cases e : g = α
    · subst e
      rw [Pl.put_same] at hp
      cases hp
      exact ⟨hn, hq⟩
    · rw [Pl.put_ne ρ _ e] at hp
      exact h.place g p hp

/-- A block joins. -/
theorem Rel.join (h : Rel ρ S w) {α : Nat} (hα : ρ α = some q) (hb : HasAt ρ w blk q) (hs : ¬ LiveB ρ S q.b) : Rel ρ (S.put α blk) w := by
  have hpl := h.place α q hα
  have apart_ : ∀ g p, Live S g → ρ g = some p → p.b ≠ q.b := fun g p hg hp e => hs ⟨g, p, hg, hp, e⟩
  have live_old : ∀ g, g ≠ α → Live (S.put α blk) g → Live S g := fun g hg hl => by
    unfold Live at *
    rw [get_put, if_neg hg] at hl
    exact hl
  have owns_old : ∀ g, g ≠ α → Owns (S.put α blk) g → Owns S g := fun g hg hl => by
    unfold Owns at *
    rw [get_put, if_neg hg] at hl
    exact hl
  refine ⟨?_, ?_, ?_, h.place, ?_⟩
  · intro g cs k sz e
    rw [get_put] at e
    by_cases eg : g = α
    · rw [if_pos eg] at e
      simp only [Option.some.injEq] at e
      subst e; subst eg
      exact ⟨q, hα, hb⟩
    · rw [if_neg eg] at e
      exact h.cells g cs k sz e
  · intro g es c e
    rw [get_put] at e
    by_cases eg : g = α
    · rw [if_pos eg] at e
      simp only [Option.some.injEq] at e
      subst e; subst eg
      exact ⟨q, hα, hb⟩
    · rw [if_neg eg] at e
      exact h.map g es c e
  · intro g g' p p' hne ho hl hp hp' hbb
    by_cases eg : g = α
    · subst eg
      rw [hα] at hp
      cases hp
      exact absurd hbb.symm (apart_ g' p' (live_old g' (Ne.symm hne) hl) hp')
    · by_cases eg' : g' = α
      · subst eg'
        rw [hα] at hp'
        cases hp'
        exact absurd hbb (apart_ g p (owns_old g eg ho).live hp)
      · exact h.disj g g' p p' hne (owns_old g eg ho) (live_old g' eg' hl) hp hp' hbb
  · intro g hg
    have hg' : S.next ≤ g := hg
    rw [get_put, if_neg (by omega)]
    exact h.live g hg'

theorem LiveB.of_join {α b : Nat} (hα : ρ α = some q) (h : LiveB ρ (S.put α blk) b) : LiveB ρ S b ∨ b = q.b := by
  obtain ⟨g, p, hl, hp, rfl⟩ := h
  by_cases eg : g = α
  · subst eg
    rw [hα] at hp
    cases hp
    exact .inr rfl
  · refine .inl ⟨g, p, ?_, hp, rfl⟩
    unfold Live at *
    rw [get_put, if_neg eg] at hl
    exact hl

theorem OwnB.of_join {α b : Nat} (hα : ρ α = some q) (h : OwnB ρ (S.put α blk) b) : OwnB ρ S b ∨ b = q.b := by
  obtain ⟨g, p, hl, hp, rfl⟩ := h
  by_cases eg : g = α
  · subst eg
    rw [hα] at hp
    cases hp
    exact .inr rfl
  · refine .inl ⟨g, p, ?_, hp, rfl⟩
    unfold Owns at *
    rw [get_put, if_neg eg] at hl
    exact hl

theorem Ext.join {ρ₀ : Pl} {m₀ : Mem} {w₀ : World} (h : Ext ρ₀ m₀ w₀ ρ S w) {α : Nat} (hα : ρ α = some q) (hq : w₀.heap.size ≤ q.b) : Ext ρ₀ m₀ w₀ ρ (S.put α blk) w :=
  { h with
    next := h.next
    own := fun b hb ho => by
      rcases ho.of_join hα with h' | h'
      · exact h.own b hb h'
      · omega
    liv := fun b hb ho => by
      rcases ho.of_join hα with h' | h'
      · exact h.liv b hb h'
      · omega }

theorem OwnB.liveB {b : Nat} (h : OwnB ρ m b) : LiveB ρ m b := let ⟨g, p, ho, hp, e⟩ := h; ⟨g, p, ho.live, hp, e⟩

end
end Go.Abs
