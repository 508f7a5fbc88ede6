/- Reads, writes, and blocks that are given up: what they are in both memories. Conditions: none. -/
import Derived.Test.YtleddgfdjaaelaaGreatAbsRel
import Derived.Deep.MidRow
namespace Go.Abs

theorem splice_length : ∀ (off : Nat) (cs news : List Value), off + news.length ≤ cs.length → (splice off cs news).length = cs.length
  | 0, cs, news, h => by simp [splice]; omega
  | off + 1, [], news, h => by simp at h
  | off + 1, c :: r, news, h => by simp [splice]; exact splice_length off r news (by simp at h; omega)

theorem splice_get : ∀ (off : Nat) (cs news : List Value) (i : Nat), off + news.length ≤ cs.length → (splice off cs news)[i]? = if off ≤ i ∧ i < off + news.length then news[i - off]? else cs[i]?
  | 0, cs, news, i, h => by
    simp only [splice, Nat.zero_le, true_and, Nat.zero_add, Nat.sub_zero]
    by_cases hi : i < news.length
    · rw [if_pos hi, List.getElem?_append_left hi]
    · rw [if_neg hi, List.getElem?_append_right (by omega), List.getElem?_drop]
      congr 1; omega
  | off + 1, [], news, i, h => by simp at h
  | off + 1, c :: r, news, 0, h => by simp [splice]
  | off + 1, c :: r, news, i + 1, h => by
    simp only [splice, List.getElem?_cons_succ]
    rw [splice_get off r news i (by simp at h; omega)]
    by_cases hi : off ≤ i ∧ i < off + news.length
    · rw [if_pos hi, if_pos (by omega)]; congr 1; omega
    · rw [if_neg hi, if_neg (by omega)]

theorem rdL_spec {cs r : List Value} {off n : Nat} (h : rdL cs off n = some r) : off + n ≤ cs.length ∧ r.length = n ∧ ∀ i, i < n → r[i]? = cs[off + i]? := by
  unfold rdL at h
  cases hb : Nat.ble (Nat.add off n) cs.length with
  | false => rw [hb] at h; cases h
  | true =>
    rw [hb] at h
    have hle : off + n ≤ cs.length := Nat.le_of_ble_eq_true hb
    simp only [cond_true, Option.some.injEq] at h
    subst h
    refine ⟨hle, by simp; omega, fun i hi => ?_⟩
    rw [List.getElem?_take, if_pos hi, List.getElem?_drop]

/-- Reading a part of a block. -/
theorem CellsAt.read {ρ : Pl} {w : World} {cs r : List Value} {k : Kind} {sz off n : Nat} {p : Place} (h : CellsAt ρ w cs k sz p) (hr : rdL cs off n = some r) :
    ∃ r', SRs ρ r r' ∧ r'.length = n ∧ ∀ j v, r'[j]? = some v → w.cell? ⟨p.b, p.d + off + j, none⟩ = some v := by
  obtain ⟨hle, hlen, hget⟩ := rdL_spec hr
  have key : ∀ (l : List Value) (o : Nat), (∀ i, i < l.length → l[i]? = cs[o + i]?) → ∃ r', SRs ρ l r' ∧ ∀ j v, r'[j]? = some v → w.cell? ⟨p.b, p.d + o + j, none⟩ = some v := by
    intro l
    induction l with
    | nil => intro o _; exact ⟨[], .nil, fun j v hv => by simp at hv⟩
    | cons c l ih =>
      intro o hg
      have h0 := hg 0 (by simp)
      simp only [List.getElem?_cons_zero, Nat.add_zero] at h0
      obtain ⟨c', hc', hs⟩ := h.cells o c h0.symm
      obtain ⟨r', hr', hv⟩ := ih (o + 1) (fun i hi => by
        have := hg (i + 1) (by simp; omega)
        simp only [List.getElem?_cons_succ] at this
        rw [this]; congr 1; omega)
      refine ⟨c' :: r', .cons hs hr', fun j v hj => ?_⟩
      cases j with
      | zero => simp only [List.getElem?_cons_zero, Option.some.injEq] at hj; subst hj; exact hc'
      | succ j =>
        simp only [List.getElem?_cons_succ] at hj
        have := hv j v hj
        rw [show p.d + o + (j + 1) = p.d + (o + 1) + j by omega]
        exact this
  obtain ⟨r', hr', hv⟩ := key r off (fun i hi => hget i (by omega))
  exact ⟨r', hr', by rw [← hr'.length, hlen], hv⟩

theorem Rel.rd {ρ : Pl} {m : Mem} {w : World} (h : Rel ρ m w) {g off n : Nat} {r : List Value} (hr : rd m g off n = some r) :
    ∃ p r', ρ g = some p ∧ SRs ρ r r' ∧ r'.length = n ∧ ∀ j v, r'[j]? = some v → w.cell? ⟨p.b, p.d + off + j, none⟩ = some v := by
  unfold Abs.rd at hr
  split at hr
  · rename_i cs k sz hg
    obtain ⟨p, hp, hc⟩ := h.cells g cs k sz hg
    obtain ⟨r', a, b, c⟩ := hc.read hr
    exact ⟨p, r', hp, a, b, c⟩
  · cases hr

/-- A block is given up. -/
theorem Rel.kill {ρ : Pl} {m : Mem} {w : World} (h : Rel ρ m w) (g : Nat) (hg : Live m g) : Rel ρ (m.put g .dead) w ∧ Ext ρ m w ρ (m.put g .dead) w := by
  have live_old : ∀ k, Live (m.put g .dead) k → Live m k := fun k hl => by
    unfold Live at *
    rw [get_put] at hl
    by_cases hk : k = g
    · subst hk; exact hg
    · rw [if_neg hk] at hl; exact hl
  have owns_old : ∀ k, Owns (m.put g .dead) k → Owns m k := fun k hl => by
    unfold Owns at *
    rw [get_put] at hl
    by_cases hk : k = g
    · rw [if_pos hk] at hl; rcases hl with ⟨_, _, _, h, _⟩ | ⟨_, _, h⟩ <;> cases h
    · rw [if_neg hk] at hl; exact hl
  refine ⟨⟨?_, ?_, ?_, h.place, ?_⟩, ⟨Pl.le_refl _, Nat.le_refl _, fun _ _ _ => rfl, ?_, rfl, rfl, Nat.le_refl _, fun _ _ => rfl, ?_⟩⟩
  · intro k cs kd sz hk
    rw [get_put] at hk
    by_cases e : k = g
    · rw [if_pos e] at hk; cases hk
    · rw [if_neg e] at hk; exact h.cells k cs kd sz hk
  · intro k es c hk
    rw [get_put] at hk
    by_cases e : k = g
    · rw [if_pos e] at hk; cases hk
    · rw [if_neg e] at hk; exact h.map k es c hk
  · intro k k' p p' hne ho hl
    exact h.disj k k' p p' hne (owns_old k ho) (live_old k' hl)
  · intro k hk
    rw [get_put]
    by_cases e : k = g
    · subst e
      have hn := h.live k hk
      rcases hg with ⟨_, _, _, h'⟩ | ⟨_, _, h'⟩ <;> (rw [hn] at h'; cases h')
    · rw [if_neg e]; exact h.live k hk
  · rintro b hb ⟨k, p, ho, hp, rfl⟩
    exact ⟨k, p, owns_old k ho, hp, rfl⟩
  · rintro b hb ⟨k, p, ho, hp, rfl⟩
    exact ⟨k, p, live_old k ho, hp, rfl⟩

/-- Cells that lie apart stay. -/
theorem cell_out {w : World} {b o : Nat} {vs : List Value} {b' x : Nat} (h : b' = b → x < o ∨ o + vs.length ≤ x) : (w.setCells b o vs).cell? ⟨b', x, none⟩ = w.cell? ⟨b', x, none⟩ :=
  World.cell?_setCells_out b vs o w ⟨b', x, none⟩ (fun e _ => h e)

theorem isSome_setCells {w : World} {b o : Nat} {vs : List Value} {b' x : Nat} (h : (w.cell? ⟨b', x, none⟩).isSome = true) : ((w.setCells b o vs).cell? ⟨b', x, none⟩).isSome = true :=
  World.isSome_setCells b vs o w _ h

theorem size_setCells (w : World) (b o : Nat) (vs : List Value) : (w.setCells b o vs).heap.size = w.heap.size := by
  induction vs generalizing w o with
  | nil => rfl
  | cons v r ih => rw [World.setCells, ih]; simp

/-- The cells of a block that lies apart from what is written. -/
theorem CellsAt.far {ρ : Pl} {w : World} {cs : List Value} {k : Kind} {sz : Nat} {p : Place} (h : CellsAt ρ w cs k sz p) {b o : Nat} {vs : List Value}
    (hf : p.b = b → p.d + p.all ≤ o ∨ o + vs.length ≤ p.d) : CellsAt ρ (w.setCells b o vs) cs k sz p := by
  refine ⟨h.n, h.sz, h.spare, ?_, ?_, ?_⟩
  · intro i c hc
    obtain ⟨c', a, s⟩ := h.cells i c hc
    refine ⟨c', ?_, s⟩
    rw [cell_out (fun e => ?_)]
    · exact a
    · have hi : i < cs.length := by
        rcases Nat.lt_or_ge i cs.length with h' | h'
        · exact h'
        · rw [List.getElem?_eq_none h'] at hc; cases hc
      have hn := h.n
      rcases hf e with h1 | h1
      · unfold Place.all at h1; left; omega
      · right; omega
  · intro hr i hi; exact isSome_setCells (h.room hr i hi)
  · intro hr; exact (h.tha hr).setCells _ _ _

/-- A write. -/
theorem Rel.wr {ρ : Pl} {m m' : Mem} {w : World} (h : Rel ρ m w) {g off : Nat} {news news' : List Value} (hw : wr m g off news = some m') (hn : SRs ρ news news') :
    ∃ p, ρ g = some p ∧ Rel ρ m' (w.setCells p.b (p.d + off) news') ∧ Ext ρ m w ρ m' (w.setCells p.b (p.d + off) news') ∧
      (∀ j, j < news'.length → (w.cell? ⟨p.b, p.d + off + j, none⟩).isSome = true) ∧ (∀ j, j < news'.length → w.frozen? ⟨p.b, p.d + off + j, none⟩ = false) := by
  unfold Abs.wr at hw
  split at hw
  case h_2 => cases hw
  rename_i cs k sz hg
  have hro : isRo k = false ∧ (cond (Nat.ble (Nat.add off news.length) cs.length) (some (m.put g (.cells (splice off cs news) k sz))) none = some m') := by
    cases k
    · exact ⟨rfl, hw⟩
    · exact ⟨rfl, hw⟩
    · cases hw
  obtain ⟨hro, hw⟩ := hro
  cases hb : Nat.ble (Nat.add off news.length) cs.length with
  | false => rw [hb] at hw; cases hw
  | true =>
    rw [hb] at hw
    have hle : off + news.length ≤ cs.length := Nat.le_of_ble_eq_true hb
    simp only [cond_true, Option.some.injEq] at hw
    subst hw
    obtain ⟨p, hp, hc⟩ := h.cells g cs k sz hg
    have hlen := hn.length
    have hpn := hc.n
    have hthere : ∀ j, j < news'.length → (w.cell? ⟨p.b, p.d + off + j, none⟩).isSome = true := fun j hj => by
      have : ∃ c, cs[off + j]? = some c := ⟨_, List.getElem?_eq_getElem (by omega)⟩
      obtain ⟨c, hcj⟩ := this
      obtain ⟨c', a, _⟩ := hc.cells _ c hcj
      rw [show p.d + off + j = p.d + (off + j) by omega, a]
      rfl
    have hown : Owns m g := .inl ⟨cs, k, sz, hg, hro⟩
    have live_old : ∀ x, Live (m.put g (.cells (splice off cs news) k sz)) x → Live m x := fun x hl => by
      by_cases e : x = g
      · subst e; exact hown.live
      · unfold Live at *
        rw [get_put, if_neg e] at hl
        exact hl
    have owns_old : ∀ x, Owns (m.put g (.cells (splice off cs news) k sz)) x → Owns m x := fun x hl => by
      by_cases e : x = g
      · subst e; exact hown
      · unfold Owns at *
        rw [get_put, if_neg e] at hl
        exact hl
    refine ⟨p, hp, ⟨?_, ?_, ?_, ?_, ?_⟩, ⟨Pl.le_refl _, by rw [size_setCells]; exact Nat.le_refl _, ?_, ?_, ?_, ?_, Nat.le_refl _, fun _ _ => rfl, ?_⟩, hthere, ?_⟩
    · intro x cs₁ k₁ sz₁ hx
      rw [get_put] at hx
      by_cases e : x = g
      · subst e
        rw [if_pos rfl] at hx
        simp only [Option.some.injEq, Blk.cells.injEq] at hx
        obtain ⟨rfl, rfl, rfl⟩ := hx
        refine ⟨p, hp, ⟨by rw [splice_length _ _ _ hle]; exact hc.n, hc.sz, hc.spare, ?_, ?_, ?_⟩⟩
        · intro i c hi
          rw [splice_get _ _ _ _ hle] at hi
          by_cases hin : off ≤ i ∧ i < off + news.length
          · rw [if_pos hin] at hi
            obtain ⟨c', hc', hs⟩ := hn.get _ c hi
            refine ⟨c', ?_, hs⟩
            have hj : i - off < news'.length := by omega
            have := World.cell?_setCells_in p.b news' (p.d + off) w hthere (i - off) hj
            rw [show p.d + off + (i - off) = p.d + i by omega] at this
            rw [this]
            rw [List.getElem?_eq_getElem hj] at hc'
            exact hc'
          · rw [if_neg hin] at hi
            obtain ⟨c', a, s⟩ := hc.cells i c hi
            refine ⟨c', ?_, s⟩
            rw [cell_out (fun _ => by omega)]
            exact a
        · intro hr i hi; exact isSome_setCells (hc.room hr i hi)
        · intro hr; exact (hc.tha hr).setCells _ _ _
      · rw [if_neg e] at hx
        obtain ⟨q, hq, hcq⟩ := h.cells x cs₁ k₁ sz₁ hx
        refine ⟨q, hq, hcq.far (fun eb => ?_)⟩
        have := h.disj g x p q (Ne.symm e) hown (.inl ⟨_, _, _, hx⟩) hp hq eb.symm
        unfold apart at this
        unfold Place.all at *
        rcases this with h1 | h1
        · right; omega
        · left; omega
    · intro x es c hx
      rw [get_put] at hx
      by_cases e : x = g
      · rw [if_pos e] at hx; cases hx
      · rw [if_neg e] at hx
        obtain ⟨q, hq, h1, h2, h3, h4⟩ := h.map x es c hx
        refine ⟨q, hq, h1, h2, h3, ?_⟩
        by_cases eb : q.b = p.b
        · by_cases hnil : news' = []
          · subst hnil; exact h4
          · exfalso
            have := hthere 0 (by cases news' with | nil => exact absurd rfl hnil | cons _ _ => simp)
            rw [World.cell?, ← eb] at this
            simp only [h4] at this
            cases this
        · rw [World.heap_setCells_other w p.b _ _ (h.place x q hq).2 eb]; exact h4
    · intro x x' q q' hne ho hl
      exact h.disj x x' q q' hne (owns_old x ho) (live_old x' hl)
    · intro x q hq
      rw [size_setCells]
      exact h.place x q hq
    · intro x hx
      have hx' : m.next ≤ x := hx
      rw [get_put, if_neg (by rintro rfl; have := (h.place x p hp).1; omega)]
      exact h.live x hx
    · intro b hb hnb
      exact World.heap_setCells_other w p.b _ _ hb (fun e => hnb ⟨g, p, hown, hp, e.symm⟩)
    · rintro b hb ⟨x, q, ho, hq, rfl⟩
      exact ⟨x, q, owns_old x ho, hq, rfl⟩
    · exact World.os_setCells w _ _ _
    · exact World.output_setCells w _ _ _
    · rintro b hb ⟨x, q, ho, hq, rfl⟩
      exact ⟨x, q, live_old x ho, hq, rfl⟩
    · intro j hj
      rw [show p.d + off + j = p.d + (off + j) by omega]
      exact hc.thaw hro _ (by unfold Place.all; omega)

theorem get_putPush (m : Mem) (b b' : Blk) (g k : Nat) : ((m.put g b).push b').b.get k = if k = m.next then some b' else if k = g then some b else m.b.get k := by
  rw [get_push, get_put]; rfl

/-- What was a block's end grows in its place. -/
theorem Rel.regrow {ρ : Pl} {m : Mem} {w : World} (h : Rel ρ m w) {g off sz len n cap cap' : Nat} {cs olds news news' : List Value} {p : Place} (hg : m.b.get g = some (.cells cs .grow sz)) (hp : ρ g = some p)
    (ho : rdL cs off (len * sz) = some olds) (hn : SRs ρ news news') (hl : news.length = n * sz) (he : off + cap * sz = p.n) (hc' : cap' = cap + p.spare) (hfit : len + n ≤ cap') :
    Rel (ρ.put m.next ⟨p.b, p.d + off, (olds ++ news).length, sz, cap' - (len + n)⟩) ((m.put g .dead).push (.cells (olds ++ news) .grow sz)) (w.setCells p.b (p.d + off + len * sz) news') ∧
    Ext ρ m w (ρ.put m.next ⟨p.b, p.d + off, (olds ++ news).length, sz, cap' - (len + n)⟩) ((m.put g .dead).push (.cells (olds ++ news) .grow sz)) (w.setCells p.b (p.d + off + len * sz) news') ∧
    (∀ j, j < news'.length → (w.cell? ⟨p.b, p.d + off + len * sz + j, none⟩).isSome = true) ∧ (∀ j, j < news'.length → w.frozen? ⟨p.b, p.d + off + len * sz + j, none⟩ = false) := by
  obtain ⟨q, hq, hc⟩ := h.cells g cs .grow sz hg
  rw [hp] at hq
  cases hq
  obtain ⟨hle, holen, hoget⟩ := rdL_spec ho
  have hlen := hn.length
  have hpn := hc.n
  have hpsz := hc.sz
  have hnn := h.none_next
  have hpl := h.place g p hp
  have hown : Owns m g := .inl ⟨cs, .grow, sz, hg, rfl⟩
  have hle' := Pl.le_put (ρ := ρ) (g := m.next) ⟨p.b, p.d + off, (olds ++ news).length, sz, cap' - (len + n)⟩ hnn
  -- the whole row, as cells
  have hmul : (len + n) * sz + (cap' - (len + n)) * sz = cap' * sz := by rw [← Nat.add_mul]; congr 1; omega
  have hadd : (len + n) * sz = len * sz + n * sz := Nat.add_mul _ _ _
  have hcap : off + cap' * sz = p.n + p.spare * sz := by rw [hc', Nat.add_mul]; omega
  have hall : p.all = p.n + p.spare * sz := by unfold Place.all; rw [hpsz]
  have there : ∀ x, x < p.n + p.spare * sz → (w.cell? ⟨p.b, p.d + x, none⟩).isSome = true := fun x hx => by
    rcases Nat.lt_or_ge x p.n with h1 | h1
    · have : ∃ c, cs[x]? = some c := ⟨_, List.getElem?_eq_getElem (by omega)⟩
      obtain ⟨c, hcx⟩ := this
      obtain ⟨c', a, _⟩ := hc.cells x c hcx
      rw [a]; rfl
    · have := hc.room rfl (x - p.n) (by rw [hpsz]; omega)
      rw [show p.d + p.n + (x - p.n) = p.d + x by omega] at this
      exact this
  have hthere : ∀ j, j < news'.length → (w.cell? ⟨p.b, p.d + off + len * sz + j, none⟩).isSome = true := fun j hj => by
    rw [show p.d + off + len * sz + j = p.d + (off + len * sz + j) by omega]
    exact there _ (by omega)
  have live_old : ∀ x, x ≠ m.next → Live ((m.put g .dead).push (.cells (olds ++ news) .grow sz)) x → Live m x ∧ x ≠ g := fun x hx hl => by
    unfold Live at *
    rw [get_putPush, if_neg hx] at hl
    by_cases e : x = g
    · rw [if_pos e] at hl; rcases hl with ⟨_, _, _, h⟩ | ⟨_, _, h⟩ <;> cases h
    · rw [if_neg e] at hl; exact ⟨hl, e⟩
  have owns_old : ∀ x, x ≠ m.next → Owns ((m.put g .dead).push (.cells (olds ++ news) .grow sz)) x → Owns m x ∧ x ≠ g := fun x hx hl => by
    unfold Owns at *
    rw [get_putPush, if_neg hx] at hl
    by_cases e : x = g
    · rw [if_pos e] at hl; rcases hl with ⟨_, _, _, h, _⟩ | ⟨_, _, h⟩ <;> cases h
    · rw [if_neg e] at hl; exact ⟨hl, e⟩
  refine ⟨⟨?_, ?_, ?_, ?_, ?_⟩, ⟨hle', by rw [size_setCells]; exact Nat.le_refl _, ?_, ?_, World.os_setCells w _ _ _, World.output_setCells w _ _ _, Nat.le_succ _, fun g hg => Pl.put_ne ρ _ (Nat.ne_of_lt hg), ?_⟩, hthere, ?_⟩
  · intro x cs₁ k₁ sz₁ hx
    rw [get_putPush] at hx
    by_cases e : x = m.next
    · subst e
      rw [if_pos rfl] at hx
      simp only [Option.some.injEq, Blk.cells.injEq] at hx
      obtain ⟨rfl, rfl, rfl⟩ := hx
      refine ⟨_, Pl.put_same _ _ _, ⟨rfl, rfl, (fun h => by cases h), ?_, ?_, ?_⟩⟩
      · intro i c hi
        show ∃ c', (w.setCells p.b (p.d + off + len * sz) news').cell? ⟨p.b, p.d + off + i, none⟩ = some c' ∧ _
        by_cases hin : i < olds.length
        · rw [List.getElem?_append_left hin, hoget i (by omega)] at hi
          obtain ⟨c', a, s⟩ := hc.cells _ c hi
          refine ⟨c', ?_, s.mono hle'⟩
          rw [cell_out (fun _ => by omega), show p.d + off + i = p.d + (off + i) by omega]
          exact a
        · rw [List.getElem?_append_right (by omega)] at hi
          obtain ⟨c', hc', hs⟩ := hn.get _ c hi
          refine ⟨c', ?_, hs.mono hle'⟩
          have hj : i - olds.length < news'.length := by
            rcases Nat.lt_or_ge (i - olds.length) news'.length with h' | h'
            · exact h'
            · rw [List.getElem?_eq_none h'] at hc'; cases hc'
          have := World.cell?_setCells_in p.b news' (p.d + off + len * sz) w hthere (i - olds.length) hj
          rw [show p.d + off + len * sz + (i - olds.length) = p.d + off + i by omega] at this
          rw [this]
          rw [List.getElem?_eq_getElem hj] at hc'
          exact hc'
      · intro _ i hi
        show ((w.setCells p.b (p.d + off + len * sz) news').cell? ⟨p.b, p.d + off + (olds ++ news).length + i, none⟩).isSome = true
        refine isSome_setCells ?_
        simp only at hi
        rw [List.length_append, show p.d + off + (olds.length + news.length) + i = p.d + (off + (olds.length + news.length) + i) by omega]
        exact there _ (by omega)
      · intro _
        exact (hc.tha rfl).setCells _ _ _
    · rw [if_neg e] at hx
      by_cases eg : x = g
      · rw [if_pos eg] at hx; cases hx
      · rw [if_neg eg] at hx
        obtain ⟨q, hq, hcq⟩ := h.cells x cs₁ k₁ sz₁ hx
        refine ⟨q, hle' _ _ hq, (hcq.far (fun eb => ?_)).mono hle'⟩
        have := h.disj g x p q (Ne.symm eg) hown (.inl ⟨_, _, _, hx⟩) hp hq eb.symm
        unfold apart at this
        rcases this with h1 | h1
        · right; omega
        · left; omega
  · intro x es c hx
    rw [get_putPush] at hx
    by_cases e : x = m.next
    · rw [if_pos e] at hx; cases hx
    · rw [if_neg e] at hx
      by_cases eg : x = g
      · rw [if_pos eg] at hx; cases hx
      · rw [if_neg eg] at hx
        obtain ⟨q, hq, h1, h2, h3, h4⟩ := h.map x es c hx
        refine ⟨q, hle' _ _ hq, h1, h2, h3, ?_⟩
        by_cases eb : q.b = p.b
        · by_cases hnil : news' = []
          · subst hnil; exact h4
          · exfalso
            have := hthere 0 (by cases news' with | nil => exact absurd rfl hnil | cons _ _ => simp)
            rw [World.cell?, ← eb] at this
            simp only [h4] at this
            cases this
        · rw [World.heap_setCells_other w p.b _ _ (h.place x q hq).2 eb]; exact h4
  · intro x x' q q' hne ho' hl' hq hq' hb
    by_cases e : x = m.next
    · subst e
      rw [Pl.put_same] at hq
      cases hq
      obtain ⟨hl', eg⟩ := live_old x' (Ne.symm hne) hl'
      rw [Pl.put_ne ρ _ (Ne.symm hne)] at hq'
      have := h.disj g x' p q' (Ne.symm eg) hown hl' hp hq' hb
      unfold apart at *
      unfold Place.all at *
      simp only [List.length_append] at *
      rcases this with h1 | h1
      · left; omega
      · right; omega
    · rw [Pl.put_ne ρ _ e] at hq
      obtain ⟨ho', eg⟩ := owns_old x e ho'
      by_cases e' : x' = m.next
      · subst e'
        rw [Pl.put_same] at hq'
        cases hq'
        have := h.disj x g q p eg ho' hown.live hq hp hb
        unfold apart at *
        unfold Place.all at *
        simp only [List.length_append] at *
        rcases this with h1 | h1
        · left; omega
        · right; omega
      · obtain ⟨hl', eg'⟩ := live_old x' e' hl'
        rw [Pl.put_ne ρ _ e'] at hq'
        exact h.disj x x' q q' hne ho' hl' hq hq' hb
  · intro x q hq
    rw [size_setCells]
    by_cases e : x = m.next
    · subst e
      rw [Pl.put_same] at hq
      cases hq
      exact ⟨Nat.lt_succ_self _, hpl.2⟩
    · rw [Pl.put_ne ρ _ e] at hq
      have := h.place x q hq
      exact ⟨Nat.lt_succ_of_lt this.1, this.2⟩
  · intro x hx
    have hx' : m.next < x := hx
    rw [get_putPush, if_neg (by omega), if_neg (by omega)]
    exact h.live x (by omega)
  · intro b hb hnb
    exact World.heap_setCells_other w p.b _ _ hb (fun e => hnb ⟨g, p, hown, hp, e.symm⟩)
  · rintro b hb ⟨x, q, ho', hq, rfl⟩
    by_cases e : x = m.next
    · subst e
      rw [Pl.put_same] at hq
      cases hq
      exact ⟨g, p, hown, hp, rfl⟩
    · rw [Pl.put_ne ρ _ e] at hq
      exact ⟨x, q, (owns_old x e ho').1, hq, rfl⟩
  · rintro b hb ⟨x, q, ho', hq, rfl⟩
    by_cases e : x = m.next
    · subst e
      rw [Pl.put_same] at hq
      cases hq
      exact ⟨g, p, hown.live, hp, rfl⟩
    · rw [Pl.put_ne ρ _ e] at hq
      exact ⟨x, q, (live_old x e ho').1, hq, rfl⟩
  · intro j hj
    rw [show p.d + off + len * sz + j = p.d + (off + len * sz + j) by omega]
    exact hc.thaw rfl _ (by omega)

end Go.Abs
