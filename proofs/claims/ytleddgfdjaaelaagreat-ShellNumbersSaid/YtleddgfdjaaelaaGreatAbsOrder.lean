/- Every order of a planned region does what the plan says. Conditions: the plan's own facts, CallOk. -/
import Derived.Test.YtleddgfdjaaelaaGreatAbsPlan
namespace Go.Abs

def setD (D : Nat → Bool) (j : Nat) : Nat → Bool := fun i => if i = j then true else D i
theorem setD_same (D : Nat → Bool) (j : Nat) : setD D j j = true := if_pos rfl
theorem setD_ne (D : Nat → Bool) {i j : Nat} (h : i ≠ j) : setD D j i = D i := if_neg h

theorem chD_skip {D : Nat → Bool} {j : Nat} : ∀ {l : List Ch}, (∀ e ∈ l, e.w ≠ j) → chD (setD D j) l = chD D l
  | [], _ => rfl
  | e :: l, h => by
    have he := setD_ne D (h e (List.mem_cons_self ..))
    have ih := chD_skip (D := D) (j := j) (l := l) (fun x hx => h x (List.mem_cons_of_mem _ hx))
    unfold chD at *
    rw [List.dropWhile_cons, List.dropWhile_cons, he, ih]

theorem chD_split (D : Nat → Bool) : ∀ l : List Ch, ∃ a, l = a ++ chD D l ∧ ∀ e ∈ a, D e.w = false
  | [] => ⟨[], rfl, fun _ h => by cases h⟩
  | e :: l => by
    obtain ⟨a, h1, h2⟩ := chD_split D l
    cases hd : D e.w with
    | true => exact ⟨[], by simp [chD, hd], fun _ h => by cases h⟩
    | false =>
      refine ⟨e :: a, ?_, ?_⟩
      · have : chD D (e :: l) = chD D l := by simp [chD, hd]
        rw [this, List.cons_append, ← h1]
      · intro x hx
        rcases List.mem_cons.1 hx with rfl | hx
        · exact hd
        · exact h2 x hx

theorem chD_head {D : Nat → Bool} : ∀ {l : List Ch} {e : Ch}, (chD D l).head? = some e → D e.w = true
  | [], e, h => by simp [chD] at h
  | x :: l, e, h => by
    cases hd : D x.w with
    | true =>
      have : chD D (x :: l) = x :: l := by simp [chD, hd]
      rw [this] at h
      simp only [List.head?_cons, Option.some.injEq] at h
      rw [← h]; exact hd
    | false =>
      have : chD D (x :: l) = chD D l := by simp [chD, hd]
      rw [this] at h
      exact chD_head h

theorem chD_append {D : Nat → Bool} : ∀ {a : List Ch} {l : List Ch}, (∀ e ∈ a, D e.w = false) → chD D (a ++ l) = chD D l
  | [], _, _ => rfl
  | e :: a, l, h => by
    have he := h e (List.mem_cons_self ..)
    have ih := chD_append (D := D) (a := a) (l := l) (fun x hx => h x (List.mem_cons_of_mem _ hx))
    rw [List.cons_append]
    have : chD D (e :: (a ++ l)) = chD D (a ++ l) := by simp [chD, he]
    rw [this, ih]

theorem chD_all {D : Nat → Bool} {l : List Ch} (h : ∀ e ∈ l, D e.w = true) : chD D l = l := by
  cases l with
  | nil => rfl
  | cons e l => simp [chD, h e (List.mem_cons_self ..)]

theorem withX_get {a0 : Nat} {S : Mem} {pw g : Nat} : ∀ {l : List Xt}, (∀ x ∈ l, Nat.testBit pw x.i = false → g ≠ a0 + x.i) → (withX a0 S pw l).b.get g = S.b.get g
  | [], _ => rfl
  | x :: l, h => by
    have ih := withX_get (a0 := a0) (S := S) (pw := pw) (g := g) (l := l) (fun y hy => h y (List.mem_cons_of_mem _ hy))
    unfold withX
    cases hb : Nat.testBit pw x.i with
    | true => exact ih
    | false =>
      simp only [cond_false]
      rw [get_put, if_neg (h x (List.mem_cons_self ..) hb)]
      exact ih

theorem withX_next {a0 : Nat} {S : Mem} {pw : Nat} : ∀ {l : List Xt}, (withX a0 S pw l).next = S.next
  | [] => rfl
  | x :: l => by
    have ih := withX_next (a0 := a0) (S := S) (pw := pw) (l := l)
    unfold withX
    cases Nat.testBit pw x.i with
    | true => exact ih
    | false => exact ih

/-- The blocks that join a memory. -/
theorem joinX {ρ₀ ρ : Pl} {base S : Mem} {w₀ w : World} {a0 pw : Nat} : ∀ {l : List Xt}, Rel ρ S w → Ext ρ₀ base w₀ ρ S w →
    (∀ x ∈ l, Nat.testBit pw x.i = false → ∃ q, ρ (a0 + x.i) = some q ∧ HasAt ρ w x.b q ∧ ¬ LiveB ρ S q.b ∧ w₀.heap.size ≤ q.b) →
    (l.Pairwise fun x y => ∀ q q', Nat.testBit pw x.i = false → Nat.testBit pw y.i = false → ρ (a0 + x.i) = some q → ρ (a0 + y.i) = some q' → q.b ≠ q'.b) →
    Rel ρ (withX a0 S pw l) w ∧ Ext ρ₀ base w₀ ρ (withX a0 S pw l) w ∧
      (∀ b, LiveB ρ (withX a0 S pw l) b → LiveB ρ S b ∨ ∃ x ∈ l, Nat.testBit pw x.i = false ∧ ∃ q, ρ (a0 + x.i) = some q ∧ b = q.b)
  | [], hr, he, _, _ => ⟨hr, he, fun b h => .inl h⟩
  | x :: l, hr, he, hx, hp => by
    rw [List.pairwise_cons] at hp
    obtain ⟨h1, h2, h3⟩ := joinX (l := l) hr he (fun y hy => hx y (List.mem_cons_of_mem _ hy)) hp.2
    unfold withX
    cases hb : Nat.testBit pw x.i with
    | true =>
      simp only [cond_true]
      exact ⟨h1, h2, fun b hl => (h3 b hl).imp id (fun ⟨y, hy, r⟩ => ⟨y, List.mem_cons_of_mem _ hy, r⟩)⟩
    | false =>
      simp only [cond_false]
      obtain ⟨q, hq, hh, hl, hs⟩ := hx x (List.mem_cons_self ..) hb
      have hnl : ¬ LiveB ρ (withX a0 S pw l) q.b := fun h => by
        rcases h3 _ h with h | ⟨y, hy, hyb, q', hq', e⟩
        · exact hl h
        · exact hp.1 y hy q q' hb hyb hq hq' e
      refine ⟨h1.join hq hh hnl, h2.join hq hs, fun b hlb => ?_⟩
      rcases hlb.of_join hq with h | h
      · exact (h3 b h).imp id (fun ⟨y, hy, r⟩ => ⟨y, List.mem_cons_of_mem _ hy, r⟩)
      · exact .inr ⟨x, List.mem_cons_self .., hb, q, hq, h⟩

theorem rel_has {ρ : Pl} {m : Mem} {w : World} {g : Nat} {blk : Blk} (h : Rel ρ m w) (hg : m.b.get g = some blk) (hb : noTopB blk = true) : ∃ q, ρ g = some q ∧ HasAt ρ w blk q ∧ Live m g := by
  cases blk with
  | cells cs k sz => obtain ⟨q, h1, h2⟩ := h.cells g cs k sz hg; exact ⟨q, h1, h2, .inl ⟨cs, k, sz, hg⟩⟩
  | map es c => obtain ⟨q, h1, h2⟩ := h.map g es c hg; exact ⟨q, h1, h2, .inr ⟨es, c, hg⟩⟩
  | dead => cases hb

section
variable {P : Program} {call : CallF} {N : Nat} {ops : Array Oper} {base : Mem} {a0 : Nat} {tm0 : PM Value}

theorem read_step {o : Oper} {a : Act} {w : World} {ρ : Pl} {tm : PM Value} {m m' : Mem} {v : Value} (hi : isR P o.op = true) (h : stepOp P call tm m o.op = some (v, m')) (ht : TR ρ tm a) (hr : Rel ρ m w) : ReadOk P o a w ρ m v m' := by
  cases ho : o.op with
  | load t x => rw [ho] at h; exact read_load ho h ht hr
  | convert s d x =>
    rw [ho] at h hi
    unfold isR at hi
    have h' : convOp P m s d (ev tm x) = some (v, m') := h
    unfold convOp at h'
    split at h'
    · rename_i he
      simp only [he] at hi
      cases hi
    · exact read_convert ho h' ht hr
  | _ => rw [ho] at hi; cases hi

variable {pl : Plan P call N ops base a0 tm0} {ρ₀ ρ : Pl} {w₀ w : World} {D : Nat → Bool} {a : Act} {j : Nat} {o : Oper}

theorem val_setD (hg : pl.Good) (ho : ops[j]? = some o) {t : Nat} (ht : o.dst ≠ some t) : val pl (setD D j) t = val pl D t := by
  unfold val
  cases hd : pl.dst t with
  | none => rfl
  | some i =>
    have : i ≠ j := by
      rintro rfl
      obtain ⟨o', h1, h2⟩ := hg.dstI t i hd
      rw [ho] at h1
      cases h1
      exact ht h2
    simp only [setD_ne D this]

theorem tr_put (hg : pl.Good) (ho : ops[j]? = some o) {ρ' : Pl} {v v' : Value} (hd : ∀ d, o.dst = some d → d < N ∧ pl.dst d = some j ∧ pl.tmF d = some v) (hs : a.tmps.size = N)
    (htr : ∀ t, VR ρ' ((val pl D t).getD junk) (a.tmps.getD t undef)) (hv : VR ρ' v v') : ∀ t, VR ρ' ((val pl (setD D j) t).getD junk) ((a.put o.dst v').tmps.getD t undef) := by
  intro t
  cases ho' : o.dst with
  | none =>
    rw [val_setD hg ho (by rw [ho']; simp)]
    exact htr t
  | some d =>
    obtain ⟨hd1, hd2, hd3⟩ := hd d ho'
    show VR ρ' _ ((a.tmps.setIfInBounds d v').getD t undef)
    by_cases e : t = d
    · subst e
      have : (a.tmps.setIfInBounds t v').getD t undef = v' := by simp [Array.getD_eq_getD_getElem?, hs, hd1]
      rw [this]
      have : val pl (setD D j) t = some v := by
        unfold val
        simp only [hd2, setD_same, if_true, hd3]
      rw [this]
      exact hv
    · have : (a.tmps.setIfInBounds d v').getD t undef = a.tmps.getD t undef := by
        simp [Array.getD_eq_getD_getElem?, Array.getElem?_setIfInBounds_ne (Ne.symm e)]
      rw [this, val_setD hg ho (by rw [ho']; simp; exact fun h => e h.symm)]
      exact htr t

theorem put_size {d : Option Tmp} {v : Value} : (a.put d v).tmps.size = a.tmps.size := by cases d <;> simp [Act.put]
theorem put_defers {d : Option Tmp} {v : Value} : (a.put d v).defers = a.defers := by cases d <;> rfl

theorem step_inv (hg : pl.Good) (hcall : CallOk P call)     (hi : Inv pl ρ₀ w₀ D ρ a w) (hclosed : ∀ i, D i = true → ∀ k, Nat.testBit (pl.pre i) k = true → D k = true)
    (ho : ops[j]? = some o) (hnot : D j = false) (hpre : ∀ k, Nat.testBit (pl.pre j) k = true → D k = true)
    (K : Act → World → Prop) (Q : Exit → Act → World → Prop) (hK : ∀ ρ' a' w', Inv pl ρ₀ w₀ (setD D j) ρ' a' w' → K a' w') :
    if Region.wanted o (yielded ops a.tmps) then o.wp P a w K Q else K (a.put o.dst undef) w := by
  obtain ⟨tmr, b, v, htmr, hgd, hdst, heff⟩ := hg.cert j o ho
  have hj : j < ops.size := by
    rcases Nat.lt_or_ge j ops.size with h | h
    · exact h
    · rw [Array.getElem?_eq_none h] at ho; cases ho
  have hTR : TR ρ tmr a := fun t => by
    cases hu : tmr.get t with
    | none => exact .junk _
    | some u =>
      have := hi.tr t
      rcases htmr t u hu with ⟨i, h1, h2, h3⟩ | ⟨h1, h2⟩
      · have e : val pl D t = some u := by
          unfold val
          simp only [h1, hpre i h2, if_true, h3]
        rw [e] at this
        exact this
      · have e : val pl D t = some u := by
          unfold val
          cases hd : pl.dst t with
          | none => exact h1
          | some i =>
            have hDi : D i = false := by
              cases hDi : D i with
              | false => rfl
              | true => rw [hclosed i hDi j (h2 i hd)] at hnot; cases hnot
            simp only [hDi, Bool.false_eq_true, if_false]
            exact h1
        rw [e] at this
        exact this
  rw [guard_wanted hTR hgd]
  have topLe : (topS base (chD D pl.ch)).next ≤ TOP := by
    obtain ⟨a', h1, _⟩ := chD_split D pl.ch
    cases hc : chD D pl.ch with
    | nil => exact hg.low.1
    | cons e c => exact hg.low.2 e (by rw [h1, hc]; simp)
  have freshD : ∀ i, i < ops.size → setD D j i = false → ρ (a0 + i) = none := fun i hil hDi => by
    refine hi.fresh i hil ?_
    by_cases e : i = j
    · subst e; exact hnot
    · rw [setD_ne D e] at hDi; exact hDi
  cases heff with
  | skip hv hc hx =>
    simp only [Bool.false_eq_true, if_false]
    subst hv
    refine hK ρ _ w ⟨tr_put hg ho hdst hi.size hi.tr (skp_VR _), ?_, ?_, by rw [chD_skip hc]; exact hi.nxt, ?_, ?_, ?_, by rw [put_size, hi.size], by rw [put_defers, hi.defers]⟩
    · rw [chD_skip hc]; exact hi.rel
    · rw [chD_skip hc]; exact hi.ext
    · rw [chD_skip hc]
      intro x hx' hD
      rw [setD_ne D (hx x hx')] at hD
      exact hi.has x hx' hD
    · intro x hx' y hy' hne hDx hDy
      rw [setD_ne D (hx x hx')] at hDx
      rw [setD_ne D (hx y hy')] at hDy
      exact hi.sep x hx' y hy' hne hDx hDy
    · intro i hil hDi
      refine hi.fresh i hil ?_
      by_cases e : i = j
      · subst e; exact hnot
      · rw [setD_ne D e] at hDi; exact hDi
  | read hr xj hxj hxp hs hc hx =>
    simp only [if_true]
    obtain ⟨a', h1, h2⟩ := chD_split D pl.ch
    obtain ⟨m', hstep⟩ := hs a' _ h1 (fun e he => by
      cases hb : Nat.testBit (pl.pre j) e.w with
      | false => rfl
      | true => have := h2 e he; rw [hpre _ hb] at this; cases this) (fun e he => by
      cases hb : Nat.testBit e.p j with
      | false => rfl
      | true =>
        have hm : e ∈ pl.ch := by
          rw [h1]
          cases hc' : chD D pl.ch with
          | nil => rw [hc'] at he; cases he
          | cons e' c => rw [hc'] at he; simp only [List.head?_cons, Option.some.injEq] at he; subst he; simp
        rw [hg.chp e hm] at hb
        rw [hclosed e.w (chD_head he) j hb] at hnot
        cases hnot)
    obtain ⟨hM, _, _⟩ := joinX (a0 := a0) (pw := topP (chD D pl.ch)) (l := xj) hi.rel hi.ext
      (fun x hx' hb => hi.has x (hxj x hx').1 (hpre _ (hxj x hx').2) hb)
      (hxp.imp_of_mem (fun {x y} hx' hy' hne q q' _ _ hq hq' => hi.sep x (hxj x hx').1 y (hxj y hy').1 hne (hpre _ (hxj x hx').2) (hpre _ (hxj y hy').2) q q' hq hq'))
    obtain ⟨_, v', hrun, hv⟩ := read_step hr hstep hTR hM
    unfold Oper.wp
    rw [hrun]
    refine hK ρ _ w ⟨tr_put hg ho hdst hi.size hi.tr hv, ?_, ?_, by rw [chD_skip hc]; exact hi.nxt, ?_, ?_, ?_, by rw [put_size, hi.size], by rw [put_defers, hi.defers]⟩
    · rw [chD_skip hc]; exact hi.rel
    · rw [chD_skip hc]; exact hi.ext
    · rw [chD_skip hc]
      intro x hx' hD
      rw [setD_ne D (hx x hx')] at hD
      exact hi.has x hx' hD
    · intro x hx' y hy' hne hDx hDy
      rw [setD_ne D (hx x hx')] at hDx
      rw [setD_ne D (hx y hy')] at hDy
      exact hi.sep x hx' y hy' hne hDx hDy
    · exact freshD
  | pure m' hs hm hc hx =>
    simp only [if_true]
    refine sound_step hcall hs hTR (hi.rel.top topLe) _ _ ?_
    intro ρ' v' w' hr' he' hv'
    have heq : ρ' = ρ := funext fun g => by
      rcases Nat.lt_or_ge g TOP with h | h
      · exact he'.old g h
      · have h1 : ρ g = none := by
          cases e : ρ g with
          | none => rfl
          | some p => have := (hi.rel.place g p e).1; omega
        have h2 : ρ' g = none := by
          cases e : ρ' g with
          | none => rfl
          | some p => have := (hr'.place g p e).1; omega
        rw [h1, h2]
    subst heq
    have hkeep : ∀ b, b < w.heap.size → w'.heap[b]? = w.heap[b]? := fun b hb => he'.keep b hb (fun ho => not_LiveB_top ho.liveB)
    refine hK ρ' _ w' ⟨tr_put hg ho hdst hi.size hi.tr hv', ?_, ?_, by rw [chD_skip hc]; exact hi.nxt, ?_, ?_, ?_, by rw [put_size, hi.size], by rw [put_defers, hi.defers]⟩
    · rw [chD_skip hc]; exact hi.rel.still hkeep he'.size
    · rw [chD_skip hc]; exact hi.ext.trans ⟨Pl.le_refl _, he'.size, fun b hb _ => hkeep b hb, fun _ _ h => h, he'.os, he'.output, Nat.le_refl _, fun _ _ => rfl, fun _ _ h => h⟩
    · rw [chD_skip hc]
      intro x hx' hD hb
      rw [setD_ne D (hx x hx')] at hD
      obtain ⟨q, h1, h2, h3⟩ := hi.has x hx' hD hb
      exact ⟨q, h1, h2.same (hkeep _ (hi.rel.place _ _ h1).2), h3⟩
    · intro x hx' y hy' hne hDx hDy
      rw [setD_ne D (hx x hx')] at hDx
      rw [setD_ne D (hx y hy')] at hDy
      exact hi.sep x hx' y hy' hne hDx hDy
    · exact freshD
  | make m' u blk hs hm hb hn hr hc hx =>
    simp only [if_true]
    refine sound_step hcall hs hTR (hi.rel.top topLe) _ _ ?_
    intro ρ' v' w' hr' he' hv'
    have hkeep : ∀ b, b < w.heap.size → w'.heap[b]? = w.heap[b]? := fun b hb => he'.keep b hb (fun ho => not_LiveB_top ho.liveB)
    obtain ⟨q, hq, hhas, hlive⟩ := rel_has hr' hb hn
    have hqb : w.heap.size ≤ q.b := by
      rcases Nat.lt_or_ge q.b w.heap.size with h | h
      · exact absurd (he'.liv q.b h ⟨TOP, q, hlive, hq, rfl⟩) not_LiveB_top
      · exact h
    have hα := hi.fresh j hj hnot
    have hle := Pl.le_put q hα
    have hlow : ∀ g p, g < TOP → ρ' g = some p → (ρ.put (a0 + j) q) g = some p := fun g p hg' hp => by
      rw [he'.old g hg'] at hp
      exact hle g p hp
    have hrel : Rel (ρ.put (a0 + j) q) (topS base (chD D pl.ch)) w' := (hi.rel.still hkeep he'.size).more hα (by have := hi.nxt; omega) (hr'.place _ _ hq).2
    have back : ∀ g p, Live (topS base (chD D pl.ch)) g → (ρ.put (a0 + j) q) g = some p → ρ g = some p := fun g p hg' hp => by
      by_cases e : g = a0 + j
      · obtain ⟨p', hp'⟩ := hi.rel.pl hg'
        rw [e, hα] at hp'
        cases hp'
      · rw [Pl.put_ne ρ _ e] at hp
        exact hp
    have liveback : ∀ b, LiveB (ρ.put (a0 + j) q) (topS base (chD D pl.ch)) b → LiveB ρ (topS base (chD D pl.ch)) b := fun b ⟨g, p, h1, h2, h3⟩ => ⟨g, p, h1, back g p h1 h2, h3⟩
    have ownback : ∀ b, OwnB (ρ.put (a0 + j) q) (topS base (chD D pl.ch)) b → OwnB ρ (topS base (chD D pl.ch)) b := fun b ⟨g, p, h1, h2, h3⟩ => ⟨g, p, h1, back g p h1.live h2, h3⟩
    refine hK _ _ w' ⟨tr_put hg ho hdst hi.size (fun t => (hi.tr t).mono hle) (ren_VR hv' hr hq (Pl.put_same _ _ _)), ?_, ?_, by rw [chD_skip hc]; exact hi.nxt, ?_, ?_, ?_, by rw [put_size, hi.size], by rw [put_defers, hi.defers]⟩
    · rw [chD_skip hc]; exact hrel
    · rw [chD_skip hc]
      exact ⟨Pl.le_trans hi.ext.le hle, Nat.le_trans hi.ext.size he'.size, fun b hb' hno => by rw [hkeep b (Nat.lt_of_lt_of_le hb' hi.ext.size)]; exact hi.ext.keep b hb' hno,
        fun b hb' ho' => hi.ext.own b hb' (ownback b ho'), he'.os.trans hi.ext.os, he'.output.trans hi.ext.output, hi.ext.next,
        fun g hg' => by rw [Pl.put_ne ρ _ (by have : g < a0 := hg'; omega)]; exact hi.ext.old g hg', fun b hb' ho' => hi.ext.liv b hb' (liveback b ho')⟩
    · rw [chD_skip hc]
      intro x hx' hD hb'
      by_cases e : x.i = j
      · have := hx x hx' e
        subst this
        refine ⟨q, Pl.put_same _ _ _, noTopB_HasAt hhas hn hlow, ?_, Nat.le_trans hi.ext.size hqb⟩
        intro hl
        obtain ⟨g, p, h1, h2, h3⟩ := liveback _ hl
        have := (hi.rel.place g p h2).2
        omega
      · rw [setD_ne D e] at hD
        obtain ⟨q', h1, h2, h3, h4⟩ := hi.has x hx' hD hb'
        exact ⟨q', hle _ _ h1, (h2.same (hkeep _ (hi.rel.place _ _ h1).2)).mono hle, fun hl => h3 (liveback _ hl), h4⟩
    · intro x hx' y hy' hne hDx hDy q₁ q₂ h1 h2
      by_cases ex : x.i = j
      · have hy0 : y.i ≠ j := fun e => hne (ex.trans e.symm)
        rw [setD_ne D hy0] at hDy
        rw [ex, Pl.put_same] at h1
        cases h1
        rw [Pl.put_ne ρ _ (by omega)] at h2
        have := (hi.rel.place _ _ h2).2
        omega
      · rw [setD_ne D ex] at hDx
        rw [Pl.put_ne ρ _ (by omega)] at h1
        by_cases ey : y.i = j
        · rw [ey, Pl.put_same] at h2
          cases h2
          have := (hi.rel.place _ _ h1).2
          omega
        · rw [setD_ne D ey] at hDy
          rw [Pl.put_ne ρ _ (by omega)] at h2
          exact hi.sep x hx' y hy' hne hDx hDy q₁ q₂ h1 h2
    · intro i hil hDi
      have e : i ≠ j := fun e => by rw [e, setD_same] at hDi; cases hDi
      rw [Pl.put_ne ρ _ (by omega)]
      rw [setD_ne D e] at hDi
      exact hi.fresh i hil hDi
  | write xj hxj hxp a₁ c s he hp hs hx =>
    simp only [if_true]
    obtain ⟨hbef, haft⟩ := hg.chn a₁ _ c he
    have hnota : ∀ e ∈ a₁, D e.w = false := fun e hm => by
      cases hd : D e.w with
      | false => rfl
      | true =>
        have hb := hbef e hm
        rw [hg.chp e (by rw [he]; simp [hm])] at hb
        rw [hclosed e.w hd j hb] at hnot
        cases hnot
    have hc0 : chD D pl.ch = c := by
      rw [he, chD_append hnota]
      have : chD D (⟨j, pl.pre j, s⟩ :: c) = chD D c := by simp [chD, hnot]
      rw [this]
      exact chD_all (fun e hm => hpre _ (haft e hm))
    have hna : ∀ e ∈ a₁, e.w ≠ j := fun e hm h => by
      have hb := hbef e hm
      rw [hg.chp e (by rw [he]; simp [hm])] at hb
      simp only [h] at hb
      rw [hpre j hb] at hnot
      cases hnot
    have hc1 : chD (setD D j) pl.ch = ⟨j, pl.pre j, s⟩ :: c := by
      rw [he, chD_append (fun e hm => by rw [setD_ne D (hna e hm)]; exact hnota e hm)]
      simp [chD, setD_same]
    obtain ⟨hrel, hext, hnxt, hhas⟩ : Rel ρ (topS base c) w ∧ Ext ρ₀ ⟨base.b, a0⟩ w₀ ρ (topS base c) w ∧ a0 + ops.size ≤ (topS base c).next ∧
        (∀ x ∈ pl.xs, D x.i = true → Nat.testBit (topP c) x.i = false → ∃ q, ρ (a0 + x.i) = some q ∧ HasAt ρ w x.b q ∧ ¬ LiveB ρ (topS base c) q.b ∧ w₀.heap.size ≤ q.b) := by
      have h1 := hi.rel
      have h2 := hi.ext
      have h3 := hi.nxt
      have h4 := hi.has
      rw [hc0] at h1 h2 h3 h4
      exact ⟨h1, h2, h3, h4⟩
    obtain ⟨hM, hMe, hMl⟩ := joinX (a0 := a0) (pw := topP c) (l := xj) hrel hext
      (fun x hx' hb => hhas x (hxj x hx').1 (hpre _ (hxj x hx').2) hb)
      (hxp.imp_of_mem (fun {x y} hx' hy' hne q q' _ _ hq hq' => hi.sep x (hxj x hx').1 y (hxj y hy').1 hne (hpre _ (hxj x hx').2) (hpre _ (hxj y hy').2) q q' hq hq'))
    refine sound_step hcall hs hTR hM _ _ ?_
    intro ρ' v' w' hr' he' hv'
    have hMn : (withX a0 (topS base c) (topP c) xj).next = (topS base c).next := withX_next
    refine hK ρ' _ w' ⟨tr_put hg ho hdst hi.size (fun t => (hi.tr t).mono he'.le) hv', ?_, ?_, ?_, ?_, ?_, ?_, by rw [put_size, hi.size], by rw [put_defers, hi.defers]⟩
    · rw [hc1]; exact hr'
    · rw [hc1]; exact hMe.trans he'
    · rw [hc1]
      have := he'.next
      rw [hMn] at this
      exact Nat.le_trans hnxt this
    · rw [hc1]
      intro x hx' hD hb
      have hb' : Nat.testBit (pl.pre j) x.i = false := hb
      rw [setD_ne D (hx x hx')] at hD
      have hb0 : Nat.testBit (topP c) x.i = false := by
        cases h : Nat.testBit (topP c) x.i with
        | false => rfl
        | true => rw [hp _ h] at hb'; cases hb'
      obtain ⟨q, h1, h2, h3, h4⟩ := hhas x hx' hD hb0
      have hnl : ¬ LiveB ρ (withX a0 (topS base c) (topP c) xj) q.b := fun h => by
        rcases hMl _ h with h | ⟨y, hy, hyb, q', hq', e⟩
        · exact h3 h
        · have hyp := (hxj y hy).2
          have hne : x.i ≠ y.i := fun e => by rw [e, hyp] at hb'; cases hb'
          exact hi.sep x hx' y (hxj y hy).1 hne hD (hpre _ hyp) q q' h1 hq' e
      have hqs := (hrel.place _ _ h1).2
      exact ⟨q, he'.le _ _ h1, (h2.same (he'.keep _ hqs (fun h => hnl h.liveB))).mono he'.le, fun h => hnl (he'.liv _ hqs h), h4⟩
    · intro x hx' y hy' hne hDx hDy q₁ q₂ h1 h2
      rw [setD_ne D (hx x hx')] at hDx
      rw [setD_ne D (hx y hy')] at hDy
      have hxs : x.i < ops.size := hg.xsb x hx'
      have hys : y.i < ops.size := hg.xsb y hy'
      rw [he'.old _ (by rw [hMn]; omega)] at h1 h2
      exact hi.sep x hx' y hy' hne hDx hDy q₁ q₂ h1 h2
    · intro i hil hDi
      rw [he'.old _ (by rw [hMn]; omega)]
      exact freshD i hil hDi

end
end Go.Abs
