/- The builtins: lengths, appends, copies, least and greatest numbers: what the interpreter makes of them is what the model's run does. Conditions: none. -/
import Derived.Test.YtleddgfdjaaelaaGreatAbsOps4
namespace Go.Abs
section
variable {P : Program} {o : Oper} {a : Act} {w : World} {ρ : Pl} {tm : PM Value} {m m' : Mem} {v : Value}

/-- What a run of a step's Sem says: value, worlds, memories. -/
def RunOk (P : Program) (s : Sem Value) (w : World) (ρ : Pl) (m : Mem) (v : Value) (m' : Mem) : Prop :=
  ∃ ρ' v' w', s.run P w = .ok v' w' ∧ Rel ρ' m' w' ∧ Ext ρ m w ρ' m' w' ∧ VR ρ' v v'

theorem grow_of : ∀ {k : Kind}, isGrow k = true → isRo k = false → k = .grow := by
  intro k h1 h2
  cases k <;> first | rfl | (cases h1; done) | (cases h2; done)

theorem RunOk.pure {s : Sem Value} {v' : Value} (h : s.run P w = .ok v' w) (hr : Rel ρ m w) (hv : VR ρ v v') : RunOk P s w ρ m v m := ⟨ρ, v', w, h, hr, .refl _ _ _, hv⟩

theorem app_fit_slice {t xt ty e e2 : TypeId} {sz len cap n c : Nat} {base b : Option Addr} {news : List Value} {w' : World} (ht : P.underlying t = some (.slice e)) (hxt : P.underlying xt = some (.slice e2)) (hs : szOf P e = some sz)
    (hf : (Builtin.firstCells sz n (.slice b n c)).run P w = .ok ⟨news⟩ w) (hfit : len + n ≤ cap) (hst : ∀ x, base = some x → (storeCells (x.add (len * sz)) news).run P w = .ok () w') (hn : base = none → w' = w) :
    (Builtin.append_ #[t, xt] ty #[.slice base len cap, .slice b n c]).run P w = .ok (.slice base (len + n) cap) w' := by
  cases base with
  | none =>
    obtain rfl := hn rfl
    simp [Builtin.append_, Sem.run_bind, run_under ht, run_under hxt, run_size hs, Builtin.lenOf, hfit, hf]
  | some x =>
    have := hst x rfl
    simp [Builtin.append_, Sem.run_bind, run_under ht, run_under hxt, run_size hs, Builtin.lenOf, hfit, hf, this]

theorem app_grow_slice {t xt ty e e2 : TypeId} {i : TypeInfo} {z : Value} {len cap n c : Nat} {base b : Option Addr} {olds news : List Value} (ht : P.underlying t = some (.slice e)) (hxt : P.underlying xt = some (.slice e2))
    (hi : P.info? e = some i) (hz : i.zero = some z)
    (hf : (Builtin.firstCells i.size n (.slice b n c)).run P w.drew = .ok ⟨news⟩ w.drew) (ho : (Builtin.firstCells i.size len (.slice base len cap)).run P w.drew = .ok ⟨olds⟩ w.drew) (hg : cap < len + n)
    (h63 : ((len + n : Nat) : Int) ≤ 9223372036854775807) (hfit : Builtin.nextslicecap (len + n) cap * i.bytes ≤ 281474976710656) :
    (Builtin.append_ #[t, xt] ty #[.slice base len cap, .slice b n c]).run P w =
      .ok (.slice (some ⟨w.heap.size, 0, none⟩) (len + n) (grownCap w (len + n) cap e)) (w.drew.alloc (.cells (⟨olds ++ news ++ (Builtin.zeroCells z.cells (grownCap w (len + n) cap e - (len + n))).toList⟩) e)) := by
  have hn : ¬ (len + n ≤ cap) := by omega
  have h63' : ¬ (9223372036854775807 < ((len : Int) + (n : Int))) := by omega
  have h48' : ¬ (281474976710656 < Builtin.nextslicecap (len + n) cap * i.bytes) := by omega
  simp [Builtin.append_, run_under ht, run_under hxt, sizeOf, typeInfo, zeroValue, hi, hz, Builtin.lenOf, hn, h63', h48', Question.forced, hf, ho, newRow, grownCap]
  congr 2
  apply Array.ext'
  simp

theorem zeros_run {zz : Value} {z : List Value} (n : Nat) (hzz : zz.cells = ⟨z⟩) : Builtin.zeroCells zz.cells n = ⟨rep n z⟩ := by
  unfold Builtin.zeroCells
  rw [hzz]
  exact rep_array z n _ (by simp)

theorem app_fit_zeros {t xt ty e : TypeId} {k : IntKind} {i : TypeInfo} {zz : Value} {z : List Value} {len cap : Nat} {n : Int} {base : Option Addr} {w' : World} (ht : P.underlying t = some (.slice e)) (hxt : P.underlying xt = some (.int k))
    (hi : P.info? e = some i) (hzz : i.zero = some zz) (hz : zz.cells = ⟨z⟩) (hzl : z.length = i.size) (h0 : 0 ≤ n) (h1 : n ≤ 140737488355328) (h2 : n.toNat * i.bytes ≤ 140737488355328)
    (hfit : len + n.toNat ≤ cap) (hst : ∀ x, base = some x → (storeCells (x.add (len * i.size)) (rep n.toNat z)).run P w = .ok () w') (hn : base = none → w' = w) :
    (Builtin.append_ #[t, xt] ty #[.slice base len cap, .int .i64 n]).run P w = .ok (.slice base (len + n.toNat) cap) w' := by
  have hw := wrap64_small h0 h1
  have t1 : ¬ (n < 0) := by omega
  have t2 : ¬ (281474976710656 < n * (i.bytes : Int)) := by
    have h3 : ((n.toNat * i.bytes : Nat) : Int) ≤ ((140737488355328 : Nat) : Int) := Int.ofNat_le.2 h2
    rw [Int.natCast_mul, Int.toNat_of_nonneg h0] at h3
    omega
  have hzr := zeros_run n.toNat hz
  by_cases hs0 : n.toNat * i.size = 0
  · have hnil : rep n.toNat z = [] := List.eq_nil_of_length_eq_zero (by rw [rep_length, hzl, hs0])
    cases base with
    | none =>
      obtain rfl := hn rfl
      simp [Builtin.append_, Sem.run_bind, run_under ht, run_under hxt, sizeOf, typeInfo, hi, asInt, asIntOf, hw, t1, t2, hfit, hs0]
    | some x =>
      have := hst x rfl
      rw [hnil] at this
      simp [Builtin.append_, Sem.run_bind, run_under ht, run_under hxt, sizeOf, typeInfo, hi, asInt, asIntOf, hw, t1, t2, hfit, hs0, this]
  · cases base with
    | none =>
      obtain rfl := hn rfl
      simp [Builtin.append_, Sem.run_bind, run_under ht, run_under hxt, sizeOf, typeInfo, hi, asInt, asIntOf, hw, t1, t2, hfit, zeroValue, hzz]
    | some x =>
      have := hst x rfl
      simp [Builtin.append_, Sem.run_bind, run_under ht, run_under hxt, sizeOf, typeInfo, hi, asInt, asIntOf, hw, t1, t2, hfit, hs0, zeroValue, hzz, hzr, this]

theorem app_grow_zeros {t xt ty e : TypeId} {k : IntKind} {i : TypeInfo} {zz : Value} {z : List Value} {len cap : Nat} {n : Int} {base : Option Addr} {olds : List Value} (ht : P.underlying t = some (.slice e)) (hxt : P.underlying xt = some (.int k))
    (hi : P.info? e = some i) (hzz : i.zero = some zz) (hz : zz.cells = ⟨z⟩) (hzl : z.length = i.size) (h0 : 0 ≤ n) (h1 : n ≤ 140737488355328) (h2 : n.toNat * i.bytes ≤ 140737488355328)
    (ho : (Builtin.firstCells i.size len (.slice base len cap)).run P w.drew = .ok ⟨olds⟩ w.drew) (hg : cap < len + n.toNat)
    (h63 : ((len + n.toNat : Nat) : Int) ≤ 9223372036854775807) (hfit : Builtin.nextslicecap (len + n.toNat) cap * i.bytes ≤ 281474976710656) :
    (Builtin.append_ #[t, xt] ty #[.slice base len cap, .int .i64 n]).run P w =
      .ok (.slice (some ⟨w.heap.size, 0, none⟩) (len + n.toNat) (grownCap w (len + n.toNat) cap e)) (w.drew.alloc (.cells (⟨olds ++ rep n.toNat z ++ (Builtin.zeroCells zz.cells (grownCap w (len + n.toNat) cap e - (len + n.toNat))).toList⟩) e)) := by
  have hw := wrap64_small h0 h1
  have t1 : ¬ (n < 0) := by omega
  have t2 : ¬ (281474976710656 < n * (i.bytes : Int)) := by
    have h3 : ((n.toNat * i.bytes : Nat) : Int) ≤ ((140737488355328 : Nat) : Int) := Int.ofNat_le.2 h2
    rw [Int.natCast_mul, Int.toNat_of_nonneg h0] at h3
    omega
  have hn : ¬ (len + n.toNat ≤ cap) := by omega
  have h63'' : ¬ (9223372036854775807 < ((len : Int) + max n 0)) := by omega
  have h48' : ¬ (281474976710656 < Builtin.nextslicecap (len + n.toNat) cap * i.bytes) := by omega
  have hzr := zeros_run n.toNat hz
  by_cases hs0 : n.toNat * i.size = 0
  · have hnil : rep n.toNat z = [] := List.eq_nil_of_length_eq_zero (by rw [rep_length, hzl, hs0])
    simp [Builtin.append_, run_under ht, run_under hxt, sizeOf, typeInfo, zeroValue, hi, hzz, asInt, asIntOf, hw, t1, t2, hn, h63'', h48', hs0, Question.forced, ho, newRow, grownCap, hnil]
    congr 2
    apply Array.ext'
    simp
  · simp [Builtin.append_, run_under ht, run_under hxt, sizeOf, typeInfo, zeroValue, hi, hzz, asInt, asIntOf, hw, t1, t2, hn, h63'', h48', hs0, Question.forced, ho, newRow, grownCap, hzr]
    congr 2
    apply Array.ext'
    simp

/-- What an append of certain cells does, by cases. -/
structure AppRun (P : Program) (w : World) (e : TypeId) (sz n : Nat) (news : List Value) (run : Option Addr → Nat → Nat → Result Value) : Prop where
  fit : ∀ (base : Option Addr) (len cap : Nat) (w' : World), len + n ≤ cap → (∀ x, base = some x → (storeCells (x.add (len * sz)) news).run P w = .ok () w') → (base = none → w' = w) → run base len cap = .ok (.slice base (len + n) cap) w'
  grow : ∀ (base : Option Addr) (len cap : Nat) (olds : List Value), (Builtin.firstCells sz len (.slice base len cap)).run P w.drew = .ok ⟨olds⟩ w.drew → cap < len + n → (len + n) * bytesOf P e ≤ 140737488355328 → len + n ≤ 140737488355328 →
    ∃ (C : Nat) (extra : List Value), len + n ≤ C ∧ extra.length = (C - (len + n)) * sz ∧ run base len cap = .ok (.slice (some ⟨w.heap.size, 0, none⟩) (len + n) C) (w.drew.alloc (.cells ⟨olds ++ news ++ extra⟩ e))

theorem zeroCells_length {zz : Value} {z : List Value} (hz : zz.cells = ⟨z⟩) (k : Nat) : (Builtin.zeroCells zz.cells k).toList.length = k * z.length := by
  rw [zeros_run k hz]; exact rep_length z k

theorem appRun_slice {t xt ty e e2 : TypeId} {sz n c : Nat} {b : Option Addr} {z news : List Value} (ht : P.underlying t = some (.slice e)) (hxt : P.underlying xt = some (.slice e2)) (hs : szOf P e = some sz) (hz : zeroCs P e = some z)
    (hf : (Builtin.firstCells sz n (.slice b n c)).run P w = .ok ⟨news⟩ w) (hf' : (Builtin.firstCells sz n (.slice b n c)).run P w.drew = .ok ⟨news⟩ w.drew) :
    AppRun P w e sz n news (fun base len cap => (Builtin.append_ #[t, xt] ty #[.slice base len cap, .slice b n c]).run P w) := by
  obtain ⟨i, zz, hi, hzz, hzc, hpl, hlen⟩ := zeroCs_spec hz
  have hsi : i.size = sz := by unfold szOf at hs; rw [hi] at hs; simpa using hs
  refine ⟨fun base len cap w' hfit hst hn => app_fit_slice ht hxt hs hf hfit hst hn, fun base len cap olds ho hg hb h47 => ?_⟩
  rw [bytes_spec hi] at hb
  have hgrow := app_grow_slice (ty := ty) (base := base) (len := len) (cap := cap) ht hxt hi hzz (by rw [hsi]; exact hf') (by rw [hsi]; exact ho) hg (by omega) (growslice_fits hg hb)
  refine ⟨_, _, ?_, ?_, hgrow⟩
  · exact grownCap_ge w (len + n) cap e
  · rw [zeroCells_length hzc, hlen, hsi]

theorem appRun_zeros {t xt ty e : TypeId} {k : IntKind} {sz : Nat} {n : Int} {z : List Value} (ht : P.underlying t = some (.slice e)) (hxt : P.underlying xt = some (.int k)) (hs : szOf P e = some sz) (hz : zeroCs P e = some z)
    (h0 : 0 ≤ n) (h1 : n ≤ 140737488355328) (h2 : n.toNat * bytesOf P e ≤ 140737488355328) :
    AppRun P w e sz n.toNat (rep n.toNat z) (fun base len cap => (Builtin.append_ #[t, xt] ty #[.slice base len cap, .int .i64 n]).run P w) := by
  obtain ⟨i, zz, hi, hzz, hzc, hpl, hlen⟩ := zeroCs_spec hz
  have hsi : i.size = sz := by unfold szOf at hs; rw [hi] at hs; simpa using hs
  rw [bytes_spec hi] at h2
  subst hsi
  refine ⟨fun base len cap w' hfit hst hn => app_fit_zeros ht hxt hi hzz hzc hlen h0 h1 h2 hfit hst hn, fun base len cap olds ho hg hb h47 => ?_⟩
  rw [bytes_spec hi] at hb
  have hgrow := app_grow_zeros (ty := ty) (base := base) (len := len) (cap := cap) ht hxt hi hzz hzc hlen h0 h1 h2 ho hg (by omega) (growslice_fits hg hb)
  refine ⟨_, _, ?_, ?_, hgrow⟩
  · exact grownCap_ge w (len + n.toNat) cap e
  · rw [zeroCells_length hzc, hlen]

theorem firstCells_of {sz n : Nat} {y : Addr} {c : Nat} {cs : List Value} (hl : cs.length = n * sz) (h : ∀ j u, cs[j]? = some u → w.cell? (y.add j) = some u) : (Builtin.firstCells sz n (.slice (some y) n c)).run P w = .ok ⟨cs⟩ w :=
  run_firstCells_some w sz n y n c cs hl h

theorem RunOk_appendTo {e : TypeId} {sz len cap n : Nat} {x : Option Addr} {s' : Value} {news news' : List Value} {run : Option Addr → Nat → Nat → Result Value} (hA : AppRun P w e sz n news' run) (hn : SRs ρ news news')
    (hr : Rel ρ m w) (hs : VR ρ (.slice x len cap) s') (h : appendTo m sz (bytesOf P e) x len cap n news = some (v, m')) :
    ∃ base len' cap', s' = .slice base len' cap' ∧ ∃ ρ' v' w', run base len' cap' = .ok v' w' ∧ Rel ρ' m' w' ∧ Ext ρ m w ρ' m' w' ∧ VR ρ' v v' := by
  unfold appendTo at h
  cases hb : (Nat.ble (Nat.add len n * bytesOf P e) 140737488355328 && Nat.ble (Nat.add len n) 140737488355328 && Nat.beq news.length (n * sz) && Nat.blt 0 sz) with
  | false => rw [hb] at h; cases h
  | true =>
    rw [hb] at h
    simp only [Bool.and_eq_true] at hb
    obtain ⟨⟨⟨hb1, hb2⟩, hb3⟩, hb4⟩ := hb
    have hb1 : (len + n) * bytesOf P e ≤ 140737488355328 := Nat.le_of_ble_eq_true hb1
    have hb2 : len + n ≤ 140737488355328 := Nat.le_of_ble_eq_true hb2
    have hb3 : news.length = n * sz := Nat.eq_of_beq_eq_true hb3
    have hb4 : 0 < sz := Nat.le_of_ble_eq_true hb4
    have hnl := hn.length
    simp only [cond_true] at h
    split at h
    case h_3 => cases h
    case h_1 =>
      obtain ⟨he, h0, hc0⟩ := VR.nilslice_inv hs
      subst h0; subst hc0
      refine ⟨none, 0, 0, he, ?_⟩
      cases hz : Nat.beq n 0 with
      | true =>
        rw [hz] at h
        have hn0 : n = 0 := Nat.eq_of_beq_eq_true hz
        subst hn0
        obtain ⟨rfl, rfl⟩ := mk_inj h
        exact ⟨ρ, _, w, hA.fit none 0 0 w (by omega) (by simp) (fun _ => rfl), hr, .refl _ _ _, .vb (.sc .nilslice)⟩
      | false =>
        rw [hz] at h
        have hn0 : n ≠ 0 := fun e => by subst e; cases hz
        obtain ⟨rfl, rfl⟩ := mk_inj h
        obtain ⟨C, extra, h1, h2, h3⟩ := hA.grow none 0 0 [] (run_firstCells_none w.drew sz 0 0 0) (by omega) hb1 hb2
        obtain ⟨hr', hext⟩ := hr.drew.push news news' extra .grow sz (C - n) e hn (by rw [h2]; congr 1; omega) (fun h => by cases h)
        rw [List.nil_append, Nat.zero_add] at h3
        exact ⟨_, _, _, h3, hr', (Ext.drew _ _ _).trans hext, .vb (.sc (.slice (p := ⟨w.drew.heap.size, 0, news.length, sz, C - n⟩) (Pl.put_same _ _ _) (.inr ⟨by simp only; omega, by simp only; omega⟩)))⟩
    case h_2 g off =>
      split at h
      case h_2 => cases h
      rename_i cs k bsz hg
      cases hbs : (Nat.beq bsz sz || !isGrow k) with
      | false => rw [hbs] at h; cases h
      | true =>
        rw [hbs] at h
        simp only [cond_true] at h
        obtain ⟨q, hq, hcq⟩ := hr.cells g cs k bsz hg
        cases hfit : Nat.ble (Nat.add len n) cap with
        | true =>
          rw [hfit] at h
          have hfit : len + n ≤ cap := Nat.le_of_ble_eq_true hfit
          simp only [cond_true] at h
          split at h
          case h_2 => cases h
          rename_i m₁ hw
          obtain ⟨rfl, rfl⟩ := mk_inj h
          obtain ⟨p, hp, hr', hext, hthere, hthaw⟩ := hr.wr hw hn
          rcases VR.slice_inv hs with ⟨p', c', hp', _, he, hc⟩ | ⟨h0, hc0, y, he⟩
          · simp only at hp' he hc
            rw [hp] at hp'
            cases hp'
            refine ⟨_, _, _, he, ρ, _, _, hA.fit _ _ _ (w.setCells p.b (p.d + (off + len * sz)) news') (by omega) (fun x hx => ?_) (by simp), hr', hext, .vb (.sc (.slice hp hc))⟩
            cases hx
            rw [addr_add]
            have := run_storeCells_cells (P := P) p.b (p.d + off + len * sz) news' 0 w (fun j hj => by rw [Nat.add_zero, Nat.add_assoc p.d off]; exact hthere j hj) (fun j hj => by rw [Nat.add_zero, Nat.add_assoc p.d off]; exact hthaw j hj) hn.one
            rw [Nat.add_zero, Nat.add_assoc p.d off] at this
            rw [Nat.add_assoc p.d off]
            exact this
          · subst h0; subst hc0
            have hn0 : n = 0 := by omega
            subst hn0
            have hnil : news = [] := List.eq_nil_of_length_eq_zero (by omega)
            subst hnil
            cases hn
            exact ⟨_, _, _, he, ρ, _, _, hA.fit (some y) 0 0 w (by omega) (fun _ _ => rfl) (by simp), by simpa [World.setCells] using hr', by simpa [World.setCells] using hext, .vb (.sc .slice0)⟩
        | false =>
          rw [hfit] at h
          have hgt : cap < len + n := by
            rcases Nat.lt_or_ge cap (len + n) with h' | h'
            · exact h'
            · have := Nat.ble_eq_true_of_le h'
              rw [show (Nat.add len n) = len + n from rfl, this] at hfit
              cases hfit
          simp only [cond_false] at h
          split at h
          case h_2 => cases h
          rename_i olds hol
          cases hro : isRo k with
          | true => rw [hro] at h; cases h
          | false =>
          rw [hro] at h
          obtain ⟨rfl, rfl⟩ := mk_inj h
          obtain ⟨olds', hos, holen, hocell⟩ := hcq.read hol
          have hol1 := hos.length
          have hlive : Live m g := .inl ⟨_, _, _, hg⟩
          have hkill : Rel ρ (cond (isGrow k) (m.put g .dead) m) w ∧ Ext ρ m w ρ (cond (isGrow k) (m.put g .dead) m) w := by
            cases isGrow k
            · exact ⟨hr, .refl _ _ _⟩
            · exact hr.kill g hlive
          have hnext : (cond (isGrow k) (m.put g .dead) m).next = m.next := by cases isGrow k <;> rfl
          -- a new row
          have fresh : ∀ (base : Option Addr) (c' : Nat), (Builtin.firstCells sz len (.slice base len c')).run P w.drew = .ok ⟨olds'⟩ w.drew → c' < len + n →
              ∃ ρ' v' w', run base len c' = .ok v' w' ∧ Rel ρ' (Mem.push (cond (isGrow k) (m.put g .dead) m) (.cells (olds ++ news) .grow sz)) w' ∧ Ext ρ m w ρ' (Mem.push (cond (isGrow k) (m.put g .dead) m) (.cells (olds ++ news) .grow sz)) w' ∧
                VR ρ' (.slice (some ⟨m.next, 0, none⟩) (len + n) (len + n)) v' := by
            intro base c' hfc hlt
            obtain ⟨C, extra, h1, h2, h3⟩ := hA.grow base len c' olds' hfc hlt hb1 hb2
            obtain ⟨hr', hext⟩ := hkill.1.drew.push (olds ++ news) (olds' ++ news') extra .grow sz (C - (len + n)) e (hos.append hn) h2 (fun h => by cases h)
            refine ⟨_, _, _, h3, hr', hkill.2.trans ((Ext.drew _ _ _).trans hext), ?_⟩
            have hput : ((ρ.put (cond (isGrow k) (m.put g .dead) m).next ⟨w.drew.heap.size, 0, (olds ++ news).length, sz, C - (len + n)⟩) m.next) = some ⟨w.drew.heap.size, 0, (olds ++ news).length, sz, C - (len + n)⟩ := by
              rw [hnext]; exact Pl.put_same _ _ _
            refine .vb (.sc (.slice hput (.inr ⟨?_, ?_⟩)))
            · simp only [List.length_append]
              rw [Nat.add_mul]
              omega
            · simp only; omega
          rcases VR.slice_inv hs with ⟨p, c', hp, _, he, hc⟩ | ⟨h0, hc0, y, he⟩
          · simp only at hp he hc
            rw [hq] at hp
            cases hp
            have hfc : (Builtin.firstCells sz len (.slice (some ⟨q.b, q.d + off, none⟩) len c')).run P w.drew = .ok ⟨olds'⟩ w.drew :=
              firstCells_of holen (fun j u hj => by rw [addr_add]; exact hocell j u hj)
            by_cases hlt : c' < len + n
            · exact ⟨_, _, _, he, fresh _ _ hfc hlt⟩
            · -- there was room
              rcases hc with rfl | ⟨hc1, hc2⟩
              · omega
              · have hgrow : isGrow k = true := by
                  cases hk : isGrow k with
                  | true => rfl
                  | false => have := hcq.spare hk; omega
                have hbz : bsz = sz := by
                  rw [hgrow] at hbs
                  exact Nat.eq_of_beq_eq_true (by simpa using hbs)
                subst hbz
                have hkk : k = .grow := grow_of hgrow hro
                subst hkk
                rw [hcq.sz] at hc1
                obtain ⟨hr', hext, hthere, hthaw⟩ := hr.regrow hg hq hol hn hb3 hc1 hc2 (by omega : len + n ≤ c')
                refine ⟨_, _, _, he, _, _, _, hA.fit _ _ _ (w.setCells q.b (q.d + off + len * bsz) news') (by omega) (fun x hx => ?_) (by simp), hr', hext, ?_⟩
                · cases hx
                  rw [addr_add]
                  have := run_storeCells_cells (P := P) q.b (q.d + off + len * bsz) news' 0 w (fun j hj => by simpa using hthere j hj) (fun j hj => by simpa using hthaw j hj) hn.one
                  simpa using this
                · refine .vb (.sc (.slice (p := ⟨q.b, q.d + off, (olds ++ news).length, bsz, c' - (len + n)⟩) (Pl.put_same _ _ _) (.inr ⟨?_, ?_⟩)))
                  · show 0 + (len + n) * bsz = (olds ++ news).length
                    rw [List.length_append, Nat.add_mul]
                    omega
                  · show c' = len + n + (c' - (len + n))
                    omega
          · subst h0; subst hc0
            have : olds' = [] := List.eq_nil_of_length_eq_zero (by omega)
            subst this
            exact ⟨_, _, _, he, fresh (some y) 0 (firstCells_of (by simp) (fun j u hj => by simp at hj)) (by omega)⟩

end
end Go.Abs
