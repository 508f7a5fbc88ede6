/- Operations that lay parts together, make rows, and cut them: what the interpreter makes of them is what the model's run does. Conditions: none. -/
import Derived.Test.YtleddgfdjaaelaaGreatAbsOps2
namespace Go.Abs

theorem rep_length (z : List Value) : ∀ n, (rep n z).length = n * z.length
  | 0 => by simp [rep]
  | n + 1 => by simp [rep, rep_length z n, Nat.add_mul, Nat.add_comm]

theorem rep_get (z : List Value) : ∀ (n i : Nat), i < n * z.length → (rep n z)[i]? = z[i % z.length]?
  | 0, i, h => by simp at h
  | n + 1, i, h => by
    rw [rep]
    by_cases hi : i < z.length
    · rw [List.getElem?_append_left hi, Nat.mod_eq_of_lt hi]
    · have hge : z.length ≤ i := Nat.le_of_not_lt hi
      rw [List.getElem?_append_right hge, rep_get z n _ (by rw [Nat.add_mul] at h; omega), Nat.mod_eq_sub_mod hge]

theorem rep_array (z : List Value) (n k : Nat) (hk : k = n * z.length) : ((Array.range k).map fun i => (⟨z⟩ : Array Value)[i % (⟨z⟩ : Array Value).size]!) = ⟨rep n z⟩ := by
  subst hk
  apply Array.ext'
  apply List.ext_getElem?
  intro i
  simp only [Array.toList_map, Array.toList_range, List.getElem?_map, List.size_toArray]
  by_cases hi : i < n * z.length
  · rw [rep_get z n i hi]
    have hz : 0 < z.length := by
      rcases Nat.eq_zero_or_pos z.length with h | h
      · rw [h] at hi; omega
      · exact h
    have hm := Nat.mod_lt i hz
    rw [List.getElem?_range hi]
    simp [hm]
  · have h1 : (rep n z).length ≤ i := by rw [rep_length]; omega
    rw [List.getElem?_eq_none h1, List.getElem?_eq_none (by simp; omega)]
    rfl

theorem rep_plain {ρ : Pl} {z : List Value} (h : allPlain z = true) : ∀ n, SRs ρ (rep n z) (rep n z)
  | 0 => .nil
  | n + 1 => (allPlain_SR ρ h).append (rep_plain h n)

theorem foldl_splice : ∀ (vs : List Value) (off k : Nat) (cs : Array Value), off + k + vs.length ≤ cs.size →
    ((vs.zipIdx k).foldl (fun (cs : Array Value) (x : Value × Nat) => cs.setIfInBounds (off + x.2) x.1) cs) = ⟨splice (off + k) cs.toList vs⟩
  | [], off, k, cs, h => by
    have : splice (off + k) cs.toList [] = cs.toList := by
      apply List.ext_getElem?
      intro i
      rw [splice_get _ _ _ _ (by simpa using h)]
      rw [if_neg (by simp only [List.length_nil]; omega)]
    simp [this]
  | v :: r, off, k, cs, h => by
    simp only [List.zipIdx_cons, List.foldl_cons]
    rw [foldl_splice r off (k + 1) _ (by simp at *; omega)]
    congr 1
    apply List.ext_getElem?
    intro i
    rw [splice_get _ _ _ _ (by simp at *; omega), splice_get _ _ _ _ (by simp at *; omega)]
    simp only [List.length_cons, Array.toList_setIfInBounds]
    by_cases h1 : off + k ≤ i ∧ i < off + k + (r.length + 1)
    · rw [if_pos h1]
      by_cases h2 : i = off + k
      · subst h2
        rw [if_neg (by omega)]
        simp only [List.length_cons] at h
        simp [show off + k < cs.size by omega]
      · rw [if_pos (by omega)]
        obtain ⟨j, rfl⟩ : ∃ j, i = off + k + (j + 1) := ⟨i - (off + k) - 1, by omega⟩
        rw [show off + k + (j + 1) - (off + (k + 1)) = j by omega, show off + k + (j + 1) - (off + k) = j + 1 by omega]
        simp
    · rw [if_neg h1, if_neg (by omega), List.getElem?_set_ne (by omega)]

/-- Parts, and what stands for them. -/
inductive PR (ρ : Pl) : List (Nat × Value) → List (Nat × Value) → Prop where
  | nil : PR ρ [] []
  | cons {i : Nat} {v v' : Value} {r r' : List (Nat × Value)} (h : VR ρ v v') (t : PR ρ r r') : PR ρ ((i, v) :: r) ((i, v') :: r')

theorem fill_run {ρ : Pl} {place place' : Nat → Option (Nat × Nat)} (hp : ∀ i x, place i = some x → place' i = some x) : ∀ {ps ps' : List (Nat × Value)} {cs cs' r : List Value}, PR ρ ps ps' → SRs ρ cs cs' → fillIn place cs ps = some r →
    ∃ r', Instr.fill place' ⟨cs'⟩ ps' = some ⟨r'⟩ ∧ SRs ρ r r' := by
  intro ps
  induction ps with
  | nil =>
    intro ps' cs cs' r hpr hs h
    cases hpr
    simp only [fillIn, Option.some.injEq] at h
    subst h
    exact ⟨cs', rfl, hs⟩
  | cons p ps ih =>
    intro ps' cs cs' r hpr hs h
    cases hpr with
    | cons hv ht =>
      rename_i i v v' r'
      unfold fillIn at h
      split at h
      case h_2 => cases h
      rename_i off size vs hpl hcs
      cases hb : Nat.beq vs.length size && Nat.ble (Nat.add off size) cs.length with
      | false => rw [hb] at h; cases h
      | true =>
        rw [hb] at h
        simp only [Bool.and_eq_true] at hb
        have h1 : vs.length = size := Nat.eq_of_beq_eq_true hb.1
        have h2 : off + size ≤ cs.length := Nat.le_of_ble_eq_true hb.2
        obtain ⟨_, vs', hvc, hvs⟩ := cellsOf_VR hv hcs
        have hl1 := hvs.length
        have hl2 := hs.length
        obtain ⟨r'', hr, hsr⟩ := ih ht (hs.splice off hvs) h
        refine ⟨r'', ?_, hsr⟩
        rw [Instr.fill, hp _ _ hpl]
        simp only [hvc, List.size_toArray]
        rw [if_neg (by simp; omega)]
        have hf := foldl_splice vs' off 0 ⟨cs'⟩ (by simp; omega)
        have hz : ((⟨vs'⟩ : Array Value).zipIdx.foldl (fun cs (x : Value × Nat) => cs.setIfInBounds (off + x.2) x.1) (⟨cs'⟩ : Array Value)) = ⟨splice off cs' vs'⟩ := by
          rw [← Array.foldl_toList]
          simpa using hf
        rw [hz]
        exact hr

section
variable {P : Program} {o : Oper} {a : Act} {w : World} {ρ : Pl} {tm : PM Value} {m m' : Mem} {v : Value}

theorem parts_PR (h : TR ρ tm a) : ∀ l : List (Nat × Operand), PR ρ (l.map fun p => (p.1, ev tm p.2)) (l.map fun p => (p.1, a.eval p.2))
  | [] => .nil
  | x :: r => .cons (h.ev x.2) (parts_PR h r)

theorem sound_build {t : TypeId} {ps : Array (Nat × Operand)} (ho : o.op = .build t ps) (h : buildOp P m t (ps.toList.map fun p => (p.1, ev tm p.2)) = some (v, m')) (ht : TR ρ tm a) (hr : Rel ρ m w) : Sound P o a w ρ m v m' := by
  have hps : (ps.map fun (x : Nat × Operand) => (x.1, a.eval x.2)).toList = ps.toList.map fun p => (p.1, a.eval p.2) := by simp
  have hpr := parts_PR ht ps.toList
  unfold buildOp at h
  split at h
  case h_3 => cases h
  case h_1 fs z hu hz =>
    obtain ⟨i, zz, hi, hzz, hzc, hpl, hlen⟩ := zeroCs_spec hz
    split at h
    case h_2 => cases h
    rename_i pl hpls
    split at h
    case h_2 => cases h
    rename_i cs hf
    obtain ⟨rfl, rfl⟩ := mk_inj h
    obtain ⟨r', hr1, hr2⟩ := fill_run (place' := fun i => pl[i]?) (fun i x hx => hx) hpr (allPlain_SR ρ hpl) hf
    refine .pure (v' := .agg ⟨r'⟩) ?_ hr (.vb (.agg hr2))
    unfold execOp; simp only [ho]
    refine run_value (run_build w t _ _ ?_)
    unfold Program.built
    unfold placesOf at hpls
    rw [hps]
    simp only [hi, hu, hzz, hpls, hzc]
    simpa using hr1
  case h_2 n e z hu hz =>
    obtain ⟨i, zz, hi, hzz, hzc, hpl, hlen⟩ := zeroCs_spec hz
    split at h
    case h_2 => cases h
    rename_i sz hsz
    split at h
    case h_2 => cases h
    rename_i cs hf
    obtain ⟨rfl, rfl⟩ := mk_inj h
    obtain ⟨r', hr1, hr2⟩ := fill_run (place' := fun i => some (i * sz, sz)) (fun i x hx => hx) hpr (allPlain_SR ρ hpl) hf
    refine .pure (v' := .agg ⟨r'⟩) ?_ hr (.vb (.agg hr2))
    unfold execOp; simp only [ho]
    refine run_value ?_
    rw [← hps] at hr1
    simp [Instr.build, Sem.run_bind, run_zero hi hzz, run_under hu, run_size hsz, hzc] at hr1 ⊢
    simp [hr1]

theorem sound_buildSlice {t : TypeId} {n : Nat} {ps : Array (Nat × Operand)} (ho : o.op = .buildSlice t n ps) (h : buildSliceOp P m t n (ps.toList.map fun p => (p.1, ev tm p.2)) = some (v, m')) (ht : TR ρ tm a) (hr : Rel ρ m w) : Sound P o a w ρ m v m' := by
  have hps : (ps.map fun (x : Nat × Operand) => (x.1, a.eval x.2)).toList = ps.toList.map fun p => (p.1, a.eval p.2) := by simp
  have hpr := parts_PR ht ps.toList
  unfold buildSliceOp at h
  split at h
  case h_2 => cases h
  rename_i e hu
  split at h
  case h_2 => cases h
  rename_i z sz hz hsz
  obtain ⟨i, zz, hi, hzz, hzc, hpl, hlen⟩ := zeroCs_spec hz
  cases hb : Nat.ble (n * sz) 16777216 && Nat.blt 0 sz with
  | false => rw [hb] at h; cases h
  | true =>
    rw [hb] at h
    simp only [Bool.and_eq_true] at hb
    have h1 : n * sz ≤ 16777216 := Nat.le_of_ble_eq_true hb.1
    have h2 : 0 < sz := Nat.le_of_ble_eq_true hb.2
    simp only [cond_true] at h
    split at h
    case h_2 => cases h
    rename_i cs hf
    obtain ⟨rfl, rfl⟩ := mk_inj h
    have hzl : z.length = sz := by
      rw [hlen]
      unfold szOf at hsz
      rw [hi] at hsz
      simpa using hsz
    obtain ⟨r', hr1, hr2⟩ := fill_run (place' := fun i => some (i * sz, sz)) (fun i x hx => hx) hpr (rep_plain hpl n) hf
    obtain ⟨hr', hext⟩ := hr.push cs r' [] .exact sz 0 e hr2 (by simp) (fun _ => rfl)
    refine .value (v' := .slice (some ⟨w.heap.size, 0, none⟩) n n) ?_ hr' hext ?_
    · unfold execOp; simp only [ho]
      refine run_value ?_
      rw [← hps] at hr1
      have harr := rep_array z n (n * sz) (by rw [hzl])
      unfold Instr.buildSlice
      simp only [Sem.run_bind, run_under hu, Result.andThen_ok, run_size hsz]
      rw [if_neg (by omega)]
      by_cases h0 : n * sz = 0
      · have hn0 : n = 0 := by
          rcases Nat.mul_eq_zero.1 h0 with h | h
          · exact h
          · omega
        subst hn0
        have hr1' : Instr.fill (fun i => some (i * sz, sz)) #[] (ps.toList.map fun p => (p.1, a.eval p.2)) = some ⟨r'⟩ := by rw [← hps]; exact hr1
        have hd : (Array.map (fun _ : Nat => (default : Value)) (Array.range 0)) = #[] := by apply Array.ext'; simp
        simp [hd, hr1', newRow]
      · rw [if_neg h0]
        simp only [Sem.run_bind, run_zero hi hzz, Result.andThen_ok, hzc, Sem.run_pure, harr, hr1]
        simp [newRow]
    · exact .vb (.sc (.slice (p := ⟨w.heap.size, 0, cs.length, sz, 0⟩) (Pl.put_same _ _ _) (.inl rfl)))

end
end Go.Abs
