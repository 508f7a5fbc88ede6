/- The builtins at their calls. Conditions: none. -/
import Derived.Test.YtleddgfdjaaelaaGreatAbsOps5
namespace Go.Abs
section
variable {P : Program} {o : Oper} {a : Act} {w : World} {ρ : Pl} {tm : PM Value} {m m' : Mem} {v : Value}

theorem sound_of_run {s : Sem Value} (h : RunOk P s w ρ m v m') (he : (execOp a.eval o).run P w = (do pure (Next.value (← s)) : Sem Next).run P w) : Sound P o a w ρ m v m' := by
  obtain ⟨ρ', v', w', h1, h2, h3, h4⟩ := h
  refine .value (v' := v') ?_ h2 h3 h4
  rw [he]
  exact run_value h1

theorem runOk_len {t : TypeId} {x x' : Value} (ty : TypeId) (hx : VR ρ x x') (hr : Rel ρ m w) (h : lenOp P m t x = some (v, m')) : RunOk P (Builtin.len_ #[t] ty #[x']) w ρ m v m' := by
  unfold lenOp at h
  split at h
  case h_6 => cases h
  case h_1 s hu =>
    obtain ⟨rfl, rfl⟩ := mk_inj h
    have e := VR.string_inv hx
    subst e
    refine .pure (v' := .int .i64 s.size) ?_ hr (.vb (.sc (.int _ _)))
    simp [Builtin.len_, Sem.run_bind, run_under hu, goInt]
  case h_2 n e hu =>
    obtain ⟨rfl, rfl⟩ := mk_inj h
    refine .pure (v' := .int .i64 n) ?_ hr (.vb (.sc (.int _ _)))
    simp [Builtin.len_, Sem.run_bind, run_under hu, goInt]
  case h_3 e ad n c hu =>
    obtain ⟨rfl, rfl⟩ := mk_inj h
    obtain ⟨y, c', rfl, _⟩ := VR.slice_form hx
    refine .pure (v' := .int .i64 n) ?_ hr (.vb (.sc (.int _ _)))
    simp [Builtin.len_, Sem.run_bind, run_under hu, goInt]
  case h_4 k e hu =>
    obtain ⟨rfl, rfl⟩ := mk_inj h
    have e := VR.nilmap_inv hx
    subst e
    refine .pure (v' := .int .i64 0) ?_ hr (.vb (.sc (.int _ _)))
    simp [Builtin.len_, Sem.run_bind, run_under hu, goInt]
  case h_5 k e r hu =>
    split at h
    case h_2 => cases h
    rename_i es c hg
    obtain ⟨rfl, rfl⟩ := mk_inj h
    obtain ⟨p, hp, rfl⟩ := VR.map_inv hx
    obtain ⟨q, hq, _, _, _, hm⟩ := hr.map r es c hg
    rw [hp] at hq
    cases hq
    refine .pure (v' := .int .i64 es.length) ?_ hr (.vb (.sc (.int _ _)))
    have hget : (getObj p.b).run P w = .ok (.map ⟨es⟩ c) w := by simp [getObj, Sem.run, hm]
    simp [Builtin.len_, Sem.run_bind, run_under hu, goInt, hget]

theorem zero_some {e : TypeId} {sz : Nat} (h : szOf P e = some sz) : ∃ i, P.info? e = some i ∧ i.size = sz := by
  unfold szOf at h
  cases e' : P.info? e with
  | none => rw [e'] at h; cases h
  | some i => rw [e'] at h; exact ⟨i, rfl, by simpa using h⟩

theorem runOk_append {t xt : TypeId} {s x s' x' : Value} (ty : TypeId) (hs : VR ρ s s') (hx : VR ρ x x') (hr : Rel ρ m w) (h : appendOp P m t xt s x = some (v, m')) : RunOk P (Builtin.append_ #[t, xt] ty #[s', x']) w ρ m v m' := by
  unfold appendOp at h
  split at h
  case h_2 => cases h
  rename_i e ad len cap hu
  split at h
  case h_2 => cases h
  rename_i sz z hsz hz
  split at h
  case h_3 => cases h
  case h_1 k n hxt =>
    split at h
    case isFalse => cases h
    rename_i hb
    have ex := VR.int_inv hx
    subst ex
    obtain ⟨i, zz, hi, hzz, hzc, hpl, hlen⟩ := zeroCs_spec hz
    have hby : n.toNat * bytesOf P e ≤ 140737488355328 := by
      unfold appendTo at h
      cases hb1 : (Nat.ble (Nat.add len n.toNat * bytesOf P e) 140737488355328 && Nat.ble (Nat.add len n.toNat) 140737488355328 && Nat.beq (rep n.toNat z).length (n.toNat * sz) && Nat.blt 0 sz) with
      | false => rw [hb1] at h; cases h
      | true =>
        simp only [Bool.and_eq_true] at hb1
        have h1 : (len + n.toNat) * bytesOf P e ≤ 140737488355328 := Nat.le_of_ble_eq_true hb1.1.1.1
        rw [Nat.add_mul] at h1
        omega
    obtain ⟨base, len', cap', rfl, ρ', v', w', h1, h2, h3, h4⟩ := RunOk_appendTo (appRun_zeros (w := w) (ty := ty) hu hxt hsz hz hb.1 (by omega) hby) (rep_plain hpl _) hr hs h
    exact ⟨ρ', v', w', h1, h2, h3, h4⟩
  case h_2 e2 b n c hxt =>
    split at h
    case h_2 => cases h
    rename_i news hcs
    rcases rd_slice hr hcs hx with ⟨rfl, h0, hc0⟩ | ⟨y, c', cs', rfl, hss, hlen, hcell⟩
    · subst h0; subst hc0
      obtain ⟨base, len', cap', rfl, ρ', v', w', h1, h2, h3, h4⟩ := RunOk_appendTo (appRun_slice (w := w) (ty := ty) (b := none) (n := 0) (c := 0) hu hxt hsz hz (run_firstCells_none w sz 0 0 0) (run_firstCells_none w.drew sz 0 0 0)) (.nil) hr hs h
      exact ⟨ρ', v', w', h1, h2, h3, h4⟩
    · obtain ⟨base, len', cap', rfl, ρ', v', w', h1, h2, h3, h4⟩ := RunOk_appendTo (appRun_slice (w := w) (ty := ty) (b := some y) (n := n) (c := c') hu hxt hsz hz (firstCells_of hlen hcell) (firstCells_of (w := w.drew) hlen hcell)) hss hr hs h
      exact ⟨ρ', v', w', h1, h2, h3, h4⟩

theorem min_swap (x y : Nat) : Nat.min x y = min x y := rfl

theorem runOk_copy {t xt : TypeId} {s d s' d' : Value} (ty : TypeId) (hd : VR ρ d d') (hs : VR ρ s s') (hr : Rel ρ m w) (h : copyOp P m t d s = some (v, m')) : RunOk P (Builtin.copy_ #[t, xt] ty #[d', s']) w ρ m v m' := by
  unfold copyOp at h
  split at h
  case h_2 => cases h
  rename_i e ad dl dc b sl sc hu
  split at h
  case h_2 => cases h
  rename_i sz hsz
  split at h
  case h_2 => cases h
  rename_i cs hcs
  obtain ⟨y, dc', rfl, hyn⟩ := VR.slice_form hd
  -- what is read
  have hread : ∃ z zc cs', s' = .slice z sl zc ∧ SRs ρ cs cs' ∧ (Builtin.firstCells sz (min sl dl) (.slice z sl zc)).run P w = .ok ⟨cs'⟩ w := by
    unfold sliceCs at hcs
    split at hcs
    case h_1 =>
      simp only [Option.some.injEq] at hcs
      subst hcs
      obtain ⟨e', h0, _⟩ := VR.nilslice_inv hs
      subst h0
      exact ⟨none, 0, [], e', .nil, run_firstCells_none w sz _ 0 0⟩
    case h_3 => cases hcs
    case h_2 g off =>
      obtain ⟨p, r', hp, hss, hlen, hcell⟩ := hr.rd hcs
      rcases VR.slice_inv hs with ⟨q, c', hq, _, he, _⟩ | ⟨h0, hc0, z, he⟩
      · simp only at hq he
        rw [hp] at hq
        cases hq
        refine ⟨_, c', r', he, hss, ?_⟩
        exact run_firstCells_some w sz _ _ sl c' r' hlen (fun j u hj => by rw [addr_add]; exact hcell j u hj)
      · subst h0
        have : r' = [] := List.eq_nil_of_length_eq_zero (by rw [hlen]; simp)
        subst this
        exact ⟨_, 0, [], he, hss, run_firstCells_some w sz _ _ 0 0 [] (by simp) (fun j u hj => by simp at hj)⟩
  obtain ⟨z, zc, cs', rfl, hss, hfc⟩ := hread
  split at h
  case h_3 => cases h
  case h_2 =>
    obtain ⟨rfl, rfl⟩ := mk_inj h
    cases y with
    | some _ => cases hyn
    | none =>
      refine .pure (v' := .int .i64 (min sl dl : Nat)) ?_ hr (.vb (.sc (.int _ _)))
      simp [Builtin.copy_, Sem.run_bind, run_under hu, run_size hsz, Builtin.lenOf, min_swap, hfc, goInt]
  case h_1 g off =>
    split at h
    case h_2 => cases h
    rename_i m₁ hw
    obtain ⟨rfl, rfl⟩ := mk_inj h
    obtain ⟨p, hp, hr', hext, hthere, hthaw⟩ := hr.wr hw hss
    rcases VR.slice_inv hd with ⟨p', c', hp', _, he, _⟩ | ⟨h0, hc0, yy, he⟩
    · simp only at hp' he
      rw [hp] at hp'
      cases hp'
      simp only [Value.slice.injEq] at he
      obtain ⟨rfl, _, rfl⟩ := he
      refine ⟨ρ, .int .i64 (min sl dl : Nat), _, ?_, hr', hext, .vb (.sc (.int _ _))⟩
      have hst := run_storeCells_cells (P := P) p.b (p.d + off) cs' 0 w (fun j hj => by simpa using hthere j hj) (fun j hj => by simpa using hthaw j hj) hss.one
      rw [Nat.add_zero] at hst
      simp [Builtin.copy_, Sem.run_bind, run_under hu, run_size hsz, Builtin.lenOf, min_swap, hfc, hst, goInt]
    · subst h0
      simp only [Value.slice.injEq] at he
      obtain ⟨rfl, _, rfl⟩ := he
      have hcs0 : cs' = [] := by
        have hl := hss.length
        have : cs.length = 0 := by
          unfold sliceCs at hcs
          split at hcs
          · simp only [Option.some.injEq] at hcs; subst hcs; rfl
          · obtain ⟨_, r', _, h5, h6, _⟩ := hr.rd hcs
            rw [h5.length, h6]; simp
          · cases hcs
        exact List.eq_nil_of_length_eq_zero (by omega)
      subst hcs0
      refine ⟨ρ, .int .i64 (min sl 0 : Nat), w, ?_, by simpa [World.setCells] using hr', by simpa [World.setCells] using hext, .vb (.sc (.int _ _))⟩
      simp only [Nat.min_zero] at hfc ⊢
      simp [Builtin.copy_, Sem.run_bind, run_under hu, run_size hsz, Builtin.lenOf, hfc, storeCells, goInt]

theorem runOk_clear {t : TypeId} {x x' : Value} (ty : TypeId) (hx : VR ρ x x') (hr : Rel ρ m w) (h : clearOp P m t x = some (v, m')) : RunOk P (Builtin.clear_ #[t] ty #[x']) w ρ m v m' := by
  unfold clearOp at h
  split at h
  case h_2 => cases h
  rename_i e ad n c hu
  split at h
  case h_3 => cases h
  case h_1 =>
    obtain ⟨rfl, rfl⟩ := mk_inj h
    obtain ⟨e', _, _⟩ := VR.nilslice_inv hx
    subst e'
    refine .pure (v' := .tuple #[]) ?_ hr (.tuple .nil)
    simp [Builtin.clear_, run_under hu]
  case h_2 g off =>
    split at h
    case h_2 => cases h
    rename_i z hz
    split at h
    case h_2 => cases h
    rename_i m₁ hw
    obtain ⟨rfl, rfl⟩ := mk_inj h
    obtain ⟨i, zz, hi, hzz, hzc, hpl, hlen⟩ := zeroCs_spec hz
    obtain ⟨p, hp, hr', hext, hthere, hthaw⟩ := hr.wr hw (rep_plain hpl n)
    have hzr := zeros_run n hzc
    by_cases hn0 : n = 0
    · subst hn0
      refine ⟨ρ, .tuple #[], w, ?_, by simpa [World.setCells, rep] using hr', by simpa [World.setCells, rep] using hext, .tuple .nil⟩
      obtain ⟨y, c', rfl, _⟩ := VR.slice_form hx
      cases y <;> simp [Builtin.clear_, run_under hu]
    · rcases VR.slice_inv hx with ⟨p', c', hp', _, he, _⟩ | ⟨h0, _, _, _⟩
      · simp only at hp' he
        rw [hp] at hp'
        cases hp'
        subst he
        have hst := run_storeCells_cells (P := P) p.b (p.d + off) (rep n z) 0 w (fun j hj => by simpa using hthere j hj) (fun j hj => by simpa using hthaw j hj) (SRs.one (rep_plain (ρ := ρ) hpl n))
        rw [Nat.add_zero] at hst
        refine ⟨ρ, .tuple #[], _, ?_, hr', hext, .tuple .nil⟩
        obtain ⟨k, rfl⟩ : ∃ k, n = k + 1 := ⟨n - 1, by omega⟩
        simp [Builtin.clear_, Sem.run_bind, run_under hu, run_zero hi hzz, hzr, hst]
      · exact absurd h0 hn0

theorem run_minV : ∀ {r r' : List Value} {x : Value} {u : Value}, minV x r = some u → VRs ρ r r' → ∃ k n, x = .int k n ∧ (r'.foldlM Builtin.min2 x).run P w = .ok u w ∧ VR ρ u u := by
  intro r
  induction r with
  | nil =>
    intro r' x u h hr
    cases hr
    unfold minV at h
    split at h
    case h_1 k n _ =>
      simp only [Option.some.injEq] at h
      subst h
      exact ⟨k, n, rfl, rfl, .vb (.sc (.int _ _))⟩
    case h_2 hc => cases hc
    case h_3 => cases h
  | cons y r ih =>
    intro r' x u h hr
    cases hr with
    | cons hy ht =>
      unfold minV at h
      split at h
      case h_1 hc => cases hc
      case h_3 => cases h
      case h_2 k n l q r2 hc =>
        simp only [List.cons.injEq] at hc
        obtain ⟨rfl, rfl⟩ := hc
        have e := VR.int_inv hy
        subst e
        obtain ⟨k', n', e1, h1, h2⟩ := ih h ht
        refine ⟨k, n, rfl, ?_, h2⟩
        rw [List.foldlM_cons]
        simp only [Sem.run_bind]
        show ((Builtin.min2 (.int k n) (.int l q)).run P w).andThen _ = _
        simp only [Builtin.min2, Sem.run_pure, Result.andThen_ok]
        exact h1

theorem run_maxV : ∀ {r r' : List Value} {x : Value} {u : Value}, maxV x r = some u → VRs ρ r r' → ∃ k n, x = .int k n ∧ (r'.foldlM Builtin.max2 x).run P w = .ok u w ∧ VR ρ u u := by
  intro r
  induction r with
  | nil =>
    intro r' x u h hr
    cases hr
    unfold maxV at h
    split at h
    case h_1 k n _ =>
      simp only [Option.some.injEq] at h
      subst h
      exact ⟨k, n, rfl, rfl, .vb (.sc (.int _ _))⟩
    case h_2 hc => cases hc
    case h_3 => cases h
  | cons y r ih =>
    intro r' x u h hr
    cases hr with
    | cons hy ht =>
      unfold maxV at h
      split at h
      case h_1 hc => cases hc
      case h_3 => cases h
      case h_2 k n l q r2 hc =>
        simp only [List.cons.injEq] at hc
        obtain ⟨rfl, rfl⟩ := hc
        have e := VR.int_inv hy
        subst e
        obtain ⟨k', n', e1, h1, h2⟩ := ih h ht
        refine ⟨k, n, rfl, ?_, h2⟩
        rw [List.foldlM_cons]
        simp only [Sem.run_bind]
        show ((Builtin.max2 (.int k n) (.int l q)).run P w).andThen _ = _
        simp only [Builtin.max2, Sem.run_pure, Result.andThen_ok]
        exact h1

theorem toList_one {α : Type} {x : Array α} {l : List α} (h : x.toList = l) : x = ⟨l⟩ := by
  cases x; simp at h; subst h; rfl

theorem exec_builtin {c : Call} {b : Builtin} {l : List Operand} (ho : o.op = .call c) (hc : c.callee = .builtin b) (hl : c.args.toList = l) :
    ∃ cs, (execOp a.eval o).run P w = (Go.builtin b c.argTypes o.type cs ⟨l.map a.eval⟩).run P w := by
  refine ⟨c.args.map fun | .const _ => true | _ => false, ?_⟩
  unfold execOp
  simp only [ho]
  simp [resolve, hc, invoke]
  have : Array.map a.eval ⟨l⟩ = ⟨l.map a.eval⟩ := List.map_toArray
  rw [toList_one hl, this]
  rfl

theorem sound_builtin {c : Call} {b : Builtin} (ho : o.op = .call c) (hc : c.callee = .builtin b) (h : builtin P tm m b c.args.toList c.argTypes.toList = some (v, m')) (ht : TR ρ tm a) (hr : Rel ρ m w) : Sound P o a w ρ m v m' := by
  unfold builtin at h
  split at h
  case h_7 => cases h
  case h_1 =>
    split at h
    case h_2 => cases h
    rename_i x t ts hargs hats
    obtain ⟨cs, hex⟩ := exec_builtin (P := P) (a := a) (w := w) ho hc hargs
    refine sound_of_run (runOk_len o.type (ht.ev x) hr h) (hex.trans ?_)
    rw [toList_one hats]
    show (do pure (Next.value (← Builtin.len_ ⟨t :: ts⟩ o.type #[a.eval x])) : Sem Next).run P w = _
    have : Builtin.len_ ⟨t :: ts⟩ o.type #[a.eval x] = Builtin.len_ #[t] o.type #[a.eval x] := by
      unfold Builtin.len_
      simp
    rw [this]
  case h_2 =>
    split at h
    case h_2 => cases h
    rename_i s x t xt hargs hats
    obtain ⟨cs, hex⟩ := exec_builtin (P := P) (a := a) (w := w) ho hc hargs
    refine sound_of_run (runOk_append o.type (ht.ev s) (ht.ev x) hr h) (hex.trans ?_)
    rw [toList_one hats]
    rfl
  case h_3 =>
    split at h
    case h_2 => cases h
    rename_i d s t xt hargs hats
    obtain ⟨cs, hex⟩ := exec_builtin (P := P) (a := a) (w := w) ho hc hargs
    refine sound_of_run (runOk_copy (xt := xt) o.type (ht.ev d) (ht.ev s) hr h) (hex.trans ?_)
    rw [toList_one hats]
    rfl
  case h_4 =>
    split at h
    case h_2 => cases h
    rename_i x r hargs
    obtain ⟨cs, hex⟩ := exec_builtin (P := P) (a := a) (w := w) ho hc hargs
    obtain ⟨hu, rfl⟩ := lift_inj h
    have hx := ht.ev x
    obtain ⟨k, n, e, h1, h2⟩ := run_minV (P := P) (w := w) hu (evs_VRs ht r)
    rw [e] at hx
    have e' := VR.int_inv hx
    refine sound_of_run (s := (r.map a.eval).foldlM Builtin.min2 (a.eval x)) (.pure (v' := v) ?_ hr h2) (hex.trans rfl)
    rw [e', ← e]
    exact h1
  case h_5 =>
    split at h
    case h_2 => cases h
    rename_i x r hargs
    obtain ⟨cs, hex⟩ := exec_builtin (P := P) (a := a) (w := w) ho hc hargs
    obtain ⟨hu, rfl⟩ := lift_inj h
    have hx := ht.ev x
    obtain ⟨k, n, e, h1, h2⟩ := run_maxV (P := P) (w := w) hu (evs_VRs ht r)
    rw [e] at hx
    have e' := VR.int_inv hx
    refine sound_of_run (s := (r.map a.eval).foldlM Builtin.max2 (a.eval x)) (.pure (v' := v) ?_ hr h2) (hex.trans rfl)
    rw [e', ← e]
    exact h1
  case h_6 =>
    split at h
    case h_2 => cases h
    rename_i x t hargs hats
    obtain ⟨cs, hex⟩ := exec_builtin (P := P) (a := a) (w := w) ho hc hargs
    refine sound_of_run (runOk_clear o.type (ht.ev x) hr h) (hex.trans ?_)
    rw [toList_one hats]
    rfl

end
end Go.Abs
