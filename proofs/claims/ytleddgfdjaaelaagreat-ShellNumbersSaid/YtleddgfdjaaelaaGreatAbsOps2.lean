/- Operations on values and addresses: what the interpreter makes of them is what the model's run does. Conditions: none. -/
import Derived.Test.YtleddgfdjaaelaaGreatAbsOps
import Derived.Laws.StructEq
import Derived.ChangeKeysEq
namespace Go.Abs
section
variable {P : Program} {o : Oper} {a : Act} {w : World} {ρ : Pl} {tm : PM Value} {m m' : Mem} {v : Value}

theorem fieldOf_spec {t : TypeId} {f : Nat} {fd : Field} (h : fieldOf P t f = some fd) : ∃ fs, P.underlying t = some (.struct fs) ∧ fs[f]? = some fd := by
  unfold fieldOf at h
  split at h
  · rename_i fs hu; exact ⟨fs, hu, h⟩
  · cases h

theorem sound_fieldAddr {t : TypeId} {x : Operand} {f : Nat} (ho : o.op = .fieldAddr t x f) (h : fieldAddrOp P m t (ev tm x) f = some (v, m')) (ht : TR ρ tm a) (hr : Rel ρ m w) : Sound P o a w ρ m v m' := by
  unfold fieldAddrOp at h
  split at h
  case h_2 => cases h
  rename_i g off fd hx hf
  split at h
  case h_2 => cases h
  rename_i n hn
  obtain ⟨rfl, rfl⟩ := mk_inj h
  obtain ⟨fs, hu, hfd⟩ := fieldOf_spec hf
  have hv := ht.ev x
  rw [hx] at hv
  obtain ⟨p, hp, _, he⟩ := VR.ptr_inv hv
  simp only at hp he
  refine .pure (v' := .pointer (some ⟨p.b, p.d + (off + fd.offset), none⟩)) ?_ hr (.vb (.sc (.ptr hp)))
  unfold execOp; simp only [ho, he]
  refine run_value ?_
  simp [Instr.fieldAt, Sem.run_bind, run_under hu, hfd, Instr.sureAddr, fieldPlace, run_size hn, addr_add, Nat.add_assoc]

theorem run_part {t : TypeId} {cs cs' : List Value} {off : Nat} {u : Value} (h : partOf P t cs off = some u) (hs : SRs ρ cs cs') :
    ∃ u', (part t ⟨cs'⟩ off).run P w = .ok u' w ∧ VR ρ u u' := by
  unfold partOf at h
  split at h
  case h_3 => cases h
  case h_1 ha =>
    split at h
    case h_2 => cases h
    rename_i n hn
    split at h
    case h_2 => cases h
    rename_i r hrd
    simp only [Option.some.injEq] at h
    subst h
    obtain ⟨hle, hlen, hget⟩ := rdL_spec hrd
    refine ⟨.agg ((⟨cs'⟩ : Array Value).extract off (off + n)), by simp [part, Sem.run_bind, run_isAgg ha, run_size hn], ?_⟩
    have : (⟨cs'⟩ : Array Value).extract off (off + n) = ⟨(cs'.drop off).take n⟩ := by
      apply Array.ext'
      simp [List.take_drop]
    rw [this]
    have hr' : r = (cs.drop off).take n := by
      unfold rdL at hrd
      cases hb : Nat.ble (Nat.add off n) cs.length with
      | false => rw [hb] at hrd; cases hrd
      | true => rw [hb] at hrd; simpa using hrd.symm
    rw [hr']
    exact .vb (.agg ((hs.drop off).take n))
  case h_2 ha =>
    obtain ⟨c', hc', hs1⟩ := hs.get off u h
    refine ⟨c', ?_, .vb (.sc hs1)⟩
    simp [part, Sem.run_bind, run_isAgg ha, hc']

theorem sound_field {t : TypeId} {x : Operand} {f : Nat} (ho : o.op = .field t x f) (h : fieldOp P m t (ev tm x) f = some (v, m')) (ht : TR ρ tm a) (hr : Rel ρ m w) : Sound P o a w ρ m v m' := by
  unfold fieldOp at h
  split at h
  case h_2 => cases h
  rename_i cs fd hx hf
  obtain ⟨hl, rfl⟩ := lift_inj h
  obtain ⟨fs, hu, hfd⟩ := fieldOf_spec hf
  have hv := ht.ev x
  rw [hx] at hv
  obtain ⟨cs', he, hs⟩ := VR.agg_inv hv
  obtain ⟨u', hrun, hvr⟩ := run_part (P := P) (w := w) hl hs
  refine .pure (v' := u') ?_ hr hvr
  unfold execOp; simp only [ho, he]
  refine run_value ?_
  simp [Instr.field, Sem.run_bind, run_under hu, hfd, asAgg, hrun]

theorem sound_index {t : TypeId} {x i : Operand} (ho : o.op = .index t x i) (h : indexOp P m t (ev tm x) (ev tm i) = some (v, m')) (ht : TR ρ tm a) (hr : Rel ρ m w) : Sound P o a w ρ m v m' := by
  unfold indexOp at h
  split at h
  case h_2 => cases h
  rename_i k n hi
  split at h
  case h_3 => cases h
  case h_2 s hu hx =>
    split at h
    case h_2 => cases h
    rename_i j
    split at h
    case h_2 => cases h
    rename_i b hb
    obtain ⟨rfl, rfl⟩ := mk_inj h
    have hv := ht.ev x
    rw [hx] at hv
    have he := VR.string_inv hv
    have hvi := ht.ev i
    rw [hi] at hvi
    have hei := VR.int_inv hvi
    refine .pure (v' := .int .u8 b.toNat) ?_ hr (.vb (.sc (.int _ _)))
    unfold execOp; simp only [ho, he, hei]
    refine run_value ?_
    have h0 : (0 : Int) ≤ Int.ofNat j := Int.natCast_nonneg j
    simp only [Instr.index, asIntOf, Sem.run_bind, Sem.run_pure, Result.andThen_ok, run_under hu, if_pos h0]
    rw [show (Int.ofNat j).toNat = j from rfl, hb]
    rfl
  rename_i len e cs hu hx
  split at h
  case h_2 => cases h
  rename_i sz hsz
  split at h
  case isFalse => cases h
  rename_i hbd
  obtain ⟨hl, rfl⟩ := lift_inj h
  have hv := ht.ev x
  rw [hx] at hv
  obtain ⟨cs', he, hs⟩ := VR.agg_inv hv
  have hvi := ht.ev i
  rw [hi] at hvi
  have hei := VR.int_inv hvi
  obtain ⟨u', hrun, hvr⟩ := run_part (P := P) (w := w) hl hs
  refine .pure (v' := u') ?_ hr hvr
  unfold execOp; simp only [ho, he, hei]
  refine run_value ?_
  simp [Instr.index, Sem.run_bind, run_under hu, asIntOf, hbd, run_size hsz, hrun]

theorem sound_indexAddr {t : TypeId} {x i : Operand} (ho : o.op = .indexAddr t x i) (h : indexAddrOp P m t (ev tm x) (ev tm i) = some (v, m')) (ht : TR ρ tm a) (hr : Rel ρ m w) : Sound P o a w ρ m v m' := by
  unfold indexAddrOp at h
  split at h
  case h_2 => cases h
  rename_i k n hi
  have hvi := ht.ev i
  rw [hi] at hvi
  have hei := VR.int_inv hvi
  split at h
  case h_3 => cases h
  case h_1 len e g off hu hx =>
    split at h
    case h_2 => cases h
    rename_i sz hsz
    split at h
    case isFalse => cases h
    rename_i hbd
    obtain ⟨rfl, rfl⟩ := mk_inj h
    have hv := ht.ev x
    rw [hx] at hv
    obtain ⟨p, hp, _, he⟩ := VR.ptr_inv hv
    simp only at hp he
    refine .pure (v' := .pointer (some ⟨p.b, p.d + (off + n.toNat * sz), none⟩)) ?_ hr (.vb (.sc (.ptr hp)))
    unfold execOp; simp only [ho, he, hei]
    refine run_value ?_
    simp [Instr.indexAt, Sem.run_bind, run_under hu, asIntOf, hbd, run_size hsz, Instr.sureAddr, addr_add, Nat.add_assoc]
  case h_2 e g off len cap hu hx =>
    split at h
    case h_2 => cases h
    rename_i sz hsz
    split at h
    case isFalse => cases h
    rename_i hbd
    obtain ⟨rfl, rfl⟩ := mk_inj h
    have hv := ht.ev x
    rw [hx] at hv
    rcases VR.slice_inv hv with ⟨p, c', hp, _, he, _⟩ | ⟨h0, _, _⟩
    · simp only at hp he
      refine .pure (v' := .pointer (some ⟨p.b, p.d + (off + n.toNat * sz), none⟩)) ?_ hr (.vb (.sc (.ptr hp)))
      unfold execOp; simp only [ho, he, hei]
      refine run_value ?_
      simp [Instr.indexAt, Sem.run_bind, run_under hu, asIntOf, hbd, run_size hsz, addr_add, Nat.add_assoc]
    · omega

theorem VBs.get {x y : List Value} (h : VBs ρ x y) : ∀ (i : Nat) (c : Value), x[i]? = some c → ∃ c', y[i]? = some c' ∧ VB ρ c c' := by
  induction h with
  | nil => intro i c hc; simp at hc
  | cons e _ ih =>
    intro i c hc
    cases i with
    | zero => simp at hc; subst hc; exact ⟨_, rfl, e⟩
    | succ i => simpa using ih i c (by simpa using hc)

theorem sound_extract {t : Operand} {i : Nat} (ho : o.op = .extract t i) (h : (match ev tm t with | .tuple vs => lift m vs[i]? | _ => none) = some (v, m')) (ht : TR ρ tm a) (hr : Rel ρ m w) : Sound P o a w ρ m v m' := by
  split at h
  · rename_i vs hx
    obtain ⟨hl, rfl⟩ := lift_inj h
    have hv := ht.ev t
    rw [hx] at hv
    obtain ⟨vs', he, hs⟩ := VR.tuple_inv hv
    obtain ⟨c', hc', hb⟩ := hs.get i v (by simpa using hl)
    refine .pure (v' := c') ?_ hr (.vb hb)
    unfold execOp; simp only [ho, he]
    refine run_value ?_
    simp [Instr.extract, hc']
  · cases h

theorem allVB_VBs {l l' : List Value} (h : VRs ρ l l') (ha : allVB l = true) : VBs ρ l l' := by
  induction h with
  | nil => exact .nil
  | cons e _ ih =>
    unfold allVB at ha
    simp only [Bool.and_eq_true] at ha
    obtain ⟨cs, hcs⟩ := Option.isSome_iff_exists.1 ha.1
    exact .cons (cellsOf_VR e hcs).1 (ih ha.2)

theorem evs_VRs (h : TR ρ tm a) : ∀ l : List Operand, VRs ρ (l.map (ev tm)) (l.map a.eval)
  | [] => .nil
  | x :: r => .cons (h.ev x) (evs_VRs h r)

theorem sound_makeFunc {fn : Fn} {x y : Array Operand} (ho : o.op = .makeFunc fn x y) (h : funcOp m fn (x.toList.map (ev tm)) (y.toList.map (ev tm)) = some (v, m')) (ht : TR ρ tm a) (hr : Rel ρ m w) : Sound P o a w ρ m v m' := by
  unfold funcOp at h
  cases hb : allVB (x.toList.map (ev tm)) && allVB (y.toList.map (ev tm)) with
  | false => rw [hb] at h; cases h
  | true =>
    rw [hb] at h
    obtain ⟨rfl, rfl⟩ := mk_inj h
    simp only [Bool.and_eq_true] at hb
    refine .pure (v' := .func fn (x.map a.eval) (y.map a.eval)) ?_ hr ?_
    · unfold execOp; simp only [ho]; rfl
    · have e1 : x.map a.eval = ⟨x.toList.map a.eval⟩ := by apply Array.ext'; simp
      have e2 : y.map a.eval = ⟨y.toList.map a.eval⟩ := by apply Array.ext'; simp
      rw [e1, e2]
      exact .func (allVB_VBs (evs_VRs ht _) hb.1) (allVB_VBs (evs_VRs ht _) hb.2)

theorem run_binI {op : BinOp} {k : IntKind} {x y : Int} {u : Value} (t : TypeId) (h : binI op k x y = some u) (hs : isShift op = false) : (binOp op t (.int k x) (.int k y)).run P w = .ok u w ∧ VR ρ u u := by
  unfold binI at h
  split at h
  case h_16 => cases h
  all_goals first
    | (split at h <;> first | (cases h; done) | (simp only [Option.some.injEq] at h; subst h; rename_i hz; refine ⟨?_, .vb (.sc (by constructor))⟩; simp [binOp, Op.intDiv, hz]))
    | (simp only [Option.some.injEq] at h; subst h; refine ⟨?_, .vb (.sc (by constructor))⟩; simp [binOp, Op.intArith, Op.intBits, Op.intCmp])

theorem run_shiftI {op : BinOp} {k l : IntKind} {x y : Int} {u : Value} (t : TypeId) (h : shiftI op k x y = some u) : (binOp op t (.int k x) (.int l y)).run P w = .ok u w ∧ VR ρ u u := by
  unfold shiftI at h
  split at h
  case h_3 => cases h
  all_goals
    split at h
    · cases h
    · rename_i hy
      simp only [Option.some.injEq] at h
      subst h
      refine ⟨?_, .vb (.sc (by constructor))⟩
      simp [binOp, Op.shift, hy]

theorem run_eqGuard_not (op : BinOp) (t : TypeId) (x y : Operand) {u u' : Value} (h1 : u ≠ .nilIface ∨ u' ≠ .nilIface) (h2 : ∀ c d, u = .agg c → u' = .agg d → False) :
    (eqGuard op t x y u u').run P w = .ok () w := by
  unfold eqGuard
  cases op <;> (cases u <;> cases u' <;> first | rfl | (exfalso; exact h2 _ _ rfl rfl) | (exfalso; rcases h1 with h | h <;> exact h rfl))

theorem isNone_VRptr {x y : Option Addr} (h : VR ρ (.pointer x) (.pointer y)) : y.isNone = x.isNone := by
  cases x with
  | none => have := VR.nilptr_inv h; simp only [Value.pointer.injEq] at this; subst this; rfl
  | some x => obtain ⟨p, _, _, he⟩ := VR.ptr_inv h; simp only [Value.pointer.injEq] at he; subst he; rfl

theorem VR.pointer_form {x : Option Addr} {v' : Value} (h : VR ρ (.pointer x) v') : ∃ y, v' = .pointer y ∧ y.isNone = x.isNone := by
  cases x with
  | none => exact ⟨none, VR.nilptr_inv h, rfl⟩
  | some x => obtain ⟨p, _, _, he⟩ := VR.ptr_inv h; exact ⟨_, he, rfl⟩

theorem VR.slice_form {x : Option Addr} {n c : Nat} {v' : Value} (h : VR ρ (.slice x n c) v') : ∃ y c', v' = .slice y n c' ∧ y.isNone = x.isNone := by
  cases x with
  | none => obtain ⟨e, h0, _⟩ := VR.nilslice_inv h; subst h0; exact ⟨none, _, e, rfl⟩
  | some x =>
    rcases VR.slice_inv h with ⟨p, c', _, _, he, _⟩ | ⟨h0, _, y, he⟩
    · exact ⟨_, _, he, rfl⟩
    · subst h0; exact ⟨_, _, he, rfl⟩

theorem eqIn_bool {t : TypeId} (hd : P.underlying t = some .bool) (b c : Bool) (d : Nat) : (Op.equalIn (d + 1) t (.bool b) (.bool c)).run P w = .ok (b == c) w := by
  simp [Op.equalIn, run_under hd]
theorem eq_bool {t : TypeId} (hd : P.underlying t = some .bool) (b c : Bool) : (Op.equal t (.bool b) (.bool c)).run P w = .ok (b == c) w := eqIn_bool hd b c 9999
theorem eqIn_ptr_nil {t e : TypeId} (hd : P.underlying t = some (.pointer e)) (c : Option Addr) (d : Nat) : (Op.equalIn (d + 1) t (.pointer none) (.pointer c)).run P w = .ok c.isNone w := by
  simp [Op.equalIn, run_under hd]
theorem eq_ptr_nil {t e : TypeId} (hd : P.underlying t = some (.pointer e)) (c : Option Addr) : (Op.equal t (.pointer none) (.pointer c)).run P w = .ok c.isNone w := eqIn_ptr_nil hd c 9999
theorem eqIn_ptr_some {t e : TypeId} (hd : P.underlying t = some (.pointer e)) (c : Addr) (d : Nat) : (Op.equalIn (d + 1) t (.pointer (some c)) (.pointer none)).run P w = .ok false w := by
  simp [Op.equalIn, run_under hd]
theorem eq_ptr_some {t e : TypeId} (hd : P.underlying t = some (.pointer e)) (c : Addr) : (Op.equal t (.pointer (some c)) (.pointer none)).run P w = .ok false w := eqIn_ptr_some hd c 9999
theorem eqIn_slice_nil {t e : TypeId} (hd : P.underlying t = some (.slice e)) (n c n' c' : Nat) (x : Option Addr) (d : Nat) : (Op.equalIn (d + 1) t (.slice none n c) (.slice x n' c')).run P w = .ok x.isNone w := by
  simp [Op.equalIn, run_under hd]
theorem eq_slice_nil {t e : TypeId} (hd : P.underlying t = some (.slice e)) (n c n' c' : Nat) (x : Option Addr) : (Op.equal t (.slice none n c) (.slice x n' c')).run P w = .ok x.isNone w := eqIn_slice_nil hd n c n' c' x 9999
theorem eqIn_slice_some {t e : TypeId} (hd : P.underlying t = some (.slice e)) (n c n' c' : Nat) (x : Addr) (d : Nat) : (Op.equalIn (d + 1) t (.slice (some x) n c) (.slice none n' c')).run P w = .ok false w := by
  simp [Op.equalIn, run_under hd]
theorem eq_slice_some {t e : TypeId} (hd : P.underlying t = some (.slice e)) (n c n' c' : Nat) (x : Addr) : (Op.equal t (.slice (some x) n c) (.slice none n' c')).run P w = .ok false w := eqIn_slice_some hd n c n' c' x 9999

theorem run_binE {op : BinOp} {t : TypeId} {d : TypeDesc} {x y x' y' u : Value} (hd : P.underlying t = some d) (h : binE op d x y = some u) (hx : VR ρ x x') (hy : VR ρ y y') :
    (binOp op t x' y').run P w = .ok u w ∧ VR ρ u u ∧ (x' ≠ .nilIface ∨ y' ≠ .nilIface) ∧ (∀ c d, x' = .agg c → y' = .agg d → False) := by
  unfold binE at h
  split at h
  case h_4 => cases h
  case h_1 b c =>
    have e1 := VR.bool_inv hx
    have e2 := VR.bool_inv hy
    subst e1; subst e2
    split at h
    case h_3 => cases h
    all_goals
      simp only [Option.some.injEq] at h; subst h
      refine ⟨?_, .vb (.sc (by constructor)), .inl (by simp), by simp⟩
      simp [binOp, eq_bool hd]
  case h_2 e b c =>
    obtain ⟨b', rfl, hb⟩ := VR.pointer_form hx
    obtain ⟨c', rfl, hc⟩ := VR.pointer_form hy
    split at h
    case h_3 => cases h
    case h_1 =>
      cases b' with
      | some _ => cases hb
      | none =>
        split at h
        case h_3 => cases h
        all_goals
          simp only [Option.some.injEq] at h; subst h
          refine ⟨?_, .vb (.sc (by constructor)), .inl (by simp), by simp⟩
          simp [binOp, eq_ptr_nil hd, hc]
    case h_2 =>
      cases b' with
      | none => cases hb
      | some b' =>
        cases c' with
        | some _ => cases hc
        | none =>
          split at h
          case h_3 => cases h
          all_goals
            simp only [Option.some.injEq] at h; subst h
            refine ⟨?_, .vb (.sc (by constructor)), .inl (by simp), by simp⟩
            simp [binOp, eq_ptr_some hd]
  case h_3 e b n1 c1 c n2 c2 =>
    obtain ⟨b', _, rfl, hb⟩ := VR.slice_form hx
    obtain ⟨c', _, rfl, hc⟩ := VR.slice_form hy
    split at h
    case h_3 => cases h
    case h_1 =>
      cases b' with
      | some _ => cases hb
      | none =>
        split at h
        case h_3 => cases h
        all_goals
          simp only [Option.some.injEq] at h; subst h
          refine ⟨?_, .vb (.sc (by constructor)), .inl (by simp), by simp⟩
          simp [binOp, eq_slice_nil hd, hc]
    case h_2 =>
      cases b' with
      | none => cases hb
      | some b' =>
        cases c' with
        | some _ => cases hc
        | none =>
          split at h
          case h_3 => cases h
          all_goals
            simp only [Option.some.injEq] at h; subst h
            refine ⟨?_, .vb (.sc (by constructor)), .inl (by simp), by simp⟩
            simp [binOp, eq_slice_some hd]

theorem run_eqScal {t : TypeId} {u v u' v' : Value} {b : Bool} {d : Nat} (h : eqScal P t u v = some b) (hu : VR ρ u u') (hv : VR ρ v v') : (Op.equalIn (d + 1) t u' v').run P w = .ok b w := by
  unfold eqScal at h
  split at h
  case h_3 => cases h
  case h_1 k' k a l c ht =>
    split at h
    case isFalse => cases h
    rename_i hk
    subst hk
    simp only [Option.some.injEq] at h
    subst h
    have e1 := VR.int_inv hu
    have e2 := VR.int_inv hv
    subst e1; subst e2
    exact run_equalIn_int w d t k k' a c ht
  case h_2 a c ht =>
    simp only [Option.some.injEq] at h
    subst h
    have e1 := VR.bool_inv hu
    have e2 := VR.bool_inv hv
    subst e1; subst e2
    exact run_equalIn_bool' w d t a c ht

theorem run_eqItms {e : TypeId} {sz : Nat} {xs ys xs' ys' : List Value} {d : Nat} (hx : SRs ρ xs xs') (hy : SRs ρ ys ys') : ∀ {is : List Nat} {b : Bool}, eqItms P e sz xs ys is = some b → (Op.eqItems (d + 1) e sz ⟨xs'⟩ ⟨ys'⟩ is).run P w = .ok b w
  | [], b, h => by
    simp only [eqItms, Option.some.injEq] at h
    subst h
    rfl
  | i :: is, b, h => by
    unfold eqItms at h
    split at h
    case h_2 => cases h
    rename_i u v hu hv
    obtain ⟨u', h1, h2⟩ := run_part (P := P) (w := w) hu hx
    obtain ⟨v', h3, h4⟩ := run_part (P := P) (w := w) hv hy
    unfold Op.eqItems
    split at h
    case h_3 => cases h
    case h_1 he =>
      have h5 := run_eqScal (w := w) (d := d) he h2 h4
      simp only [Sem.run_bind, h1, Result.andThen_ok, h3, h5, Bool.not_true, Bool.false_eq_true, if_false]
      exact run_eqItms hx hy h
    case h_2 he =>
      have h5 := run_eqScal (w := w) (d := d) he h2 h4
      simp only [Option.some.injEq] at h
      subst h
      simp only [Sem.run_bind, h1, Result.andThen_ok, h3, h5, Bool.not_false, if_true, Sem.run_pure]

theorem run_eqPart {t : TypeId} {u v u' v' : Value} {b : Bool} {d : Nat} (h : eqPart P t u v = some b) (hu : VR ρ u u') (hv : VR ρ v v') : (Op.equalIn (d + 2) t u' v').run P w = .ok b w := by
  unfold eqPart at h
  split at h
  case h_2 => exact run_eqScal h hu hv
  case h_1 n e xs ys ht =>
    split at h
    case h_2 => cases h
    rename_i sz hsz
    obtain ⟨xs', e1, hxs⟩ := VR.agg_inv hu
    obtain ⟨ys', e2, hys⟩ := VR.agg_inv hv
    subst e1; subst e2
    have hsz' := hsz
    unfold szOf at hsz'
    cases hi : P.info? e with
    | none => rw [hi] at hsz'; cases hsz'
    | some i =>
      have hc : P.cellsOf e = sz := by
        unfold Program.cellsOf
        rw [hsz']
        rfl
      rw [run_equalIn_array w (d + 1) ⟨xs'⟩ ⟨ys'⟩ ht hi, hc]
      exact run_eqItms hxs hys h

theorem run_eqFlds {xs ys xs' ys' : List Value} {d : Nat} (hx : SRs ρ xs xs') (hy : SRs ρ ys ys') : ∀ {fs : List Field} {b : Bool}, eqFlds P xs ys fs = some b → (Op.eqFields (d + 2) ⟨xs'⟩ ⟨ys'⟩ fs).run P w = .ok b w
  | [], b, h => by
    simp only [eqFlds, Option.some.injEq] at h
    subst h
    rfl
  | f :: fs, b, h => by
    unfold eqFlds at h
    split at h
    case isTrue => cases h
    rename_i hn
    split at h
    case h_2 => cases h
    rename_i u v hu hv
    obtain ⟨u', h1, h2⟩ := run_part (P := P) (w := w) hu hx
    obtain ⟨v', h3, h4⟩ := run_part (P := P) (w := w) hv hy
    have hne : f.name ≠ "_" := hn
    unfold Op.eqFields
    rw [if_pos hne]
    split at h
    case h_3 => cases h
    case h_1 he =>
      have h5 := run_eqPart (w := w) (d := d) he h2 h4
      simp only [Sem.run_bind, h1, Result.andThen_ok, h3, h5, Bool.not_true, Bool.false_eq_true, if_false]
      exact run_eqFlds hx hy h
    case h_2 he =>
      have h5 := run_eqPart (w := w) (d := d) he h2 h4
      simp only [Option.some.injEq] at h
      subst h
      simp only [Sem.run_bind, h1, Result.andThen_ok, h3, h5, Bool.not_false, if_true, Sem.run_pure]

theorem sound_binOp {op : BinOp} {t t' : TypeId} {x y : Operand} (ho : o.op = .binOp op t x y t') (h : lift m (bin P op t (ev tm x) (ev tm y)) = some (v, m')) (ht : TR ρ tm a) (hr : Rel ρ m w) : Sound P o a w ρ m v m' := by
  obtain ⟨hl, rfl⟩ := lift_inj h
  have hx := ht.ev x
  have hy := ht.ev y
  suffices hs : (binOp op t (a.eval x) (a.eval y)).run P w = .ok v w ∧ VR ρ v v ∧ (eqGuard op t x y (a.eval x) (a.eval y)).run P w = .ok () w by
    refine .pure (v' := v) ?_ hr hs.2.1
    unfold execOp; simp only [ho]
    refine run_value ?_
    simp only [Sem.run_bind, hs.2.2, Result.andThen_ok, hs.1]
  unfold bin at hl
  split at hl
  case h_1 k b l c ex ey =>
    rw [ex] at hx; rw [ey] at hy
    have e1 := VR.int_inv hx
    have e2 := VR.int_inv hy
    rw [e1, e2]
    have hg : (eqGuard op t x y (.int k b) (.int l c)).run P w = .ok () w := run_eqGuard_not op t x y (.inl (by simp)) (by simp)
    cases hsh : isShift op with
    | true =>
      rw [hsh] at hl
      obtain ⟨h1, h2⟩ := run_shiftI (P := P) (w := w) (ρ := ρ) (l := l) t hl
      exact ⟨h1, h2, hg⟩
    | false =>
      rw [hsh] at hl
      simp only [cond_false] at hl
      split at hl
      · rename_i hk
        subst hk
        obtain ⟨h1, h2⟩ := run_binI (P := P) (w := w) (ρ := ρ) t hl hsh
        exact ⟨h1, h2, hg⟩
      · cases hl
  case h_2 b c ex ey =>
    rw [ex] at hx; rw [ey] at hy
    have e1 := VR.string_inv hx
    have e2 := VR.string_inv hy
    rw [e1, e2]
    have hg : (eqGuard op t x y (.string b) (.string c)).run P w = .ok () w := run_eqGuard_not op t x y (.inl (by simp)) (by simp)
    split at hl
    case h_3 => cases hl
    all_goals
      simp only [Option.some.injEq] at hl; subst hl
      refine ⟨?_, .vb (.sc (by constructor)), hg⟩
      first | (simp [binOp, Op.stringOp, ← beq_toListBytes]; done) | (simp [binOp, Op.stringOp, ← beq_toListBytes, bne])
  case h_3 xs ys ex ey =>
    rw [ex] at hx; rw [ey] at hy
    obtain ⟨xs', e1, hxs⟩ := VR.agg_inv hx
    obtain ⟨ys', e2, hys⟩ := VR.agg_inv hy
    rw [e1, e2]
    unfold eqAgg at hl
    split at hl
    case h_2 => cases hl
    rename_i fs hu
    cases hb : (P.stoodInHeld t || P.eqGuardType P.depth t) with
    | true => rw [hb] at hl; cases hl
    | false =>
      rw [hb] at hl
      simp only [cond_false] at hl
      obtain ⟨hb1, hb2⟩ := Bool.or_eq_false_iff.1 hb
      split at hl
      case h_2 => cases hl
      rename_i r hr'
      have hfs : P.fieldsOf t = fs := by simp [Program.fieldsOf, hu]
      have heq : (Op.equalIn 10000 t (.agg ⟨xs'⟩) (.agg ⟨ys'⟩)).run P w = .ok r w := by
        rw [run_equalIn_struct w 9999 t ⟨xs'⟩ ⟨ys'⟩ (by rw [hfs]; exact hu) hb1, hfs]
        exact run_eqFlds hxs hys hr'
      have hg : (eqGuard op t x y (.agg ⟨xs'⟩) (.agg ⟨ys'⟩)).run P w = .ok () w := run_eqGuard_agg w op t x y _ _ hb2
      split at hl
      case h_3 => cases hl
      case h_1 =>
        simp only [Option.some.injEq] at hl
        subst hl
        exact ⟨by rw [run_eql_struct, heq]; rfl, .vb (.sc (.bool _)), hg⟩
      case h_2 =>
        simp only [Option.some.injEq] at hl
        subst hl
        exact ⟨by rw [run_neq_struct, heq]; rfl, .vb (.sc (.bool _)), hg⟩
  case h_4 =>
    split at hl
    case h_2 => cases hl
    rename_i d hd
    obtain ⟨h1, h2, h3, h4⟩ := run_binE (w := w) hd hl hx hy
    exact ⟨h1, h2, run_eqGuard_not op t x y h3 h4⟩

theorem sound_unOp {op : UnOp} {t : TypeId} {x : Operand} (ho : o.op = .unOp op t x) (h : lift m (un op (ev tm x)) = some (v, m')) (ht : TR ρ tm a) (hr : Rel ρ m w) : Sound P o a w ρ m v m' := by
  obtain ⟨hl, rfl⟩ := lift_inj h
  have hx := ht.ev x
  unfold un at hl
  split at hl
  case h_4 => cases hl
  case h_1 b ex =>
    rw [ex] at hx
    have e := VR.bool_inv hx
    simp only [Option.some.injEq] at hl; subst hl
    refine .pure (v' := .bool !b) ?_ hr (.vb (.sc (.bool _)))
    unfold execOp; simp only [ho, e]
    exact run_value rfl
  all_goals
    rename_i ex
    rw [ex] at hx
    have e := VR.int_inv hx
    simp only [Option.some.injEq] at hl; subst hl
    refine .pure ?_ hr (.vb (.sc (.int _ _)))
    unfold execOp; simp only [ho, e]
    exact run_value rfl

end
end Go.Abs
