/- Operations that hold one cell or one block: what the interpreter makes of them is what the model's run does. Conditions: none. -/
import Derived.Test.YtleddgfdjaaelaaGreatAbsMem
namespace Go.Abs

theorem run_under {P : Program} {t : TypeId} {d : TypeDesc} (h : P.underlying t = some d) (w : World) : (underlying t).run P w = .ok d w := run_underlying h w
theorem run_size {P : Program} {t n : Nat} (h : szOf P t = some n) (w : World) : (sizeOf t).run P w = .ok n w := by
  unfold szOf at h
  cases e : P.info? t with
  | none => rw [e] at h; cases h
  | some i =>
    rw [e] at h
    simp only [Option.map_some, Option.some.injEq] at h
    subst h
    simp [sizeOf, typeInfo, e]
theorem run_isAgg {P : Program} {t : TypeId} {b : Bool} (h : aggT P t = some b) (w : World) : (isAgg t).run P w = .ok b w := by
  unfold aggT at h
  cases e : P.underlying t with
  | none => rw [e] at h; cases h
  | some d =>
    rw [e] at h
    simp only [Option.map_some, Option.some.injEq] at h
    subst h
    unfold isAgg
    simp only [Sem.run_bind, run_underlying e, Result.andThen_ok]
    cases d <;> rfl

/-- What the interpreter's temporaries stand for. -/
def TR (ρ : Pl) (tm : PM Value) (a : Act) : Prop := ∀ t, VR ρ ((tm.get t).getD junk) (a.tmps.getD t undef)

theorem TR.mono {ρ ρ' : Pl} (h : ρ.le ρ') {tm : PM Value} {a : Act} (ht : TR ρ tm a) : TR ρ' tm a := fun t => (ht t).mono h

theorem TR.ev {ρ : Pl} {tm : PM Value} {a : Act} (h : TR ρ tm a) (x : Operand) : VR ρ (ev tm x) (a.eval x) := by
  cases x with
  | tmp t => exact h t
  | const v => exact constV_VR ρ v
  | global g => exact .junk _
  | func f => exact .func .nil .nil

/-- What a step's operation does, said of whatever comes behind it. -/
def Sound (P : Program) (o : Oper) (a : Act) (w : World) (ρ : Pl) (m : Mem) (v : Value) (m' : Mem) : Prop :=
  ∀ (K : Act → World → Prop) (Q : Exit → Act → World → Prop), (∀ ρ' v' w', Rel ρ' m' w' → Ext ρ m w ρ' m' w' → VR ρ' v v' → K (a.put o.dst v') w') → o.wp P a w K Q

theorem Sound.value {P : Program} {o : Oper} {a : Act} {w w' : World} {ρ ρ' : Pl} {m m' : Mem} {v v' : Value} (h : (execOp a.eval o).run P w = .ok (.value v') w')
    (hr : Rel ρ' m' w') (he : Ext ρ m w ρ' m' w') (hv : VR ρ' v v') : Sound P o a w ρ m v m' := by
  intro K Q hk
  unfold Oper.wp
  rw [h]
  exact hk ρ' v' w' hr he hv

theorem Sound.skip {P : Program} {o : Oper} {a : Act} {w w' : World} {ρ ρ' : Pl} {m m' : Mem} (h : (execOp a.eval o).run P w = .ok .skip w')
    (hr : Rel ρ' m' w') (he : Ext ρ m w ρ' m' w') : Sound P o a w ρ m (.tuple #[]) m' := by
  intro K Q hk
  unfold Oper.wp
  rw [h]
  exact hk ρ' undef w' hr he (.tuple .nil)

theorem Sound.pure {P : Program} {o : Oper} {a : Act} {w : World} {ρ : Pl} {m : Mem} {v v' : Value} (h : (execOp a.eval o).run P w = .ok (.value v') w)
    (hr : Rel ρ m w) (hv : VR ρ v v') : Sound P o a w ρ m v m := .value h hr (.refl _ _ _) hv

/-- A step that looks alone. -/
def ReadOk (P : Program) (o : Oper) (a : Act) (w : World) (ρ : Pl) (m : Mem) (v : Value) (m' : Mem) : Prop := m' = m ∧ ∃ v', (execOp a.eval o).run P w = .ok (.value v') w ∧ VR ρ v v'

theorem ReadOk.pure {P : Program} {o : Oper} {a : Act} {w : World} {ρ : Pl} {m : Mem} {v v' : Value} (h : (execOp a.eval o).run P w = .ok (.value v') w)
    (_ : Rel ρ m w) (hv : VR ρ v v') : ReadOk P o a w ρ m v m := ⟨rfl, v', h, hv⟩

theorem ReadOk.sound {P : Program} {o : Oper} {a : Act} {w : World} {ρ : Pl} {m m' : Mem} {v : Value} (h : ReadOk P o a w ρ m v m') (hr : Rel ρ m w) : Sound P o a w ρ m v m' := by
  obtain ⟨rfl, v', h, hv⟩ := h
  exact .pure h hr hv

theorem run_value {P : Program} {s : Sem Value} {v : Value} {w w' : World} (h : s.run P w = .ok v w') : (do pure (Next.value (← s)) : Sem Next).run P w = .ok (.value v) w' := by
  simp [h]
theorem run_skip {P : Program} {s : Sem Unit} {w w' : World} (h : s.run P w = .ok () w') : (do s; pure Next.skip : Sem Next).run P w = .ok .skip w' := by
  simp [h]

theorem mk_inj {v v' : Value} {m m' : Mem} (h : mk v m = some (v', m')) : v = v' ∧ m = m' := by
  unfold mk at h
  simp only [Option.some.injEq, Prod.mk.injEq] at h
  exact h
theorem lift_inj {v' : Value} {m m' : Mem} {o : Option Value} (h : lift m o = some (v', m')) : o = some v' ∧ m = m' := by
  unfold lift at h
  cases o with
  | none => cases h
  | some v => simp only [Option.some.injEq, Prod.mk.injEq] at h; exact ⟨by rw [h.1], h.2⟩

section
variable {P : Program} {o : Oper} {a : Act} {w : World} {ρ : Pl} {tm : PM Value} {m m' : Mem} {v : Value}

theorem sound_move {x : Operand} (ho : o.op = .move x ∨ o.op = .assign x) (h : mk (ev tm x) m = some (v, m')) (ht : TR ρ tm a) (hr : Rel ρ m w) : Sound P o a w ρ m v m' := by
  obtain ⟨rfl, rfl⟩ := mk_inj h
  refine .pure (v' := a.eval x) ?_ hr (ht.ev x)
  rcases ho with ho | ho <;> (unfold execOp; simp only [ho]; rfl)

theorem VR.bool_inv {b : Bool} {v' : Value} (h : VR ρ (.bool b) v') : v' = .bool b := by
  cases h with
  | vb h => cases h with
    | sc h => cases h; rfl
theorem VR.int_inv {k : IntKind} {n : Int} {v' : Value} (h : VR ρ (.int k n) v') : v' = .int k n := by
  cases h with
  | vb h => cases h with
    | sc h => cases h; rfl
theorem VR.string_inv {s : ByteArray} {v' : Value} (h : VR ρ (.string s) v') : v' = .string s := by
  cases h with
  | vb h => cases h with
    | sc h => cases h; rfl
theorem VR.nilptr_inv {v' : Value} (h : VR ρ (.pointer none) v') : v' = .pointer none := by
  cases h with
  | vb h => cases h with
    | sc h => cases h; rfl
theorem VR.nilmap_inv {v' : Value} (h : VR ρ (.map none) v') : v' = .map none := by
  cases h with
  | vb h => cases h with
    | sc h => cases h; rfl
theorem VR.ptr_inv {x : Addr} {v' : Value} (h : VR ρ (.pointer (some x)) v') : ∃ p, ρ x.block = some p ∧ x.spot = none ∧ v' = .pointer (some ⟨p.b, p.d + x.off, none⟩) := by
  cases h with
  | vb h => cases h with
    | sc h => cases h with
      | ptr h => exact ⟨_, h, rfl, rfl⟩
theorem VR.nilslice_inv {n c : Nat} {v' : Value} (h : VR ρ (.slice none n c) v') : v' = .slice none 0 0 ∧ n = 0 ∧ c = 0 := by
  cases h with
  | vb h => cases h with
    | sc h => cases h; exact ⟨rfl, rfl, rfl⟩
theorem VR.slice_inv {x : Addr} {n c : Nat} {v' : Value} (h : VR ρ (.slice (some x) n c) v') :
    (∃ p c', ρ x.block = some p ∧ x.spot = none ∧ v' = .slice (some ⟨p.b, p.d + x.off, none⟩) n c' ∧ (c' = c ∨ (x.off + c * p.sz = p.n ∧ c' = c + p.spare))) ∨
    (n = 0 ∧ c = 0 ∧ ∃ y, v' = .slice (some y) 0 0) := by
  cases h with
  | vb h => cases h with
    | sc h => cases h with
      | slice h hc => exact .inl ⟨_, _, h, rfl, rfl, hc⟩
      | slice0 => exact .inr ⟨rfl, rfl, _, rfl⟩
theorem VR.map_inv {r : Nat} {v' : Value} (h : VR ρ (.map (some r)) v') : ∃ p, ρ r = some p ∧ v' = .map (some p.b) := by
  cases h with
  | vb h => cases h with
    | sc h => cases h with
      | map h => exact ⟨_, h, rfl⟩
theorem VR.agg_inv {cs : List Value} {v' : Value} (h : VR ρ (.agg ⟨cs⟩) v') : ∃ cs', v' = .agg ⟨cs'⟩ ∧ SRs ρ cs cs' := by
  cases h with
  | vb h => cases h with
    | sc h => cases h
    | agg h => exact ⟨_, rfl, h⟩
theorem VR.tuple_inv {vs : Array Value} {v' : Value} (h : VR ρ (.tuple vs) v') : ∃ vs', v' = .tuple ⟨vs'⟩ ∧ VBs ρ vs.toList vs' := by
  cases h with
  | vb h => cases h with
    | sc h => cases h
  | tuple h => exact ⟨_, rfl, h⟩
theorem VR.func_inv {fn : Fn} {x y : Array Value} {v' : Value} (h : VR ρ (.func fn x y) v') : ∃ x' y', v' = .func fn ⟨x'⟩ ⟨y'⟩ ∧ VBs ρ x.toList x' ∧ VBs ρ y.toList y' := by
  cases h with
  | vb h => cases h with
    | sc h => cases h
  | func h h' => exact ⟨_, _, rfl, h, h'⟩

theorem sound_pick {c x y : Operand} (ho : o.op = .pick c x y) (h : (match ev tm c with | .bool t => mk (cond t (ev tm x) (ev tm y)) m | _ => none) = some (v, m')) (ht : TR ρ tm a) (hr : Rel ρ m w) : Sound P o a w ρ m v m' := by
  split at h
  · rename_i t hc
    obtain ⟨rfl, rfl⟩ := mk_inj h
    have hcv := ht.ev c
    rw [hc] at hcv
    have := VR.bool_inv hcv
    refine .pure (v' := if t then a.eval x else a.eval y) ?_ hr ?_
    · unfold execOp; simp only [ho, this]; simp [asBool]
    · cases t
      · exact ht.ev y
      · exact ht.ev x
  · cases h

theorem sound_nilCheck {x : Operand} (ho : o.op = .nilCheck x) (h : (match ev tm x with | .pointer (some a) => mk (.pointer (some a)) m | _ => none) = some (v, m')) (ht : TR ρ tm a) (hr : Rel ρ m w) : Sound P o a w ρ m v m' := by
  split at h
  · rename_i y hx
    obtain ⟨rfl, rfl⟩ := mk_inj h
    have hv := ht.ev x
    rw [hx] at hv
    obtain ⟨p, hp, hsp, he⟩ := VR.ptr_inv hv
    refine .pure (v' := a.eval x) ?_ hr hv
    unfold execOp; simp only [ho, he]; rfl
  · cases h

theorem addr_add (b off n : Nat) : (⟨b, off, none⟩ : Addr).add n = ⟨b, off + n, none⟩ := by
  unfold Addr.add
  split
  · rename_i h; subst h; rfl
  · rfl

theorem read_load {t : TypeId} {x : Operand} (ho : o.op = .load t x) (h : loadOp P m t (ev tm x) = some (v, m')) (ht : TR ρ tm a) (hr : Rel ρ m w) : ReadOk P o a w ρ m v m' := by
  unfold loadOp at h
  split at h
  case h_2 => cases h
  rename_i g off hx
  obtain ⟨hl, rfl⟩ := lift_inj h
  have hv := ht.ev x
  rw [hx] at hv
  obtain ⟨p, hp, _, he⟩ := VR.ptr_inv hv
  simp only at hp he
  unfold loadT at hl
  split at hl
  case h_3 => cases hl
  case h_1 ha =>
    split at hl
    case h_2 => cases hl
    rename_i n hs
    split at hl
    case h_2 => cases hl
    rename_i cs hrd
    simp only [Option.some.injEq] at hl
    subst hl
    obtain ⟨q, r', hq, hsr, hlen, hcell⟩ := hr.rd hrd
    rw [hp] at hq
    cases hq
    refine .pure (v' := .agg ⟨r'⟩) ?_ hr (.vb (.agg hsr))
    unfold execOp; simp only [ho, he]
    refine run_value ?_
    have hc := run_loadCells_list (P := P) w ⟨p.b, p.d + off, none⟩ r' (fun j u hj => by rw [addr_add]; exact hcell j u hj)
    simp only [Instr.loadAt, Instr.sureAddr, loadVar, Sem.run_bind, Sem.run_pure, Result.andThen_ok, run_isAgg ha, if_true, run_size hs]
    rw [← hlen, hc]
    rfl
  case h_2 ha =>
    split at hl
    case h_2 => cases hl
    rename_i c hrd
    simp only [Option.some.injEq] at hl
    subst hl
    obtain ⟨q, r', hq, hsr, hlen, hcell⟩ := hr.rd hrd
    rw [hp] at hq
    cases hq
    cases hsr with
    | cons hs1 hnil =>
      cases hnil
      rename_i c'
      have := hcell 0 c' rfl
      refine .pure (v' := c') ?_ hr (.vb (.sc hs1))
      unfold execOp; simp only [ho, he]
      refine run_value ?_
      simp only [Nat.add_zero] at this
      simp [Instr.loadAt, Instr.sureAddr, loadVar, Sem.run_bind, run_isAgg ha, this]

theorem sound_load {t : TypeId} {x : Operand} (ho : o.op = .load t x) (h : loadOp P m t (ev tm x) = some (v, m')) (ht : TR ρ tm a) (hr : Rel ρ m w) : Sound P o a w ρ m v m' := (read_load ho h ht hr).sound hr

theorem sound_store {t : TypeId} {x y : Operand} (ho : o.op = .store t x y) (h : storeOp P m t (ev tm x) (ev tm y) = some (v, m')) (ht : TR ρ tm a) (hr : Rel ρ m w) : Sound P o a w ρ m v m' := by
  unfold storeOp at h
  split at h
  case h_2 => cases h
  rename_i g off cs sz hx hcs hsz
  cases hb : Nat.beq cs.length sz with
  | false => rw [hb] at h; cases h
  | true =>
    rw [hb] at h
    have hlen : cs.length = sz := Nat.eq_of_beq_eq_true hb
    simp only [cond_true] at h
    split at h
    case h_2 => cases h
    rename_i m₁ hw
    obtain ⟨rfl, rfl⟩ := mk_inj h
    have hv := ht.ev x
    rw [hx] at hv
    obtain ⟨p, hp, _, he⟩ := VR.ptr_inv hv
    simp only at hp he
    obtain ⟨_, cs', hc', hs⟩ := cellsOf_VR (ht.ev y) hcs
    obtain ⟨q, hq, hr', hext, hthere, hthaw⟩ := hr.wr hw hs
    rw [hp] at hq
    cases hq
    refine .skip ?_ hr' hext
    unfold execOp; simp only [ho, he]
    refine run_skip ?_
    have hst := run_storeCells_cells (P := P) p.b (p.d + off) cs' 0 w (fun j hj => by simpa using hthere j hj) (fun j hj => by simpa using hthaw j hj) hs.one
    have hl2 : cs'.length = sz := by rw [← hs.length]; exact hlen
    simp only [Instr.storeAt, Instr.sureAddr, storeVar, Sem.run_bind, Sem.run_pure, Result.andThen_ok, run_size hsz, hc']
    simp [hl2] at *
    simpa using hst

theorem zeroCs_spec {t : TypeId} {cs : List Value} (h : zeroCs P t = some cs) : ∃ i z, P.info? t = some i ∧ i.zero = some z ∧ z.cells = ⟨cs⟩ ∧ allPlain cs = true ∧ cs.length = i.size := by
  unfold zeroCs at h
  split at h
  case h_2 => cases h
  rename_i i hi
  split at h
  case h_2 => cases h
  rename_i z hz
  split at h
  case h_2 => cases h
  rename_i c hc
  cases hb : allPlain c && Nat.beq c.length i.size with
  | false => rw [hb] at h; cases h
  | true =>
    rw [hb] at h
    simp only [cond_true, Option.some.injEq] at h
    subst h
    simp only [Bool.and_eq_true] at hb
    refine ⟨i, z, hi, hz, ?_, hb.1, Nat.eq_of_beq_eq_true hb.2⟩
    unfold cellsOf at hc
    split at hc <;> first | (simp only [Option.some.injEq] at hc; subst hc; rfl) | cases hc

theorem run_zero {t : TypeId} {i : TypeInfo} {z : Value} (hi : P.info? t = some i) (hz : i.zero = some z) (w : World) : (zeroValue t).run P w = .ok z w := by
  simp [zeroValue, typeInfo, hi, hz]

theorem sound_alloc {t : TypeId} (ho : o.op = .alloc t) (h : allocOp P m t = some (v, m')) (hr : Rel ρ m w) : Sound P o a w ρ m v m' := by
  unfold allocOp at h
  split at h
  case h_2 => cases h
  rename_i cs sz hz hsz
  obtain ⟨rfl, rfl⟩ := mk_inj h
  obtain ⟨i, z, hi, hzz, hcs, hpl, hlen⟩ := zeroCs_spec hz
  obtain ⟨hr', hext⟩ := hr.push cs cs [] .exact sz 0 t (allPlain_SR ρ hpl) (by simp) (fun _ => rfl)
  refine .value (v' := .pointer (some ⟨w.heap.size, 0, none⟩)) ?_ hr' hext ?_
  · unfold execOp; simp only [ho]
    refine run_value ?_
    simp [Instr.alloc, Sem.run_bind, run_zero hi hzz, newVar, newRow, hcs]
  · exact .vb (.sc (.ptr (p := ⟨w.heap.size, 0, cs.length, sz, 0⟩) (Pl.put_same _ _ _)))

theorem sound_box {t : TypeId} {x : Operand} (ho : o.op = .box t x) (h : boxOp P m t (ev tm x) = some (v, m')) (ht : TR ρ tm a) (hr : Rel ρ m w) : Sound P o a w ρ m v m' := by
  unfold boxOp at h
  split at h
  case h_2 => cases h
  rename_i cs sz hc hsz
  obtain ⟨rfl, rfl⟩ := mk_inj h
  obtain ⟨_, cs', hc', hs⟩ := cellsOf_VR (ht.ev x) hc
  obtain ⟨hr', hext⟩ := hr.push cs cs' [] .exact sz 0 t hs (by simp) (fun _ => rfl)
  refine .value (v' := .pointer (some ⟨w.heap.size, 0, none⟩)) ?_ hr' hext ?_
  · unfold execOp; simp only [ho]
    refine run_value ?_
    simp [Instr.box, newVar, newRow, hc']
  · exact .vb (.sc (.ptr (p := ⟨w.heap.size, 0, cs.length, sz, 0⟩) (Pl.put_same _ _ _)))

theorem sound_makeMap {t : TypeId} (ho : o.op = .makeMap t none) (h : mk (.map (some m.next)) (m.push (.map [] 0)) = some (v, m')) (hr : Rel ρ m w) : Sound P o a w ρ m v m' := by
  obtain ⟨rfl, rfl⟩ := mk_inj h
  obtain ⟨hr', hext⟩ := hr.pushMap
  refine .value (v' := .map (some w.heap.size)) ?_ hr' hext ?_
  · unfold execOp; simp only [ho]
    refine run_value ?_
    simp [Instr.makeMap]
  · exact .vb (.sc (.map (p := ⟨w.heap.size, 0, 1, 1, 0⟩) (Pl.put_same _ _ _)))

end
end Go.Abs
