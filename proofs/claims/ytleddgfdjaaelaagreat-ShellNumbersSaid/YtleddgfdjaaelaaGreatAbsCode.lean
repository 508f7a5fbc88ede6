/- Whole functions: the interpreter's run of a body, and that the model's run does the same. Conditions: what a region does is given by RegOk, and the program's functions by Funs. -/
import Derived.Test.YtleddgfdjaaelaaGreatAbsStep
import Derived.Tactics
import Derived.Laws.Sem
namespace Go.Abs

inductive Ex where
  | normal
  | exit (id : Nat)
  | ret

inductive Out where
  | bad
  | mk (e : Ex) (tm : PM Value) (m : Mem)

abbrev RegF := Array Oper → Bool → PM Value → Mem → Option (PM Value × Mem)

def Out.andThen (o : Out) (k : PM Value → Mem → Out) : Out :=
  match o with
  | .bad => .bad
  | .mk e tm m => (match e with
    | .normal => k tm m
    | .exit id => .mk (.exit id) tm m
    | .ret => .mk .ret tm m)

def Out.inBlock (o : Out) (id : Nat) : Out :=
  match o with
  | .bad => .bad
  | .mk e tm m => (match e with
    | .normal => .mk .normal tm m
    | .exit id' => cond (Nat.beq id' id) (.mk .normal tm m) (.mk (.exit id') tm m)
    | .ret => .mk .ret tm m)

noncomputable def loopN (x : PM Value → Mem → Out) (F : Nat) : PM Value → Mem → Out :=
  Nat.rec (motive := fun _ => PM Value → Mem → Out) (fun _ _ => .bad) (fun _ ih tm m => (x tm m).andThen ih) F

noncomputable def body (rg : RegF) (F : Nat) (c : Code) : PM Value → Mem → Out :=
  Code.rec (motive := fun _ => PM Value → Mem → Out)
    (fun tm m => .mk .normal tm m)
    (fun _ ops d tm m => match rg ops d tm m with
      | some (tm', m') => .mk .normal tm' m'
      | none => .bad)
    (fun _ _ x y tm m => (x tm m).andThen y)
    (fun c _ _ x y tm m => match ev tm c with
      | .bool b => cond b (x tm m) (y tm m)
      | _ => .bad)
    (fun id _ x tm m => (x tm m).inBlock id)
    (fun _ x tm m => loopN x F tm m)
    (fun _ _ _ _ _ _ _ _ => .bad)
    (fun id tm m => .mk (.exit id) tm m)
    (fun _ _ _ _ => .bad)
    (fun _ _ _ => .bad)
    (fun _ _ _ => .bad)
    (fun tm m => .mk .ret tm m)
    (fun _ _ _ => .bad)
    c

def eqB (b want : Bool) : Bool := cond want b (cond b false true)

/-- What stands where an operation was not wanted. -/
def skp : Value := .tuple ⟨[]⟩
theorem skp_VR (ρ : Pl) : VR ρ skp undef := .tuple .nil

noncomputable def guardB (ops : Array Oper) (tm : PM Value) (o : Oper) : Option Bool :=
  match o.guard with
  | none => some true
  | some (j, want) => (match (ops[j]?).bind (·.dst) with
    | some t => (match tm.get t with
      | some (.bool b) => some (eqB b want)
      | some (.tuple ⟨[]⟩) => some false
      | _ => none)
    | none => none)

noncomputable def putT (N : Nat) (tm : PM Value) (d : Option Tmp) (v : Value) : Option (PM Value) :=
  match d with
  | none => some tm
  | some d => cond (Nat.blt d N) (some (tm.set d v)) none

noncomputable def runOps (P : Program) (call : CallF) (N : Nat) (ops : Array Oper) (l : List Oper) : PM Value → Mem → Option (PM Value × Mem) :=
  List.rec (motive := fun _ => PM Value → Mem → Option (PM Value × Mem)) (fun tm m => some (tm, m))
    (fun o _ ih tm m => match guardB ops tm o with
      | none => none
      | some b => cond b
        (match stepOp P call tm m o.op with
          | none => none
          | some (v, m') => (match putT N tm o.dst v with
            | none => none
            | some tm' => ih tm' m'))
        (match putT N tm o.dst skp with
          | none => none
          | some tm' => ih tm' m)) l

noncomputable def tmsOf : Nat → List Value → PM Value → PM Value
  | _, [], t => t
  | i, v :: r, t => tmsOf (i + 1) r (t.set i v)

noncomputable def res1 (P : Program) (tm : PM Value) (m : Mem) : ResultVar → Option Value
  | .tmp t => tm.get t
  | .cell a t => (match tm.get a with
    | some (.pointer (some ⟨g, off, none⟩)) => loadT P m t g off
    | _ => none)

noncomputable def resL (P : Program) (tm : PM Value) (m : Mem) : List ResultVar → Option (List Value)
  | [] => some []
  | r :: rs => (match res1 P tm m r with
    | some v => (match resL P tm m rs with
      | some vs => some (v :: vs)
      | none => none)
    | none => none)

noncomputable def resOf (P : Program) (tm : PM Value) (m : Mem) (rs : List ResultVar) : Res :=
  match resL P tm m rs with
  | some [v] => mk v m
  | some vs => cond (allVB vs) (mk (.tuple ⟨vs⟩) m) none
  | none => none

noncomputable def enter (P : Program) (rg : Nat → RegF) (F : Nat) (fns : PM Func) (f : FuncId) (as : List Value) (m : Mem) : Res :=
  match fns.get f with
  | none => none
  | some fn => (match fn.body with
    | none => none
    | some c => cond (Nat.ble as.length fn.ntmps)
      (match body (rg fn.ntmps) F c (tmsOf 0 as .nil) m with
        | .mk .normal tm m' => resOf P tm m' fn.results.toList
        | .mk .ret tm m' => resOf P tm m' fn.results.toList
        | _ => none)
      none)

section
variable {P : Program}

structure St (ρ : Pl) (tm : PM Value) (m : Mem) (N : Nat) (a : Act) (w : World) : Prop where
  tr : TR ρ tm a
  rel : Rel ρ m w
  size : a.tmps.size = N
  defers : a.defers = []

def RegOk (P : Program) (N : Nat) (rg : RegF) : Prop :=
  ∀ id ops d tm m tm' m', rg ops d tm m = some (tm', m') → ∀ ρ a w (Q : Exit → Act → World → Prop), St ρ tm m N a w →
    (∀ ρ' a' w', St ρ' tm' m' N a' w' → Ext ρ m w ρ' m' w' → Q .normal a' w') → (Code.region id ops d).wp P Q a w

theorem TR.put {ρ : Pl} {tm : PM Value} {a : Act} {d : Nat} {v v' : Value} (ht : TR ρ tm a) (hv : VR ρ v v') (hd : d < a.tmps.size) : TR ρ (tm.set d v) (a.put (some d) v') := by
  intro t
  show VR ρ (((tm.set d v).get t).getD junk) ((a.tmps.setIfInBounds d v').getD t undef)
  rw [PM.get_set]
  by_cases e : t = d
  · subst e
    rw [if_pos rfl]
    have : (a.tmps.setIfInBounds t v').getD t undef = v' := by simp [Array.getD_eq_getD_getElem?, hd]
    rw [this]
    exact hv
  · rw [if_neg e]
    have : (a.tmps.setIfInBounds d v').getD t undef = a.tmps.getD t undef := by
      simp [Array.getD_eq_getD_getElem?, Array.getElem?_setIfInBounds_ne (Ne.symm e)]
    rw [this]
    exact ht t

theorem St.put {ρ : Pl} {tm tm' : PM Value} {m : Mem} {N : Nat} {a : Act} {w : World} {d : Option Tmp} {v v' : Value} (h : St ρ tm m N a w) (hp : putT N tm d v = some tm') (hv : VR ρ v v') : St ρ tm' m N (a.put d v') w := by
  unfold putT at hp
  split at hp
  · simp only [Option.some.injEq] at hp; subst hp; exact h
  · rename_i d
    cases hb : Nat.blt d N with
    | false => rw [hb] at hp; cases hp
    | true =>
      rw [hb] at hp
      simp only [cond_true, Option.some.injEq] at hp
      subst hp
      have hd : d < a.tmps.size := by rw [h.size]; exact Nat.le_of_ble_eq_true hb
      exact ⟨h.tr.put hv hd, h.rel, by simp [Act.put, h.size], h.defers⟩

theorem guard_wanted {ρ : Pl} {tm : PM Value} {a : Act} {ops : Array Oper} {o : Oper} {b : Bool} (ht : TR ρ tm a) (h : guardB ops tm o = some b) : Region.wanted o (yielded ops a.tmps) = b := by
  unfold guardB at h
  unfold Region.wanted
  split at h
  · rename_i hg; rw [hg]; simpa using h
  · rename_i j want hg
    rw [hg]
    simp only
    split at h
    case h_2 => cases h
    rename_i t hd
    split at h
    case h_3 => cases h
    case h_2 hc =>
      simp only [Option.some.injEq] at h
      subst h
      have hv := ht t
      rw [hc] at hv
      have e0 : ∀ z, VR ρ (.tuple ⟨[]⟩) z → z = .tuple ⟨[]⟩ := fun z hz => by
        cases hz with
        | vb h => cases h with | sc h => cases h
        | tuple h => cases h; rfl
      have e := e0 _ hv
      have : yielded ops a.tmps j = none := by
        unfold yielded
        rw [hd]
        simp only [Option.bind_some]
        rw [Array.getD_eq_getD_getElem?] at e
        cases h' : a.tmps[t]? with
        | none => rfl
        | some u => rw [h'] at e; simp only [Option.getD_some] at e; rw [e]
      rw [this]
      rfl
    rename_i c hc
    simp only [Option.some.injEq] at h
    subst h
    have hv := ht t
    rw [hc] at hv
    have e := VR.bool_inv hv
    have e' : a.tmps[t]? = some (.bool c) := by
      rw [Array.getD_eq_getD_getElem?] at e
      cases h' : a.tmps[t]? with
      | none => rw [h'] at e; cases e
      | some u => rw [h'] at e; exact congrArg some e
    have : yielded ops a.tmps j = some c := by
      unfold yielded
      rw [hd]
      simp only [Option.bind_some, e']
    rw [this]
    cases c <;> cases want <;> rfl

theorem sound_ops {call : CallF} (hcall : CallOk P call) {N : Nat} {ops : Array Oper} {Q : Exit → Act → World → Prop} : ∀ (l : List Oper) (tm : PM Value) (m : Mem) {tm' : PM Value} {m' : Mem} {ρ : Pl} {a : Act} {w : World}, runOps P call N ops l tm m = some (tm', m') → St ρ tm m N a w →
    (∀ ρ' a' w', St ρ' tm' m' N a' w' → Ext ρ m w ρ' m' w' → Q .normal a' w') → wpList P ops Q l a w := by
  intro l
  induction l with
  | nil =>
    intro tm m tm' m' ρ a w h hs hQ
    have h' : some (tm, m) = some (tm', m') := h
    simp only [Option.some.injEq, Prod.mk.injEq] at h'
    obtain ⟨rfl, rfl⟩ := h'
    exact hQ ρ a w hs (.refl _ _ _)
  | cons o l ih =>
    intro tm m tm' m' ρ a w h hs hQ
    have h' : (match guardB ops tm o with
      | none => none
      | some b => cond b
        (match stepOp P call tm m o.op with
          | none => none
          | some (v, m') => (match putT N tm o.dst v with
            | none => none
            | some tm' => runOps P call N ops l tm' m'))
        (match putT N tm o.dst skp with
          | none => none
          | some tm' => runOps P call N ops l tm' m)) = some (tm', m') := h
    clear h
    split at h'
    case h_1 => cases h'
    rename_i b hg
    unfold wpList
    rw [guard_wanted hs.tr hg]
    cases b with
    | true =>
      simp only [cond_true, if_true] at h' ⊢
      split at h'
      case h_1 => cases h'
      rename_i v m₁ hstep
      split at h'
      case h_1 => cases h'
      rename_i tm₁ hput
      refine .inl (sound_step hcall hstep hs.tr hs.rel _ _ ?_)
      intro ρ₁ v' w₁ hr₁ hx₁ hv₁
      have hs₁ : St ρ₁ tm m₁ N a w₁ := ⟨hs.tr.mono hx₁.le, hr₁, hs.size, hs.defers⟩
      exact ih tm₁ m₁ h' (hs₁.put hput hv₁) (fun ρ' a' w' hs' hx' => hQ ρ' a' w' hs' (hx₁.trans hx'))
    | false =>
      simp only [cond_false, Bool.false_eq_true, if_false] at h' ⊢
      split at h'
      case h_1 => cases h'
      rename_i tm₁ hput
      exact ih tm₁ m h' (hs.put hput (skp_VR _)) hQ

def exOf : Ex → Exit
  | .normal => .normal
  | .exit id => .exit id
  | .ret => .ret

theorem wp_loop_fuel {c : Code} {Q : Exit → Act → World → Prop} (G : Nat → Act → World → Prop) (h0 : ∀ a w, ¬ G 0 a w) (round : ∀ n a w, G (n + 1) a w → c.wp P (Exit.then (G n) Q) a w) :
    ∀ n a w, G n a w → (Code.loop c).wp P Q a w := by
  have key : ∀ n a w, G n a w → ∀ (b : Frame) (k : List Item) (cs : List Frame), ∃ e a' w', Q e a' w' ∧ Arrives P (lone (b.at a (.code c :: .inLoop c :: k)) cs w) b k cs e a' w' := by
    intro n
    induction n with
    | zero => exact fun a w h => absurd h (h0 a w)
    | succ n ih =>
      intro a w h b k cs
      obtain ⟨e, a₁, w₁, hq, har⟩ := round n a w h b (.inLoop c :: k) cs
      have out : ∀ e', e' ≠ .normal → e = e' → ∃ e a' w', Q e a' w' ∧ Arrives P (lone (b.at a (.code c :: .inLoop c :: k)) cs w) b k cs e a' w' := by
        rintro e' hne rfl
        refine ⟨e, a₁, w₁, ?_, .pass (x := .inLoop c) rfl (fun _ _ => .inl hne) har⟩
        cases e <;> first | exact absurd rfl hne | exact hq
      by_cases hn : e = .normal
      · subst hn
        obtain ⟨e₂, a₂, w₂, hq₂, har₂⟩ := ih a₁ w₁ hq b k cs
        exact ⟨e₂, a₂, w₂, hq₂, .of_steps (Steps.trans har (.one step_inLoop)) har₂⟩
      · exact out e hn rfl
  intro n a w h b k cs
  obtain ⟨e, a', w', hq, har⟩ := key n a w h b k cs
  exact ⟨e, a', w', hq, .of_steps (.one step_loop) har⟩

/-- What the interpreter's run of a piece of code says of the model's. -/
def Sees (P : Program) (c : Code) (N : Nat) (x : PM Value → Mem → Out) : Prop :=
  ∀ tm m e tm' m', x tm m = .mk e tm' m' → ∀ ρ a w (Q : Exit → Act → World → Prop), St ρ tm m N a w →
    (∀ ρ' a' w', St ρ' tm' m' N a' w' → Ext ρ m w ρ' m' w' → Q (exOf e) a' w') → c.wp P Q a w

theorem sees_loop {c : Code} {N : Nat} {x : PM Value → Mem → Out} (hx : Sees P c N x) (F : Nat) : Sees P (.loop c) N (loopN x F) := by
  intro tm m e tm' m' h ρ a w Q hs hQ
  refine wp_loop_fuel (fun n a₁ w₁ => ∃ ρ₁ tm₁ m₁, St ρ₁ tm₁ m₁ N a₁ w₁ ∧ Ext ρ m w ρ₁ m₁ w₁ ∧ loopN x n tm₁ m₁ = .mk e tm' m') ?_ ?_ F a w ⟨ρ, tm, m, hs, .refl _ _ _, h⟩
  · rintro a₁ w₁ ⟨ρ₁, tm₁, m₁, _, _, h₁⟩
    cases h₁
  · rintro n a₁ w₁ ⟨ρ₁, tm₁, m₁, hs₁, hx₁, h₁⟩
    have h₁' : (x tm₁ m₁).andThen (loopN x n) = .mk e tm' m' := h₁
    cases hb : x tm₁ m₁ with
    | bad => rw [hb] at h₁'; cases h₁'
    | mk e₂ tm₂ m₂ =>
      rw [hb] at h₁'
      refine hx tm₁ m₁ e₂ tm₂ m₂ hb ρ₁ a₁ w₁ _ hs₁ (fun ρ₂ a₂ w₂ hs₂ hx₂ => ?_)
      cases e₂ with
      | normal => exact ⟨ρ₂, tm₂, m₂, hs₂, hx₁.trans hx₂, h₁'⟩
      | exit id =>
        simp only [Out.andThen, Out.mk.injEq] at h₁'
        obtain ⟨rfl, rfl, rfl⟩ := h₁'
        exact hQ ρ₂ a₂ w₂ hs₂ (hx₁.trans hx₂)
      | ret =>
        simp only [Out.andThen, Out.mk.injEq] at h₁'
        obtain ⟨rfl, rfl, rfl⟩ := h₁'
        exact hQ ρ₂ a₂ w₂ hs₂ (hx₁.trans hx₂)

theorem sound_body {N F : Nat} {rg : RegF} (hrg : RegOk P N rg) : ∀ c : Code, Sees P c N (body rg F c) := by
  intro c
  induction c with
  | skip =>
    intro tm m e tm' m' h ρ a w Q hs hQ
    have h' : Out.mk .normal tm m = .mk e tm' m' := h
    simp only [Out.mk.injEq] at h'
    obtain ⟨rfl, rfl, rfl⟩ := h'
    exact wp_skip (hQ ρ a w hs (.refl _ _ _))
  | region id ops d =>
    intro tm m e tm' m' h ρ a w Q hs hQ
    have h' : (match rg ops d tm m with
      | some (tm', m') => Out.mk .normal tm' m'
      | none => .bad) = .mk e tm' m' := h
    split at h'
    case h_2 => cases h'
    rename_i tm₁ m₁ hr
    simp only [Out.mk.injEq] at h'
    obtain ⟨rfl, rfl, rfl⟩ := h'
    exact hrg id ops d tm m _ _ hr ρ a w Q hs hQ
  | seq x y ihx ihy =>
    intro tm m e tm' m' h ρ a w Q hs hQ
    have h' : (body rg F x tm m).andThen (body rg F y) = .mk e tm' m' := h
    cases hb : body rg F x tm m with
    | bad => rw [hb] at h'; cases h'
    | mk e₁ tm₁ m₁ =>
      rw [hb] at h'
      refine wp_seq (ihx tm m e₁ tm₁ m₁ hb ρ a w _ hs (fun ρ₁ a₁ w₁ hs₁ hx₁ => ?_))
      cases e₁ with
      | normal => exact ihy tm₁ m₁ e tm' m' h' ρ₁ a₁ w₁ Q hs₁ (fun ρ₂ a₂ w₂ hs₂ hx₂ => hQ ρ₂ a₂ w₂ hs₂ (hx₁.trans hx₂))
      | exit id =>
        simp only [Out.andThen, Out.mk.injEq] at h'
        obtain ⟨rfl, rfl, rfl⟩ := h'
        exact hQ ρ₁ a₁ w₁ hs₁ hx₁
      | ret =>
        simp only [Out.andThen, Out.mk.injEq] at h'
        obtain ⟨rfl, rfl, rfl⟩ := h'
        exact hQ ρ₁ a₁ w₁ hs₁ hx₁
  | cond c x y ihx ihy =>
    intro tm m e tm' m' h ρ a w Q hs hQ
    have h' : (match ev tm c with
      | .bool b => cond b (body rg F x tm m) (body rg F y tm m)
      | _ => .bad) = .mk e tm' m' := h
    split at h'
    case h_2 => cases h'
    rename_i b hc
    have hv := hs.tr.ev c
    rw [hc] at hv
    have e' := VR.bool_inv hv
    cases b with
    | true => exact wp_cond e' (ihx tm m e tm' m' h' ρ a w Q hs hQ)
    | false => exact wp_cond e' (ihy tm m e tm' m' h' ρ a w Q hs hQ)
  | block id x ihx =>
    intro tm m e tm' m' h ρ a w Q hs hQ
    have h' : (body rg F x tm m).inBlock id = .mk e tm' m' := h
    cases hb : body rg F x tm m with
    | bad => rw [hb] at h'; cases h'
    | mk e₁ tm₁ m₁ =>
      rw [hb] at h'
      refine wp_block (ihx tm m e₁ tm₁ m₁ hb ρ a w _ hs (fun ρ₁ a₁ w₁ hs₁ hx₁ => ?_))
      cases e₁ with
      | normal =>
        simp only [Out.inBlock, Out.mk.injEq] at h'
        obtain ⟨rfl, rfl, rfl⟩ := h'
        exact hQ ρ₁ a₁ w₁ hs₁ hx₁
      | ret =>
        simp only [Out.inBlock, Out.mk.injEq] at h'
        obtain ⟨rfl, rfl, rfl⟩ := h'
        exact hQ ρ₁ a₁ w₁ hs₁ hx₁
      | exit id' =>
        simp only [Out.inBlock] at h'
        show if id' = id then Q .normal a₁ w₁ else Q (.exit id') a₁ w₁
        cases hq : Nat.beq id' id with
        | true =>
          rw [hq] at h'
          simp only [cond_true, Out.mk.injEq] at h'
          obtain ⟨rfl, rfl, rfl⟩ := h'
          rw [if_pos (Nat.eq_of_beq_eq_true hq)]
          exact hQ ρ₁ a₁ w₁ hs₁ hx₁
        | false =>
          rw [hq] at h'
          simp only [cond_false, Out.mk.injEq] at h'
          obtain ⟨rfl, rfl, rfl⟩ := h'
          rw [if_neg (Nat.ne_of_beq_eq_false hq)]
          exact hQ ρ₁ a₁ w₁ hs₁ hx₁
  | loop x ihx => exact sees_loop ihx F
  | exit id =>
    intro tm m e tm' m' h ρ a w Q hs hQ
    have h' : Out.mk (.exit id) tm m = .mk e tm' m' := h
    simp only [Out.mk.injEq] at h'
    obtain ⟨rfl, rfl, rfl⟩ := h'
    exact wp_exit (hQ ρ a w hs (.refl _ _ _))
  | ret =>
    intro tm m e tm' m' h ρ a w Q hs hQ
    have h' : Out.mk .ret tm m = .mk e tm' m' := h
    simp only [Out.mk.injEq] at h'
    obtain ⟨rfl, rfl, rfl⟩ := h'
    exact wp_ret (hQ ρ a w hs (.refl _ _ _))
  | rangeFunc => intro tm m e tm' m' h; cases h
  | scope => intro tm m e tm' m' h; cases h
  | label => intro tm m e tm' m' h; cases h
  | goto => intro tm m e tm' m' h; cases h
  | refuse => intro tm m e tm' m' h; cases h

end
end Go.Abs
