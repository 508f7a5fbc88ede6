/- A region whose order is drawn: the interpreter's run of it. Conditions: none; definitions and their plain laws. -/
import Derived.Test.YtleddgfdjaaelaaGreatAbsAny
namespace Go.Abs

def eqS : Value → Value → Bool
  | .int k n, .int l q => cond (decide (k = l)) (decide (n = q)) false
  | .bool b, .bool c => cond b c (cond c false true)
  | .string s, .string t => decide (s = t)
  | .pointer none, .pointer none => true
  | .pointer (some ⟨g, o, none⟩), .pointer (some ⟨h, q, none⟩) => cond (Nat.beq g h) (Nat.beq o q) false
  | .slice none n c, .slice none n' c' => cond (Nat.beq n n') (Nat.beq c c') false
  | .slice (some ⟨g, o, none⟩) n c, .slice (some ⟨h, q, none⟩) n' c' => cond (Nat.beq g h) (cond (Nat.beq o q) (cond (Nat.beq n n') (Nat.beq c c') false) false) false
  | .map none, .map none => true
  | .map (some g), .map (some h) => Nat.beq g h
  | .nilFunc, .nilFunc => true
  | .nilIface, .nilIface => true
  | _, _ => false

def eqSs : List Value → List Value → Bool
  | [], [] => true
  | a :: r, b :: s => cond (eqS a b) (eqSs r s) false
  | _, _ => false

def eqV (a b : Value) : Bool :=
  match a, b with
  | .agg ⟨x⟩, .agg ⟨y⟩ => eqSs x y
  | a, b => eqS a b

theorem cond_and {a b : Bool} (h : cond a b false = true) : a = true ∧ b = true := by cases a <;> simp_all

theorem eqS_spec {a b : Value} (h : eqS a b = true) : a = b := by
  unfold eqS at h
  split at h
  · obtain ⟨h1, h2⟩ := cond_and h
    rw [of_decide_eq_true h1, of_decide_eq_true h2]
  · rename_i b c; cases b <;> cases c <;> simp_all
  · rw [of_decide_eq_true h]
  · rfl
  · obtain ⟨h1, h2⟩ := cond_and h
    rw [Nat.eq_of_beq_eq_true h1, Nat.eq_of_beq_eq_true h2]
  · obtain ⟨h1, h2⟩ := cond_and h
    rw [Nat.eq_of_beq_eq_true h1, Nat.eq_of_beq_eq_true h2]
  · obtain ⟨h1, h2⟩ := cond_and h
    obtain ⟨h2, h3⟩ := cond_and h2
    obtain ⟨h3, h4⟩ := cond_and h3
    rw [Nat.eq_of_beq_eq_true h1, Nat.eq_of_beq_eq_true h2, Nat.eq_of_beq_eq_true h3, Nat.eq_of_beq_eq_true h4]
  · rfl
  · rw [Nat.eq_of_beq_eq_true h]
  · rfl
  · rfl
  · cases h

theorem eqSs_spec : ∀ {a b : List Value}, eqSs a b = true → a = b
  | [], [], _ => rfl
  | [], _ :: _, h => by cases h
  | _ :: _, [], h => by cases h
  | a :: r, b :: s, h => by
    obtain ⟨h1, h2⟩ := cond_and h
    rw [eqS_spec h1, eqSs_spec h2]

theorem eqV_spec {a b : Value} (h : eqV a b = true) : a = b := by
  unfold eqV at h
  split at h
  · rw [eqSs_spec h]
  · exact eqS_spec h

structure Rd where
  j : Nat
  p : Nat
  tm : PM Value
  op : Op
  v : Value
  xs : List Xt

structure DS where
  tab : PM Nat
  dst : PM Nat
  rdm : PM Nat
  tm : PM Value
  ch : List Ch
  xs : List Xt
  rs : List Rd

noncomputable def preT (tab : PM Nat) (i : Nat) : Nat := (tab.get i).getD 0

noncomputable def maskE (tab : PM Nat) (j : Nat) : List Edge → Option Nat
  | [] => some 0
  | e :: r => (match maskE tab j r with
    | none => none
    | some s => cond (Region.binds .any e) (cond (Nat.blt e.on j) (some (Nat.lor s (Nat.lor (Nat.pow 2 e.on) (preT tab e.on)))) none) (some s))

def subM (m p : Nat) : Bool := Nat.beq (Nat.land m p) m

noncomputable def readsOk (dst : PM Nat) (p : Nat) : List Tmp → Bool
  | [] => true
  | t :: r => (match dst.get t with
    | some i => cond (Nat.testBit p i) (readsOk dst p r) false
    | none => readsOk dst p r)

noncomputable def noteR (dst : PM Nat) (j : Nat) : List Tmp → PM Nat → PM Nat
  | [], m => m
  | t :: r, m => (match dst.get t with
    | some _ => noteR dst j r m
    | none => noteR dst j r (m.set t (Nat.lor (preT m t) (Nat.pow 2 j))))

noncomputable def restr (tm : PM Value) : List Tmp → PM Value
  | [] => .nil
  | t :: r => (match tm.get t with
    | some v => (restr tm r).set t v
    | none => restr tm r)

def xsOf (p : Nat) : List Xt → List Xt
  | [] => []
  | x :: r => cond (Nat.testBit p x.i) (x :: xsOf p r) (xsOf p r)

def subCh (p : Nat) : List Ch → Bool
  | [] => true
  | e :: r => cond (Nat.testBit p e.w) (subCh p r) false

noncomputable def okAt (P : Program) (call : CallF) (base : Mem) (a0 : Nat) (c : List Ch) (r : Rd) : Bool :=
  match stepOp P call r.tm (withX a0 (topS base c) (topP c) r.xs) r.op with
  | some (v, _) => eqV v r.v
  | none => false

noncomputable def backR (P : Program) (call : CallF) (base : Mem) (a0 : Nat) (r : Rd) : List Ch → Bool
  | [] => true
  | e :: c => cond (Nat.testBit r.p e.w) true (cond (okAt P call base a0 c r) (backR P call base a0 r c) false)

noncomputable def fwd (P : Program) (call : CallF) (base : Mem) (a0 : Nat) (c : List Ch) (p : Nat) : List Rd → Bool
  | [] => true
  | r :: rs => cond (cond (Nat.testBit p r.j) true (okAt P call base a0 c r)) (fwd P call base a0 c p rs) false

inductive Cl where
  | P
  | E
  | R
  | W

noncomputable def cls (P : Program) : Op → Cl
  | .alloc _ => .E
  | .box _ _ => .E
  | .makeMap _ _ => .E
  | .buildSlice _ _ _ => .E
  | .load _ _ => .R
  | .convert s d _ => (match P.underlying d with
    | some (.slice _) => .W
    | _ => (match P.underlying s with
      | some (.slice _) => .R
      | _ => .P))
  | .store _ _ _ => .W
  | .makeSlice _ _ _ => .W
  | .call c => (match c.callee with
    | .builtin b => (match b with
      | .len => .P
      | .min => .P
      | .max => .P
      | _ => .W)
    | _ => .W)
  | _ => .P

noncomputable def fin (N : Nat) (σ : DS) (j p : Nat) (rdm : PM Nat) (d : Option Tmp) (v : Value) (ch : List Ch) (xs : List Xt) (rs : List Rd) : Option DS :=
  match d with
  | none => some ⟨σ.tab.set j p, σ.dst, rdm, σ.tm, ch, xs, rs⟩
  | some d => (match σ.dst.get d with
    | some _ => none
    | none => cond (Nat.blt d N) (cond (subM (preT rdm d) p) (some ⟨σ.tab.set j p, σ.dst.set d j, rdm, σ.tm.set d v, ch, xs, rs⟩) none) none)

noncomputable def drawP (P : Program) (call : CallF) (N : Nat) (σ : DS) (j p : Nat) (rdm : PM Nat) (tmr : PM Value) (o : Oper) : Option DS :=
  match stepOp P call tmr topM o.op with
  | some (v, m') => cond (Nat.beq m'.next TOP) (fin N σ j p rdm o.dst v σ.ch σ.xs σ.rs) none
  | none => none

noncomputable def drawE (P : Program) (call : CallF) (N a0 : Nat) (σ : DS) (j p : Nat) (rdm : PM Nat) (tmr : PM Value) (o : Oper) : Option DS :=
  match stepOp P call tmr topM o.op with
  | some (u, m') => cond (Nat.beq m'.next (Nat.succ TOP)) (match m'.b.get TOP with
    | some blk => cond (noTopB blk) (match ren (a0 + j) u with
      | some v => fin N σ j p rdm o.dst v σ.ch (⟨j, blk⟩ :: σ.xs) σ.rs
      | none => none) none
    | none => none) none
  | none => none

noncomputable def drawR (P : Program) (call : CallF) (N : Nat) (base : Mem) (a0 : Nat) (σ : DS) (j p : Nat) (rdm : PM Nat) (tmr : PM Value) (o : Oper) : Option DS :=
  match stepOp P call tmr (withX a0 (topS base σ.ch) (topP σ.ch) (xsOf p σ.xs)) o.op with
  | some (v, _) => cond (backR P call base a0 ⟨j, p, tmr, o.op, v, xsOf p σ.xs⟩ σ.ch) (fin N σ j p rdm o.dst v σ.ch σ.xs (⟨j, p, tmr, o.op, v, xsOf p σ.xs⟩ :: σ.rs)) none
  | none => none

noncomputable def drawW (P : Program) (call : CallF) (N : Nat) (base : Mem) (a0 : Nat) (σ : DS) (j p : Nat) (rdm : PM Nat) (tmr : PM Value) (o : Oper) : Option DS :=
  cond (cond (subCh p σ.ch) (subM (topP σ.ch) p) false)
    (match stepOp P call tmr (withX a0 (topS base σ.ch) (topP σ.ch) (xsOf p σ.xs)) o.op with
    | some (v, s) => cond (cond (Nat.ble s.next TOP) (fwd P call base a0 (⟨j, p, s⟩ :: σ.ch) p σ.rs) false) (fin N σ j p rdm o.dst v (⟨j, p, s⟩ :: σ.ch) σ.xs σ.rs) none
    | none => none) none

noncomputable def drawC (P : Program) (call : CallF) (N : Nat) (base : Mem) (a0 : Nat) (σ : DS) (j p : Nat) (rdm : PM Nat) (tmr : PM Value) (o : Oper) : Option DS :=
  match cls P o.op with
  | .P => drawP P call N σ j p rdm tmr o
  | .E => drawE P call N a0 σ j p rdm tmr o
  | .R => drawR P call N base a0 σ j p rdm tmr o
  | .W => drawW P call N base a0 σ j p rdm tmr o

noncomputable def drawG (P : Program) (call : CallF) (N : Nat) (ops : Array Oper) (base : Mem) (a0 : Nat) (σ : DS) (j p : Nat) (rdm : PM Nat) (tmr : PM Value) (o : Oper) : Option DS :=
  match guardB ops tmr o with
  | none => none
  | some b => cond b (drawC P call N base a0 σ j p rdm tmr o) (fin N σ j p rdm o.dst skp σ.ch σ.xs σ.rs)

noncomputable def drawOp (P : Program) (call : CallF) (N : Nat) (ops : Array Oper) (base : Mem) (a0 : Nat) (σ : DS) (j : Nat) (o : Oper) : Option DS :=
  match maskE σ.tab j o.after.toList with
  | none => none
  | some p => cond (readsOk σ.dst p (o.looksAt ops)) (drawG P call N ops base a0 σ j p (noteR σ.dst j (o.looksAt ops) σ.rdm) (restr σ.tm (o.looksAt ops)) o) none

noncomputable def drawL (P : Program) (call : CallF) (N : Nat) (ops : Array Oper) (base : Mem) (a0 : Nat) (l : List Oper) : Nat → DS → Option DS :=
  List.rec (motive := fun _ => Nat → DS → Option DS) (fun _ σ => some σ) (fun o _ ih j σ => match drawOp P call N ops base a0 σ j o with
    | some σ' => ih (Nat.succ j) σ'
    | none => none) l

noncomputable def drawReg (P : Program) (call : CallF) (N : Nat) (ops : Array Oper) (tm : PM Value) (m : Mem) : Option (PM Value × Mem) :=
  cond (Nat.ble (Nat.add m.next ops.size) TOP)
    (match drawL P call N ops ⟨m.b, Nat.add m.next ops.size⟩ m.next ops.toList 0 ⟨.nil, .nil, .nil, tm, [], [], []⟩ with
    | some σ => some (σ.tm, withX m.next (topS ⟨m.b, Nat.add m.next ops.size⟩ σ.ch) (topP σ.ch) σ.xs)
    | none => none) none

noncomputable def region (P : Program) (call : CallF) (N : Nat) : RegF := fun ops d tm m => cond d (drawReg P call N ops tm m) (runOps P call N ops ops.toList tm m)

/-! ## Plain laws -/

theorem subM_spec {m p : Nat} (h : subM m p = true) {i : Nat} (hi : Nat.testBit m i = true) : Nat.testBit p i = true := by
  have h' : m &&& p = m := Nat.eq_of_beq_eq_true h
  have := congrArg (Nat.testBit · i) h'
  simp only [Nat.testBit_and, hi, Bool.true_and] at this
  exact this

theorem lor_bit (a b i : Nat) : Nat.testBit (Nat.lor a b) i = (Nat.testBit a i || Nat.testBit b i) := Nat.testBit_or a b i
theorem pow_bit {a i : Nat} : Nat.testBit (Nat.pow 2 a) i = decide (a = i) := Nat.testBit_two_pow

theorem maskE_spec {tab : PM Nat} {j : Nat} : ∀ {l : List Edge} {s : Nat}, maskE tab j l = some s →
    (∀ e ∈ l, Region.binds .any e = true → e.on < j) ∧ ∀ i, Nat.testBit s i = true → ∃ e ∈ l, Region.binds .any e = true ∧ (i = e.on ∨ Nat.testBit (preT tab e.on) i = true)
  | [], s, h => by
    simp only [maskE, Option.some.injEq] at h
    subst h
    exact ⟨fun e he => absurd he (by simp), fun i hi => absurd hi (by simp)⟩
  | e :: l, s, h => by
    unfold maskE at h
    split at h
    case h_1 => cases h
    rename_i s' hs'
    obtain ⟨h1, h2⟩ := maskE_spec hs'
    cases hb : Region.binds .any e with
    | false =>
      rw [hb] at h
      simp only [cond_false, Option.some.injEq] at h
      subst h
      refine ⟨fun e' he' hb' => ?_, fun i hi => ?_⟩
      · rcases List.mem_cons.1 he' with rfl | he'
        · rw [hb] at hb'; cases hb'
        · exact h1 e' he' hb'
      · obtain ⟨e', he', r⟩ := h2 i hi
        exact ⟨e', List.mem_cons_of_mem _ he', r⟩
    | true =>
      rw [hb] at h
      simp only [cond_true] at h
      cases hl : Nat.blt e.on j with
      | false => rw [hl] at h; cases h
      | true =>
        rw [hl] at h
        simp only [cond_true, Option.some.injEq] at h
        subst h
        have hlt : e.on < j := Nat.le_of_ble_eq_true hl
        refine ⟨fun e' he' hb' => ?_, fun i hi => ?_⟩
        · rcases List.mem_cons.1 he' with rfl | he'
          · exact hlt
          · exact h1 e' he' hb'
        · rw [lor_bit, lor_bit, pow_bit] at hi
          simp only [Bool.or_eq_true, decide_eq_true_eq] at hi
          rcases hi with hi | hi | hi
          · obtain ⟨e', he', r⟩ := h2 i hi
            exact ⟨e', List.mem_cons_of_mem _ he', r⟩
          · exact ⟨e, List.mem_cons_self .., hb, .inl hi.symm⟩
          · exact ⟨e, List.mem_cons_self .., hb, .inr hi⟩

theorem readsOk_spec {dst : PM Nat} {p : Nat} : ∀ {l : List Tmp}, readsOk dst p l = true → ∀ t ∈ l, ∀ i, dst.get t = some i → Nat.testBit p i = true
  | [], _, t, h => by cases h
  | x :: l, h, t, ht => by
    unfold readsOk at h
    split at h
    · rename_i i hi
      obtain ⟨h1, h2⟩ := cond_and h
      rcases List.mem_cons.1 ht with rfl | ht
      · intro k hk; rw [hi] at hk; cases hk; exact h1
      · exact readsOk_spec h2 t ht
    · rename_i hi
      rcases List.mem_cons.1 ht with rfl | ht
      · intro k hk; rw [hi] at hk; cases hk
      · exact readsOk_spec h t ht

theorem noteR_spec {dst : PM Nat} {j : Nat} : ∀ {l : List Tmp} {m : PM Nat}, (∀ t k, Nat.testBit (preT m t) k = true → Nat.testBit (preT (noteR dst j l m) t) k = true) ∧
    ∀ t ∈ l, dst.get t = none → Nat.testBit (preT (noteR dst j l m) t) j = true
  | [], m => ⟨fun _ _ h => h, fun _ h => by cases h⟩
  | x :: l, m => by
    unfold noteR
    split
    · rename_i i hi
      obtain ⟨h1, h2⟩ := noteR_spec (dst := dst) (j := j) (l := l) (m := m)
      refine ⟨h1, fun t ht hn => ?_⟩
      rcases List.mem_cons.1 ht with rfl | ht
      · rw [hi] at hn; cases hn
      · exact h2 t ht hn
    · rename_i hi
      obtain ⟨h1, h2⟩ := noteR_spec (dst := dst) (j := j) (l := l) (m := m.set x (Nat.lor (preT m x) (Nat.pow 2 j)))
      have hx : ∀ t k, (Nat.testBit (preT m t) k = true ∨ (t = x ∧ k = j)) → Nat.testBit (preT (m.set x (Nat.lor (preT m x) (Nat.pow 2 j))) t) k = true := fun t k hk => by
        unfold preT at *
        rw [PM.get_set]
        by_cases e : t = x
        · subst e
          rw [if_pos rfl]
          simp only [Option.getD_some]
          rw [lor_bit, pow_bit]
          rcases hk with hk | ⟨_, rfl⟩
          · rw [hk]; rfl
          · simp
        · rw [if_neg e]
          rcases hk with hk | ⟨h, _⟩
          · exact hk
          · exact absurd h e
      refine ⟨fun t k hk => h1 t k (hx t k (.inl hk)), fun t ht hn => ?_⟩
      rcases List.mem_cons.1 ht with rfl | ht
      · exact h1 t j (hx t j (.inr ⟨rfl, rfl⟩))
      · exact h2 t ht hn

theorem restr_spec {tm : PM Value} : ∀ {l : List Tmp} {t : Nat} {u : Value}, (restr tm l).get t = some u → t ∈ l ∧ tm.get t = some u
  | [], t, u, h => by rw [restr, PM.get_nil] at h; cases h
  | x :: l, t, u, h => by
    unfold restr at h
    split at h
    · rename_i v hv
      rw [PM.get_set] at h
      by_cases e : t = x
      · subst e
        rw [if_pos rfl] at h
        cases h
        exact ⟨List.mem_cons_self .., hv⟩
      · rw [if_neg e] at h
        obtain ⟨h1, h2⟩ := restr_spec h
        exact ⟨List.mem_cons_of_mem _ h1, h2⟩
    · obtain ⟨h1, h2⟩ := restr_spec h
      exact ⟨List.mem_cons_of_mem _ h1, h2⟩

theorem xsOf_spec {p : Nat} : ∀ {l : List Xt} {x : Xt}, x ∈ xsOf p l → x ∈ l ∧ Nat.testBit p x.i = true
  | [], x, h => by cases h
  | y :: l, x, h => by
    unfold xsOf at h
    cases hb : Nat.testBit p y.i with
    | false =>
      rw [hb] at h
      obtain ⟨h1, h2⟩ := xsOf_spec (p := p) (l := l) h
      exact ⟨List.mem_cons_of_mem _ h1, h2⟩
    | true =>
      rw [hb] at h
      rcases List.mem_cons.1 h with rfl | h
      · exact ⟨List.mem_cons_self .., hb⟩
      · obtain ⟨h1, h2⟩ := xsOf_spec h
        exact ⟨List.mem_cons_of_mem _ h1, h2⟩

theorem xsOf_pair {p : Nat} : ∀ {l : List Xt}, (l.Pairwise fun x y => x.i ≠ y.i) → (xsOf p l).Pairwise fun x y => x.i ≠ y.i
  | [], _ => .nil
  | x :: l, h => by
    rw [List.pairwise_cons] at h
    have ih := xsOf_pair (p := p) h.2
    unfold xsOf
    cases Nat.testBit p x.i with
    | false => exact ih
    | true => exact List.pairwise_cons.2 ⟨fun y hy => h.1 y (xsOf_spec hy).1, ih⟩

theorem subCh_spec {p : Nat} : ∀ {l : List Ch}, subCh p l = true → ∀ e ∈ l, Nat.testBit p e.w = true
  | [], _, e, h => by cases h
  | x :: l, h, e, he => by
    obtain ⟨h1, h2⟩ := cond_and h
    rcases List.mem_cons.1 he with rfl | he
    · exact h1
    · exact subCh_spec h2 e he

theorem fwd_spec {P : Program} {call : CallF} {base : Mem} {a0 : Nat} {c : List Ch} {p : Nat} : ∀ {l : List Rd}, fwd P call base a0 c p l = true → ∀ r ∈ l, Nat.testBit p r.j = false → okAt P call base a0 c r = true
  | [], _, r, h => by cases h
  | x :: l, h, r, hr => by
    obtain ⟨h1, h2⟩ := cond_and h
    rcases List.mem_cons.1 hr with rfl | hr
    · intro hb; rw [hb] at h1; exact h1
    · exact fwd_spec h2 r hr

def OkAt (P : Program) (call : CallF) (base : Mem) (a0 : Nat) (c : List Ch) (r : Rd) : Prop :=
  ∃ m', stepOp P call r.tm (withX a0 (topS base c) (topP c) r.xs) r.op = some (r.v, m')

theorem okAt_spec {P : Program} {call : CallF} {base : Mem} {a0 : Nat} {c : List Ch} {r : Rd} (h : okAt P call base a0 c r = true) : OkAt P call base a0 c r := by
  unfold okAt at h
  split at h
  · rename_i v m' hs
    rw [eqV_spec h] at hs
    exact ⟨m', hs⟩
  · cases h

/-- Every older memory at which a read may happen shows it the same. -/
theorem backR_spec {P : Program} {call : CallF} {base : Mem} {a0 : Nat} {r : Rd} : ∀ {l : List Ch}, OkAt P call base a0 l r → backR P call base a0 r l = true →
    ∀ a c, l = a ++ c → (∀ e ∈ a, Nat.testBit r.p e.w = false) → OkAt P call base a0 c r
  | l, h0, h, [], c, he, _ => by rw [List.nil_append] at he; rw [← he]; exact h0
  | [], h0, h, x :: a, c, he, _ => by cases he
  | y :: l, h0, h, x :: a, c, he, hn => by
    simp only [List.cons_append, List.cons.injEq] at he
    obtain ⟨rfl, rfl⟩ := he
    unfold backR at h
    rw [hn y (List.mem_cons_self ..)] at h
    obtain ⟨h1, h2⟩ := cond_and h
    exact backR_spec (okAt_spec h1) h2 a c rfl (fun e he => hn e (List.mem_cons_of_mem _ he))

end Go.Abs
