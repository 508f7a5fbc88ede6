/- How the interpreter's memory stands for the model's: the relation, and what allocations and writes do to it. Conditions: none. -/
import Derived.Test.YtleddgfdjaaelaaGreatAbsRun
import Derived.WalkKit
import Derived.Deep.Upon
namespace Go.Abs

/-- Where a block of the interpreter's lies: block, first cell, how many cells; the cells of an element; so many elements' room behind. -/
structure Place where
  b : Nat
  d : Nat
  n : Nat
  sz : Nat
  spare : Nat

abbrev Pl := Nat → Option Place
def Pl.le (ρ ρ' : Pl) : Prop := ∀ g p, ρ g = some p → ρ' g = some p
theorem Pl.le_refl (ρ : Pl) : ρ.le ρ := fun _ _ h => h
theorem Pl.le_trans {a b c : Pl} (h : a.le b) (h' : b.le c) : a.le c := fun g p e => h' g p (h g p e)

def Pl.put (ρ : Pl) (g : Nat) (p : Place) : Pl := fun k => if k = g then some p else ρ k
theorem Pl.put_same (ρ : Pl) (g : Nat) (p : Place) : (ρ.put g p) g = some p := if_pos rfl
theorem Pl.put_ne (ρ : Pl) {g k : Nat} (p : Place) (h : k ≠ g) : (ρ.put g p) k = ρ k := if_neg h
theorem Pl.le_put {ρ : Pl} {g : Nat} (p : Place) (h : ρ g = none) : ρ.le (ρ.put g p) := fun k q e => by
  by_cases hk : k = g
  · subst hk; rw [h] at e; cases e
  · rw [Pl.put_ne ρ p hk]; exact e

/-- One cell's value, and what stands for it. -/
inductive SR (ρ : Pl) : Value → Value → Prop where
  | bool (b : Bool) : SR ρ (.bool b) (.bool b)
  | int (k : IntKind) (n : Int) : SR ρ (.int k n) (.int k n)
  | string (s : ByteArray) : SR ρ (.string s) (.string s)
  | nilptr : SR ρ (.pointer none) (.pointer none)
  | nilslice : SR ρ (.slice none 0 0) (.slice none 0 0)
  | nilmap : SR ρ (.map none) (.map none)
  | nilFunc : SR ρ .nilFunc .nilFunc
  | nilIface : SR ρ .nilIface .nilIface
  | ptr {g off : Nat} {p : Place} (h : ρ g = some p) : SR ρ (.pointer (some ⟨g, off, none⟩)) (.pointer (some ⟨p.b, p.d + off, none⟩))
  | slice {g off len cap cap' : Nat} {p : Place} (h : ρ g = some p) (hc : cap' = cap ∨ (off + cap * p.sz = p.n ∧ cap' = cap + p.spare)) :
      SR ρ (.slice (some ⟨g, off, none⟩) len cap) (.slice (some ⟨p.b, p.d + off, none⟩) len cap')
  | slice0 {g off : Nat} {a : Addr} : SR ρ (.slice (some ⟨g, off, none⟩) 0 0) (.slice (some a) 0 0)
  | map {g : Nat} {p : Place} (h : ρ g = some p) : SR ρ (.map (some g)) (.map (some p.b))

theorem SR.mono {ρ ρ' : Pl} (h : ρ.le ρ') {v v' : Value} (hv : SR ρ v v') : SR ρ' v v' := by
  cases hv with
  | ptr e => exact .ptr (h _ _ e)
  | slice e hc => exact .slice (h _ _ e) hc
  | map e => exact .map (h _ _ e)
  | slice0 => exact .slice0
  | bool b => exact .bool b
  | int k n => exact .int k n
  | string s => exact .string s
  | nilptr => exact .nilptr
  | nilslice => exact .nilslice
  | nilmap => exact .nilmap
  | nilFunc => exact .nilFunc
  | nilIface => exact .nilIface

theorem SR.one {ρ : Pl} {v v' : Value} (hv : SR ρ v v') : v'.oneCell' = true := by cases hv <;> rfl
theorem SR.cells1 {ρ : Pl} {v v' : Value} (hv : SR ρ v v') : v'.cells = #[v'] := by cases hv <;> rfl

/-- Two lists, one by one. -/
inductive All2 (R : Value → Value → Prop) : List Value → List Value → Prop where
  | nil : All2 R [] []
  | cons {a b : Value} {as bs : List Value} (h : R a b) (t : All2 R as bs) : All2 R (a :: as) (b :: bs)

abbrev SRs (ρ : Pl) := All2 (SR ρ)
theorem SRs.mono {ρ ρ' : Pl} (h : ρ.le ρ') {a b : List Value} (hv : SRs ρ a b) : SRs ρ' a b := by
  induction hv with
  | nil => exact .nil
  | cons e _ ih => exact .cons (e.mono h) ih

theorem SRs.length {ρ : Pl} {a b : List Value} (h : SRs ρ a b) : a.length = b.length := by
  induction h with
  | nil => rfl
  | cons _ _ ih => simp [ih]

theorem SRs.one {ρ : Pl} {a b : List Value} (h : SRs ρ a b) : ∀ v ∈ b, v.oneCell' = true := by
  induction h with
  | nil => intro v hv; cases hv
  | cons e _ ih =>
    intro v hv
    rcases List.mem_cons.1 hv with rfl | hv
    · exact e.one
    · exact ih v hv

theorem SRs.get {ρ : Pl} {a b : List Value} (h : SRs ρ a b) : ∀ (i : Nat) (c : Value), a[i]? = some c → ∃ c', b[i]? = some c' ∧ SR ρ c c' := by
  induction h with
  | nil => intro i c hc; simp at hc
  | cons e _ ih =>
    intro i c hc
    cases i with
    | zero => simp at hc; subst hc; exact ⟨_, rfl, e⟩
    | succ i => simpa using ih i c (by simpa using hc)

theorem SRs.append {ρ : Pl} {a b c d : List Value} (h : SRs ρ a b) (h' : SRs ρ c d) : SRs ρ (a ++ c) (b ++ d) := by
  induction h with
  | nil => simpa using h'
  | cons e _ ih => exact .cons e ih

theorem SRs.take {ρ : Pl} {a b : List Value} (h : SRs ρ a b) : ∀ n : Nat, SRs ρ (a.take n) (b.take n) := by
  induction h with
  | nil => intro n; simp; exact .nil
  | cons e _ ih =>
    intro n
    cases n with
    | zero => exact .nil
    | succ n => exact .cons e (ih n)

theorem SRs.drop {ρ : Pl} {a b : List Value} (h : SRs ρ a b) : ∀ n : Nat, SRs ρ (a.drop n) (b.drop n) := by
  induction h with
  | nil => intro n; simp; exact .nil
  | cons e h' ih =>
    intro n
    cases n with
    | zero => exact .cons e h'
    | succ n => exact ih n

theorem SRs.splice {ρ : Pl} : ∀ (off : Nat) {a b c d : List Value}, SRs ρ a b → SRs ρ c d → SRs ρ (splice off a c) (splice off b d)
  | 0, _, _, _, _, h, h' => by
    show SRs ρ (_ ++ _) (_ ++ _)
    rw [h'.length]
    exact h'.append (h.drop _)
  | _ + 1, _, _, _, _, .nil, _ => .nil
  | off + 1, _, _, _, _, .cons e h, h' => .cons e (SRs.splice off h h')

theorem plain1_SR (ρ : Pl) {v : Value} (h : plain1 v = true) : SR ρ v v := by
  unfold plain1 at h
  split at h <;> first | constructor | cases h

theorem allPlain_SR (ρ : Pl) : ∀ {l : List Value}, allPlain l = true → SRs ρ l l
  | [], _ => .nil
  | v :: r, h => by
    unfold allPlain at h
    cases hv : plain1 v with
    | false => rw [hv] at h; cases h
    | true => rw [hv] at h; exact .cons (plain1_SR ρ hv) (allPlain_SR ρ h)

/-- A value that may stand in memory. -/
inductive VB (ρ : Pl) : Value → Value → Prop where
  | sc {v v' : Value} (h : SR ρ v v') : VB ρ v v'
  | agg {a b : List Value} (h : SRs ρ a b) : VB ρ (.agg ⟨a⟩) (.agg ⟨b⟩)

abbrev VBs (ρ : Pl) := All2 (VB ρ)

inductive VR (ρ : Pl) : Value → Value → Prop where
  | vb {v v' : Value} (h : VB ρ v v') : VR ρ v v'
  | junk (v' : Value) : VR ρ junk v'
  | tuple {a b : List Value} (h : VBs ρ a b) : VR ρ (.tuple ⟨a⟩) (.tuple ⟨b⟩)
  | func {fn : Fn} {a b c d : List Value} (h : VBs ρ a b) (h' : VBs ρ c d) : VR ρ (.func fn ⟨a⟩ ⟨c⟩) (.func fn ⟨b⟩ ⟨d⟩)

abbrev VRs (ρ : Pl) := All2 (VR ρ)

theorem VB.mono {ρ ρ' : Pl} (h : ρ.le ρ') {v v' : Value} (hv : VB ρ v v') : VB ρ' v v' := by
  cases hv with
  | sc e => exact .sc (e.mono h)
  | agg e => exact .agg (e.mono h)

theorem VBs.mono {ρ ρ' : Pl} (h : ρ.le ρ') {a b : List Value} (hv : VBs ρ a b) : VBs ρ' a b := by
  induction hv with
  | nil => exact .nil
  | cons e _ ih => exact .cons (e.mono h) ih

theorem VR.mono {ρ ρ' : Pl} (h : ρ.le ρ') {v v' : Value} (hv : VR ρ v v') : VR ρ' v v' := by
  cases hv with
  | vb e => exact .vb (e.mono h)
  | junk v' => exact .junk v'
  | tuple e => exact .tuple (e.mono h)
  | func e e' => exact .func (e.mono h) (e'.mono h)

theorem VRs.mono {ρ ρ' : Pl} (h : ρ.le ρ') {a b : List Value} (hv : VRs ρ a b) : VRs ρ' a b := by
  induction hv with
  | nil => exact .nil
  | cons e _ ih => exact .cons (e.mono h) ih

theorem VBs.vrs {ρ : Pl} {a b : List Value} (h : VBs ρ a b) : VRs ρ a b := by
  induction h with
  | nil => exact .nil
  | cons e _ ih => exact .cons (.vb e) ih

theorem VRs.append {ρ : Pl} {a b c d : List Value} (h : VRs ρ a b) (h' : VRs ρ c d) : VRs ρ (a ++ c) (b ++ d) := by
  induction h with
  | nil => simpa using h'
  | cons e _ ih => exact .cons e ih

theorem constV_VR (ρ : Pl) (v : Value) : VR ρ (constV v) v := by
  unfold constV
  cases h : plainV v with
  | false => exact .junk v
  | true =>
    unfold plainV at h
    split at h
    · exact .vb (.agg (allPlain_SR ρ h))
    · exact .vb (.sc (plain1_SR ρ h))

/-- What may stand in memory, and its cells. -/
theorem cellsOf_VR {ρ : Pl} {v v' : Value} {cs : List Value} (h : VR ρ v v') (hc : cellsOf v = some cs) : VB ρ v v' ∧ ∃ cs', v'.cells = ⟨cs'⟩ ∧ SRs ρ cs cs' := by
  cases h with
  | junk v' => simp [junk, cellsOf] at hc
  | tuple e => simp [cellsOf] at hc
  | func e e' => simp [cellsOf] at hc
  | vb e =>
    refine ⟨e, ?_⟩
    cases e with
    | agg e => simp [cellsOf] at hc; subst hc; exact ⟨_, rfl, e⟩
    | sc e =>
      refine ⟨[v'], by rw [e.cells1], ?_⟩
      have : cs = [v] := by
        cases e <;> (simp [cellsOf] at hc; exact hc.symm)
      subst this
      exact .cons e .nil

/-! ## The memory -/

/-- A block that may be written. -/
def Owns (m : Mem) (g : Nat) : Prop := (∃ cs k sz, m.b.get g = some (.cells cs k sz) ∧ isRo k = false) ∨ ∃ es c, m.b.get g = some (.map es c)
def Live (m : Mem) (g : Nat) : Prop := (∃ cs k sz, m.b.get g = some (.cells cs k sz)) ∨ ∃ es c, m.b.get g = some (.map es c)

theorem Owns.live {m : Mem} {g : Nat} (h : Owns m g) : Live m g := by
  rcases h with ⟨cs, k, sz, h, _⟩ | h
  · exact .inl ⟨cs, k, sz, h⟩
  · exact .inr h

def Place.all (p : Place) : Nat := p.n + p.spare * p.sz
def apart (p q : Place) : Prop := p.d + p.all ≤ q.d ∨ q.d + q.all ≤ p.d

/-- No cell of this object is frozen, nor will be where one place behind its end is. -/
def Thawed (w : World) (b : Nat) : Prop := ∀ C e fr, w.heap[b]? = some (.cells C e fr) → fr.1 = fr.2 ∨ C.size ≤ fr.1

theorem Thawed.same {w w' : World} {b : Nat} (h : Thawed w b) (he : w'.heap[b]? = w.heap[b]?) : Thawed w' b := fun C e fr hc => h C e fr (by rw [← he]; exact hc)

theorem Thawed.cell {w : World} {b o : Nat} (h : Thawed w b) (hs : (w.cell? ⟨b, o, none⟩).isSome = true) : w.frozen? ⟨b, o, none⟩ = false := by
  unfold World.cell? at hs
  unfold World.frozen?
  split at hs
  · rename_i c t fr hc
    have ho : o < c.size := by
      simp only [Option.isSome_none, Bool.false_eq_true, if_false] at hs
      rcases Nat.lt_or_ge o c.size with h' | h'
      · exact h'
      · rw [Array.getElem?_eq_none h'] at hs; cases hs
    simp only at hc
    simp only [hc]
    obtain ⟨lo, hi⟩ := fr
    rcases h c t _ hc with h' | h'
    · simp only at h'
      subst h'
      simp
    · simp only at h'
      simp
      intro _
      omega
  · cases hs

theorem Thawed.setCell {w : World} {b : Nat} (h : Thawed w b) (a : Addr) (v : Value) : Thawed (w.setCell a v) b := by
  intro C e fr hc
  unfold World.setCell at hc
  simp only [Array.getElem?_modify] at hc
  split at hc
  · cases hw : w.heap[b]? with
    | none => rw [hw] at hc; cases hc
    | some o =>
      rw [hw] at hc
      simp only [Option.map_some, Option.some.injEq] at hc
      cases o with
      | cells c t f =>
        simp only [Obj.cells.injEq] at hc
        obtain ⟨h1, _, h3⟩ := hc
        have := h c t f hw
        rw [← h1, ← h3]
        split
        · exact this
        · simpa using this
      | _ => cases hc
  · exact h C e fr hc

theorem Thawed.setCells {b b' : Nat} : ∀ (vs : List Value) (o : Nat) (w : World), Thawed w b → Thawed (w.setCells b' o vs) b
  | [], _, _, h => h
  | v :: r, o, w, h => by
    rw [World.setCells]
    exact Thawed.setCells r (o + 1) _ (h.setCell _ v)

/-- What the interpreter knows of one block of cells. -/
structure CellsAt (ρ : Pl) (w : World) (cs : List Value) (k : Kind) (sz : Nat) (p : Place) : Prop where
  n : p.n = cs.length
  sz : p.sz = sz
  spare : isGrow k = false → p.spare = 0
  cells : ∀ i c, cs[i]? = some c → ∃ c', w.cell? ⟨p.b, p.d + i, none⟩ = some c' ∧ SR ρ c c'
  room : isRo k = false → ∀ i, i < p.spare * p.sz → (w.cell? ⟨p.b, p.d + p.n + i, none⟩).isSome = true
  tha : isRo k = false → Thawed w p.b

theorem CellsAt.thaw {ρ : Pl} {w : World} {cs : List Value} {k : Kind} {sz : Nat} {p : Place} (h : CellsAt ρ w cs k sz p) (hr : isRo k = false) (i : Nat) (hi : i < p.all) : w.frozen? ⟨p.b, p.d + i, none⟩ = false := by
  refine (h.tha hr).cell ?_
  have hn := h.n
  unfold Place.all at hi
  rcases Nat.lt_or_ge i cs.length with h' | h'
  · obtain ⟨c', a, _⟩ := h.cells i _ (List.getElem?_eq_getElem h')
    rw [a]; rfl
  · have := h.room hr (i - p.n) (by omega)
    rw [show p.d + p.n + (i - p.n) = p.d + i by omega] at this
    exact this

structure Rel (ρ : Pl) (m : Mem) (w : World) : Prop where
  cells : ∀ g cs k sz, m.b.get g = some (.cells cs k sz) → ∃ p, ρ g = some p ∧ CellsAt ρ w cs k sz p
  map : ∀ g es c, m.b.get g = some (.map es c) → ∃ p, ρ g = some p ∧ p.d = 0 ∧ p.n = 1 ∧ p.spare = 0 ∧ w.heap[p.b]? = some (.map ⟨es⟩ c)
  disj : ∀ g g' p p', g ≠ g' → Owns m g → Live m g' → ρ g = some p → ρ g' = some p' → p.b = p'.b → apart p p'
  place : ∀ g p, ρ g = some p → g < m.next ∧ p.b < w.heap.size
  live : ∀ g, m.next ≤ g → m.b.get g = none

def OwnB (ρ : Pl) (m : Mem) (b : Nat) : Prop := ∃ g p, Owns m g ∧ ρ g = some p ∧ p.b = b

def LiveB (ρ : Pl) (m : Mem) (b : Nat) : Prop := ∃ g p, Live m g ∧ ρ g = some p ∧ p.b = b

/-- What a step may have done. -/
structure Ext (ρ : Pl) (m : Mem) (w : World) (ρ' : Pl) (m' : Mem) (w' : World) : Prop where
  le : ρ.le ρ'
  size : w.heap.size ≤ w'.heap.size
  keep : ∀ b, b < w.heap.size → ¬ OwnB ρ m b → w'.heap[b]? = w.heap[b]?
  own : ∀ b, b < w.heap.size → OwnB ρ' m' b → OwnB ρ m b
  os : w'.os = w.os
  output : w'.output = w.output
  next : m.next ≤ m'.next
  old : ∀ g, g < m.next → ρ' g = ρ g
  liv : ∀ b, b < w.heap.size → LiveB ρ' m' b → LiveB ρ m b

theorem Ext.refl (ρ : Pl) (m : Mem) (w : World) : Ext ρ m w ρ m w := ⟨Pl.le_refl ρ, Nat.le_refl _, fun _ _ _ => rfl, fun _ _ h => h, rfl, rfl, Nat.le_refl _, fun _ _ => rfl, fun _ _ h => h⟩

theorem Ext.trans {ρ ρ' ρ'' : Pl} {m m' m'' : Mem} {w w' w'' : World} (h : Ext ρ m w ρ' m' w') (h' : Ext ρ' m' w' ρ'' m'' w'') : Ext ρ m w ρ'' m'' w'' where
  le := Pl.le_trans h.le h'.le
  size := Nat.le_trans h.size h'.size
  keep b hb hn := by
    rw [h'.keep b (Nat.lt_of_lt_of_le hb h.size) (fun ho => hn (h.own b hb ho)), h.keep b hb hn]
  own b hb ho := h.own b hb (h'.own b (Nat.lt_of_lt_of_le hb h.size) ho)
  os := h'.os.trans h.os
  output := h'.output.trans h.output
  next := Nat.le_trans h.next h'.next
  old g hg := (h'.old g (Nat.lt_of_lt_of_le hg h.next)).trans (h.old g hg)
  liv b hb ho := h.liv b hb (h'.liv b (Nat.lt_of_lt_of_le hb h.size) ho)

theorem CellsAt.mono {ρ ρ' : Pl} {w : World} {cs : List Value} {k : Kind} {sz : Nat} {p : Place} (h : CellsAt ρ w cs k sz p) (hl : ρ.le ρ') : CellsAt ρ' w cs k sz p :=
  { h with cells := fun i c hc => let ⟨c', a, b⟩ := h.cells i c hc; ⟨c', a, b.mono hl⟩ }

theorem Rel.none_next {ρ : Pl} {m : Mem} {w : World} (h : Rel ρ m w) : ρ m.next = none := by
  cases e : ρ m.next with
  | none => rfl
  | some p => exact absurd (h.place _ _ e).1 (Nat.lt_irrefl _)

theorem Rel.drew {ρ : Pl} {m : Mem} {w : World} (h : Rel ρ m w) : Rel ρ m w.drew :=
  ⟨fun g cs k sz e => let ⟨p, a, b⟩ := h.cells g cs k sz e; ⟨p, a, ⟨b.n, b.sz, b.spare, b.cells, b.room, b.tha⟩⟩, h.map, h.disj, h.place, h.live⟩

theorem Ext.drew (ρ : Pl) (m : Mem) (w : World) : Ext ρ m w ρ m w.drew := ⟨Pl.le_refl ρ, Nat.le_refl _, fun _ _ _ => rfl, fun _ _ h => h, rfl, rfl, Nat.le_refl _, fun _ _ => rfl, fun _ _ h => h⟩

theorem cell_alloc_old (w : World) (o : Obj) {b off : Nat} (h : b < w.heap.size) : (w.alloc o).cell? ⟨b, off, none⟩ = w.cell? ⟨b, off, none⟩ :=
  World.cell?_alloc_lt w o ⟨b, off, none⟩ h
theorem frozen_alloc_old (w : World) (o : Obj) {b off : Nat} (h : b < w.heap.size) : (w.alloc o).frozen? ⟨b, off, none⟩ = w.frozen? ⟨b, off, none⟩ :=
  World.frozen?_alloc_old w o ⟨b, off, none⟩ (Nat.ne_of_lt h)

theorem get_push (m : Mem) (b : Blk) (g : Nat) : (m.push b).b.get g = if g = m.next then some b else m.b.get g := PM.get_set b m.b m.next g
theorem get_put (m : Mem) (b : Blk) (g k : Nat) : (m.put g b).b.get k = if k = g then some b else m.b.get k := PM.get_set b m.b g k

/-- A new block. -/
theorem Rel.push {ρ : Pl} {m : Mem} {w : World} (h : Rel ρ m w) (cs cs' extra : List Value) (k : Kind) (sz spare : Nat) (e : TypeId) (hs : SRs ρ cs cs') (hx : extra.length = spare * sz)
    (hk : isGrow k = false → spare = 0) :
    Rel (ρ.put m.next ⟨w.heap.size, 0, cs.length, sz, spare⟩) (m.push (.cells cs k sz)) (w.alloc (.cells ⟨cs' ++ extra⟩ e)) ∧
    Ext ρ m w (ρ.put m.next ⟨w.heap.size, 0, cs.length, sz, spare⟩) (m.push (.cells cs k sz)) (w.alloc (.cells ⟨cs' ++ extra⟩ e)) := by
  have hnn := h.none_next
  have hle := Pl.le_put (ρ := ρ) (g := m.next) ⟨w.heap.size, 0, cs.length, sz, spare⟩ hnn
  have hlen := hs.length
  have live_old : ∀ g, g ≠ m.next → Live (m.push (.cells cs k sz)) g → Live m g := fun g hg hl => by
    unfold Live at *
    rw [get_push, if_neg hg] at hl
    exact hl
  have owns_old : ∀ g, g ≠ m.next → Owns (m.push (.cells cs k sz)) g → Owns m g := fun g hg hl => by
    unfold Owns at *
    rw [get_push, if_neg hg] at hl
    exact hl
  refine ⟨⟨?_, ?_, ?_, ?_, ?_⟩, ⟨hle, by simp, ?_, ?_, rfl, rfl, Nat.le_succ _, fun g hg => Pl.put_ne ρ _ (Nat.ne_of_lt hg), ?_⟩⟩
  · intro g cs₁ k₁ sz₁ hg
    rw [get_push] at hg
    by_cases hgn : g = m.next
    · subst hgn
      rw [if_pos rfl] at hg
      simp only [Option.some.injEq, Blk.cells.injEq] at hg
      obtain ⟨rfl, rfl, rfl⟩ := hg
      refine ⟨_, Pl.put_same _ _ _, ⟨rfl, rfl, hk, ?_, ?_, ?_⟩⟩
      · intro i c hc
        obtain ⟨c', hc', hr⟩ := hs.get i c hc
        refine ⟨c', ?_, hr.mono hle⟩
        show (w.alloc _).cell? ⟨w.heap.size, 0 + i, none⟩ = some c'
        rw [Nat.zero_add, World.cell?_alloc_new]
        have hi : i < cs'.length := by
          rcases Nat.lt_or_ge i cs'.length with h' | h'
          · exact h'
          · rw [List.getElem?_eq_none h'] at hc'; cases hc'
        simp only [List.getElem?_toArray]
        rw [List.getElem?_append_left hi]
        exact hc'
      · intro _ i hi
        show ((w.alloc _).cell? ⟨w.heap.size, 0 + cs.length + i, none⟩).isSome = true
        rw [World.cell?_alloc_new]
        simp only [List.getElem?_toArray]
        rw [List.getElem?_append_right (by omega)]
        have : 0 + cs.length + i - cs'.length < extra.length := by simp only at hi; omega
        rw [List.getElem?_eq_getElem this]
        rfl
      · intro _ C e' fr hc
        rw [show (w.alloc (.cells ⟨cs' ++ extra⟩ e)).heap[w.heap.size]? = _ from heap_alloc_new w _] at hc
        simp only [Option.some.injEq, Obj.cells.injEq] at hc
        rw [← hc.2.2]
        exact .inl rfl
    · rw [if_neg hgn] at hg
      obtain ⟨p, hp, hc⟩ := h.cells g cs₁ k₁ sz₁ hg
      have hb := (h.place g p hp).2
      refine ⟨p, hle _ _ hp, ⟨hc.n, hc.sz, hc.spare, ?_, ?_, ?_⟩⟩
      · intro i c hi
        obtain ⟨c', a, b⟩ := hc.cells i c hi
        exact ⟨c', by rw [cell_alloc_old w _ hb]; exact a, b.mono hle⟩
      · intro hr i hi; rw [cell_alloc_old w _ hb]; exact hc.room hr i hi
      · intro hr; exact (hc.tha hr).same (heap_alloc_old w _ hb)
  · intro g es c hg
    rw [get_push] at hg
    by_cases hgn : g = m.next
    · rw [if_pos hgn] at hg; cases hg
    · rw [if_neg hgn] at hg
      obtain ⟨p, hp, h1, h2, h3, h4⟩ := h.map g es c hg
      exact ⟨p, hle _ _ hp, h1, h2, h3, by rw [heap_alloc_old w _ (h.place g p hp).2]; exact h4⟩
  · intro g g' p p' hne ho hl hp hp' hb
    by_cases hgn : g = m.next
    · subst hgn
      rw [Pl.put_same] at hp
      cases hp
      rw [Pl.put_ne ρ _ (Ne.symm hne)] at hp'
      have := (h.place g' p' hp').2
      simp only at hb
      omega
    · rw [Pl.put_ne ρ _ hgn] at hp
      by_cases hgn' : g' = m.next
      · subst hgn'
        rw [Pl.put_same] at hp'
        cases hp'
        have := (h.place g p hp).2
        simp only at hb
        omega
      · rw [Pl.put_ne ρ _ hgn'] at hp'
        exact h.disj g g' p p' hne (owns_old g hgn ho) (live_old g' hgn' hl) hp hp' hb
  · intro g p hp
    by_cases hgn : g = m.next
    · subst hgn
      rw [Pl.put_same] at hp
      cases hp
      exact ⟨Nat.lt_succ_self _, by simp⟩
    · rw [Pl.put_ne ρ _ hgn] at hp
      have := h.place g p hp
      exact ⟨Nat.lt_succ_of_lt this.1, by simp; omega⟩
  · intro g hg
    have hg' : m.next < g := hg
    rw [get_push, if_neg (by omega)]
    exact h.live g (by omega)
  · intro b hb _
    exact heap_alloc_old w _ hb
  · rintro b hb ⟨g, p, ho, hp, rfl⟩
    by_cases hgn : g = m.next
    · subst hgn
      rw [Pl.put_same] at hp
      cases hp
      simp at hb
    · rw [Pl.put_ne ρ _ hgn] at hp
      exact ⟨g, p, owns_old g hgn ho, hp, rfl⟩
  · rintro b hb ⟨g, p, ho, hp, rfl⟩
    by_cases hgn : g = m.next
    · subst hgn
      rw [Pl.put_same] at hp
      cases hp
      simp at hb
    · rw [Pl.put_ne ρ _ hgn] at hp
      exact ⟨g, p, live_old g hgn ho, hp, rfl⟩

/-- A new map. -/
theorem Rel.pushMap {ρ : Pl} {m : Mem} {w : World} (h : Rel ρ m w) :
    Rel (ρ.put m.next ⟨w.heap.size, 0, 1, 1, 0⟩) (m.push (.map [] 0)) (w.alloc (.map #[] 0)) ∧
    Ext ρ m w (ρ.put m.next ⟨w.heap.size, 0, 1, 1, 0⟩) (m.push (.map [] 0)) (w.alloc (.map #[] 0)) := by
  have hnn := h.none_next
  have hle := Pl.le_put (ρ := ρ) (g := m.next) ⟨w.heap.size, 0, 1, 1, 0⟩ hnn
  have live_old : ∀ g, g ≠ m.next → Live (m.push (.map [] 0)) g → Live m g := fun g hg hl => by
    unfold Live at *
    rw [get_push, if_neg hg] at hl
    exact hl
  have owns_old : ∀ g, g ≠ m.next → Owns (m.push (.map [] 0)) g → Owns m g := fun g hg hl => by
    unfold Owns at *
    rw [get_push, if_neg hg] at hl
    exact hl
  refine ⟨⟨?_, ?_, ?_, ?_, ?_⟩, ⟨hle, by simp, ?_, ?_, rfl, rfl, Nat.le_succ _, fun g hg => Pl.put_ne ρ _ (Nat.ne_of_lt hg), ?_⟩⟩
  · intro g cs₁ k₁ sz₁ hg
    rw [get_push] at hg
    by_cases hgn : g = m.next
    · rw [if_pos hgn] at hg; cases hg
    · rw [if_neg hgn] at hg
      obtain ⟨p, hp, hc⟩ := h.cells g cs₁ k₁ sz₁ hg
      have hb := (h.place g p hp).2
      refine ⟨p, hle _ _ hp, ⟨hc.n, hc.sz, hc.spare, ?_, ?_, ?_⟩⟩
      · intro i c hi
        obtain ⟨c', a, b⟩ := hc.cells i c hi
        exact ⟨c', by rw [cell_alloc_old w _ hb]; exact a, b.mono hle⟩
      · intro hr i hi; rw [cell_alloc_old w _ hb]; exact hc.room hr i hi
      · intro hr; exact (hc.tha hr).same (heap_alloc_old w _ hb)
  · intro g es c hg
    rw [get_push] at hg
    by_cases hgn : g = m.next
    · subst hgn
      rw [if_pos rfl] at hg
      simp only [Option.some.injEq, Blk.map.injEq] at hg
      obtain ⟨rfl, rfl⟩ := hg
      exact ⟨_, Pl.put_same _ _ _, rfl, rfl, rfl, heap_alloc_new w _⟩
    · rw [if_neg hgn] at hg
      obtain ⟨p, hp, h1, h2, h3, h4⟩ := h.map g es c hg
      exact ⟨p, hle _ _ hp, h1, h2, h3, by rw [heap_alloc_old w _ (h.place g p hp).2]; exact h4⟩
  · intro g g' p p' hne ho hl hp hp' hb
    by_cases hgn : g = m.next
    · subst hgn
      rw [Pl.put_same] at hp
      cases hp
      rw [Pl.put_ne ρ _ (Ne.symm hne)] at hp'
      have := (h.place g' p' hp').2
      simp only at hb
      omega
    · rw [Pl.put_ne ρ _ hgn] at hp
      by_cases hgn' : g' = m.next
      · subst hgn'
        rw [Pl.put_same] at hp'
        cases hp'
        have := (h.place g p hp).2
        simp only at hb
        omega
      · rw [Pl.put_ne ρ _ hgn'] at hp'
        exact h.disj g g' p p' hne (owns_old g hgn ho) (live_old g' hgn' hl) hp hp' hb
  · intro g p hp
    by_cases hgn : g = m.next
    · subst hgn
      rw [Pl.put_same] at hp
      cases hp
      exact ⟨Nat.lt_succ_self _, by simp⟩
    · rw [Pl.put_ne ρ _ hgn] at hp
      have := h.place g p hp
      exact ⟨Nat.lt_succ_of_lt this.1, by simp; omega⟩
  · intro g hg
    have hg' : m.next < g := hg
    rw [get_push, if_neg (by omega)]
    exact h.live g (by omega)
  · intro b hb _
    exact heap_alloc_old w _ hb
  · rintro b hb ⟨g, p, ho, hp, rfl⟩
    by_cases hgn : g = m.next
    · subst hgn
      rw [Pl.put_same] at hp
      cases hp
      simp at hb
    · rw [Pl.put_ne ρ _ hgn] at hp
      exact ⟨g, p, owns_old g hgn ho, hp, rfl⟩
  · rintro b hb ⟨g, p, ho, hp, rfl⟩
    by_cases hgn : g = m.next
    · subst hgn
      rw [Pl.put_same] at hp
      cases hp
      simp at hb
    · rw [Pl.put_ne ρ _ hgn] at hp
      exact ⟨g, p, live_old g hgn ho, hp, rfl⟩

end Go.Abs
