/- A region whose order is drawn: a plan of it, and that every order does what the plan says. Conditions: the plan's own facts. -/
import Derived.Test.YtleddgfdjaaelaaGreatAbsHas
namespace Go.Abs

def isR (P : Program) : Op → Bool
  | .load _ _ => true
  | .convert _ d _ => (match P.underlying d with
    | some (.slice _) => false
    | _ => true)
  | _ => false

structure Xt where
  i : Nat
  b : Blk

structure Ch where
  w : Nat
  p : Nat
  s : Mem

def TOP : Nat := 4294967296
def topM : Mem := ⟨.nil, TOP⟩

def topS (base : Mem) : List Ch → Mem
  | [] => base
  | e :: _ => e.s

def topP : List Ch → Nat
  | [] => 0
  | e :: _ => e.p

noncomputable def withX (a0 : Nat) (S : Mem) (pw : Nat) : List Xt → Mem
  | [] => S
  | x :: r => cond (Nat.testBit pw x.i) (withX a0 S pw r) ((withX a0 S pw r).put (a0 + x.i) x.b)

def noTop : Value → Bool
  | .pointer (some ⟨g, _, _⟩) => Nat.blt g TOP
  | .slice (some ⟨g, _, _⟩) _ _ => Nat.blt g TOP
  | .map (some g) => Nat.blt g TOP
  | _ => true

def allNoTop : List Value → Bool
  | [] => true
  | v :: r => cond (noTop v) (allNoTop r) false

def noTopB : Blk → Bool
  | .cells cs _ _ => allNoTop cs
  | .map [] _ => true
  | _ => false

def ren (α : Nat) : Value → Option Value
  | .pointer (some ⟨g, o, none⟩) => cond (Nat.beq g TOP) (some (.pointer (some ⟨α, o, none⟩))) none
  | .slice (some ⟨g, o, none⟩) n c => cond (Nat.beq g TOP) (some (.slice (some ⟨α, o, none⟩) n c)) none
  | .map (some g) => cond (Nat.beq g TOP) (some (.map (some α))) none
  | _ => none

section
variable {P : Program} {w w' : World} {ρ ρ' ρ'' : Pl} {m m' S : Mem}

theorem noTop_SR {c c' : Value} (h : SR ρ' c c') (hn : noTop c = true) (hr : ∀ g p, g < TOP → ρ' g = some p → ρ'' g = some p) : SR ρ'' c c' := by
  cases h with
  | bool => exact .bool _
  | int => exact .int _ _
  | string => exact .string _
  | nilptr => exact .nilptr
  | nilslice => exact .nilslice
  | nilmap => exact .nilmap
  | nilFunc => exact .nilFunc
  | nilIface => exact .nilIface
  | ptr h => exact .ptr (hr _ _ (Nat.le_of_ble_eq_true hn) h)
  | slice h hc => exact .slice (hr _ _ (Nat.le_of_ble_eq_true hn) h) hc
  | slice0 => exact .slice0
  | map h => exact .map (hr _ _ (Nat.le_of_ble_eq_true hn) h)

theorem allNoTop_get : ∀ {cs : List Value}, allNoTop cs = true → ∀ {i : Nat} {c : Value}, cs[i]? = some c → noTop c = true
  | [], _, i, c, h => by simp at h
  | x :: r, hn, i, c, h => by
    unfold allNoTop at hn
    cases hx : noTop x with
    | false => rw [hx] at hn; cases hn
    | true =>
      rw [hx] at hn
      cases i with
      | zero => simp only [List.getElem?_cons_zero, Option.some.injEq] at h; subst h; exact hx
      | succ i => exact allNoTop_get hn (by simpa using h)

theorem noTopB_HasAt {blk : Blk} {q : Place} (h : HasAt ρ' w blk q) (hn : noTopB blk = true) (hr : ∀ g p, g < TOP → ρ' g = some p → ρ'' g = some p) : HasAt ρ'' w blk q := by
  cases blk with
  | cells cs k sz =>
    exact { h with cells := fun i c hc => let ⟨c', a, b⟩ := CellsAt.cells h i c hc; ⟨c', a, noTop_SR b (allNoTop_get hn hc) hr⟩ }
  | map es c => exact h
  | dead => trivial

theorem ren_VR {α : Nat} {v u v' : Value} {q : Place} (h : VR ρ' v v') (hu : ren α v = some u) (hq : ρ' TOP = some q) (hα : ρ'' α = some q) : VR ρ'' u v' := by
  unfold ren at hu
  split at hu
  case h_4 => cases hu
  case h_1 g o =>
    cases hb : Nat.beq g TOP with
    | false => rw [hb] at hu; cases hu
    | true =>
      rw [hb] at hu
      simp only [cond_true, Option.some.injEq] at hu
      subst hu
      obtain rfl := Nat.eq_of_beq_eq_true hb
      obtain ⟨p, hp, _, rfl⟩ := VR.ptr_inv h
      simp only at hp
      rw [hq] at hp
      cases hp
      exact .vb (.sc (.ptr hα))
  case h_2 g o n c =>
    cases hb : Nat.beq g TOP with
    | false => rw [hb] at hu; cases hu
    | true =>
      rw [hb] at hu
      simp only [cond_true, Option.some.injEq] at hu
      subst hu
      obtain rfl := Nat.eq_of_beq_eq_true hb
      rcases VR.slice_inv h with ⟨p, c', hp, _, rfl, hc⟩ | ⟨rfl, rfl, y, rfl⟩
      · simp only at hp hc
        rw [hq] at hp
        cases hp
        exact .vb (.sc (.slice hα hc))
      · exact .vb (.sc .slice0)
  case h_3 g =>
    cases hb : Nat.beq g TOP with
    | false => rw [hb] at hu; cases hu
    | true =>
      rw [hb] at hu
      simp only [cond_true, Option.some.injEq] at hu
      subst hu
      obtain rfl := Nat.eq_of_beq_eq_true hb
      obtain ⟨p, hp, rfl⟩ := VR.map_inv h
      rw [hq] at hp
      cases hp
      exact .vb (.sc (.map hα))

theorem topM_none (g : Nat) : topM.b.get g = none := PM.get_nil g
theorem not_LiveB_top {b : Nat} : ¬ LiveB ρ topM b := by
  rintro ⟨g, p, hl, _, _⟩
  rcases hl with ⟨_, _, _, h⟩ | ⟨_, _, h⟩ <;> (rw [topM_none] at h; cases h)

/-- Any related memory holds the empty one. -/
theorem Rel.top (h : Rel ρ S w) (hn : S.next ≤ TOP) : Rel ρ topM w where
  cells g cs k sz e := by rw [topM_none] at e; cases e
  map g es c e := by rw [topM_none] at e; cases e
  disj g g' p p' _ ho _ _ _ _ := by
    rcases ho.live with ⟨_, _, _, h⟩ | ⟨_, _, h⟩ <;> (rw [topM_none] at h; cases h)
  place g p e := ⟨Nat.lt_of_lt_of_le (h.place g p e).1 hn, (h.place g p e).2⟩
  live g _ := topM_none g

structure Plan (P : Program) (call : CallF) (N : Nat) (ops : Array Oper) (base : Mem) (a0 : Nat) (tm0 : PM Value) where
  pre : Nat → Nat
  dst : Nat → Option Nat
  tmF : Nat → Option Value
  ch : List Ch
  xs : List Xt

variable {call : CallF} {N : Nat} {ops : Array Oper} {base : Mem} {a0 : Nat} {tm0 : PM Value}

inductive Eff (pl : Plan P call N ops base a0 tm0) (j : Nat) (o : Oper) (tmr : PM Value) (v : Value) : Bool → Prop where
  | skip (hv : v = skp) (hc : ∀ e ∈ pl.ch, e.w ≠ j) (hx : ∀ x ∈ pl.xs, x.i ≠ j) : Eff pl j o tmr v false
  | pure (m' : Mem) (hs : stepOp P call tmr topM o.op = some (v, m')) (hm : m'.next = TOP) (hc : ∀ e ∈ pl.ch, e.w ≠ j) (hx : ∀ x ∈ pl.xs, x.i ≠ j) : Eff pl j o tmr v true
  | make (m' : Mem) (u : Value) (blk : Blk) (hs : stepOp P call tmr topM o.op = some (u, m')) (hm : m'.next = TOP + 1) (hb : m'.b.get TOP = some blk) (hn : noTopB blk = true) (hr : ren (a0 + j) u = some v)
      (hc : ∀ e ∈ pl.ch, e.w ≠ j) (hx : ∀ x ∈ pl.xs, x.i = j → x = ⟨j, blk⟩) : Eff pl j o tmr v true
  | read (hr : isR P o.op = true) (xj : List Xt) (hxj : ∀ x ∈ xj, x ∈ pl.xs ∧ Nat.testBit (pl.pre j) x.i = true) (hxp : xj.Pairwise fun x y => x.i ≠ y.i)
      (hs : ∀ a c, pl.ch = a ++ c → (∀ e ∈ a, Nat.testBit (pl.pre j) e.w = false) → (∀ e, c.head? = some e → Nat.testBit e.p j = false) → ∃ m', stepOp P call tmr (withX a0 (topS base c) (topP c) xj) o.op = some (v, m'))
      (hc : ∀ e ∈ pl.ch, e.w ≠ j) (hx : ∀ x ∈ pl.xs, x.i ≠ j) : Eff pl j o tmr v true
  | write (xj : List Xt) (hxj : ∀ x ∈ xj, x ∈ pl.xs ∧ Nat.testBit (pl.pre j) x.i = true) (hxp : xj.Pairwise fun x y => x.i ≠ y.i) (a c : List Ch) (s : Mem) (he : pl.ch = a ++ ⟨j, pl.pre j, s⟩ :: c)
      (hp : ∀ i, Nat.testBit (topP c) i = true → Nat.testBit (pl.pre j) i = true)
      (hs : stepOp P call tmr (withX a0 (topS base c) (topP c) xj) o.op = some (v, s)) (hx : ∀ x ∈ pl.xs, x.i ≠ j) : Eff pl j o tmr v true

structure Plan.Good (pl : Plan P call N ops base a0 tm0) : Prop where
  edge : ∀ j o, ops[j]? = some o → ∀ e ∈ o.after.toList, Region.binds .any e = true → e.on < j
  clos : ∀ j o, ops[j]? = some o → ∀ i, Nat.testBit (pl.pre j) i = true → ∃ e ∈ o.after.toList, Region.binds .any e = true ∧ (i = e.on ∨ Nat.testBit (pl.pre e.on) i = true)
  chp : ∀ e ∈ pl.ch, e.p = pl.pre e.w
  chn : ∀ a e c, pl.ch = a ++ e :: c → (∀ e' ∈ a, Nat.testBit e'.p e.w = true) ∧ (∀ e' ∈ c, Nat.testBit e.p e'.w = true)
  dstI : ∀ t j, pl.dst t = some j → ∃ o, ops[j]? = some o ∧ o.dst = some t
  xsb : ∀ x ∈ pl.xs, x.i < ops.size
  low : base.next ≤ TOP ∧ ∀ e ∈ pl.ch, e.s.next ≤ TOP
  cert : ∀ j o, ops[j]? = some o → ∃ tmr b v,
    (∀ t u, tmr.get t = some u → (∃ i, pl.dst t = some i ∧ Nat.testBit (pl.pre j) i = true ∧ pl.tmF t = some u) ∨ (tm0.get t = some u ∧ ∀ i, pl.dst t = some i → Nat.testBit (pl.pre i) j = true)) ∧
    guardB ops tmr o = some b ∧ (∀ d, o.dst = some d → d < N ∧ pl.dst d = some j ∧ pl.tmF d = some v) ∧ Eff pl j o tmr v b

def chD (D : Nat → Bool) (l : List Ch) : List Ch := l.dropWhile (fun e => !D e.w)

noncomputable def val (pl : Plan P call N ops base a0 tm0) (D : Nat → Bool) (t : Nat) : Option Value :=
  match pl.dst t with
  | some i => if D i = true then pl.tmF t else tm0.get t
  | none => tm0.get t

/-- How things stand when the operations in D are done. -/
structure Inv (pl : Plan P call N ops base a0 tm0) (ρ₀ : Pl) (w₀ : World) (D : Nat → Bool) (ρ : Pl) (a : Act) (w : World) : Prop where
  tr : ∀ t, VR ρ ((val pl D t).getD junk) (a.tmps.getD t undef)
  rel : Rel ρ (topS base (chD D pl.ch)) w
  ext : Ext ρ₀ ⟨base.b, a0⟩ w₀ ρ (topS base (chD D pl.ch)) w
  nxt : a0 + ops.size ≤ (topS base (chD D pl.ch)).next
  has : ∀ x ∈ pl.xs, D x.i = true → Nat.testBit (topP (chD D pl.ch)) x.i = false → ∃ q, ρ (a0 + x.i) = some q ∧ HasAt ρ w x.b q ∧ ¬ LiveB ρ (topS base (chD D pl.ch)) q.b ∧ w₀.heap.size ≤ q.b
  sep : ∀ x ∈ pl.xs, ∀ y ∈ pl.xs, x.i ≠ y.i → D x.i = true → D y.i = true → ∀ q q', ρ (a0 + x.i) = some q → ρ (a0 + y.i) = some q' → q.b ≠ q'.b
  fresh : ∀ j, j < ops.size → D j = false → ρ (a0 + j) = none
  size : a.tmps.size = N
  defers : a.defers = []

end
end Go.Abs
