/- An interpreter of the model's code over a memory of its own, in which nothing hangs on the tape. Conditions: none; this text holds definitions and the laws of its tree of memory alone. -/
import Derived.Orders
import Derived.Calls
namespace Go.Abs

/-- A map from numbers, as a tree. -/
inductive PM (α : Type) where
  | nil
  | node (l : PM α) (v : Option α) (r : PM α)

namespace PM
variable {α : Type}
noncomputable def get (t : PM α) : Nat → Option α :=
  PM.rec (motive := fun _ => Nat → Option α) (fun _ => none) (fun _ v _ ihl ihr k => Nat.rec (motive := fun _ => Option α) v (fun k _ => Bool.rec (motive := fun _ => Option α) (ihr (Nat.div k 2)) (ihl (Nat.div k 2)) (Nat.beq (Nat.mod k 2) 0)) k) t

noncomputable def single (f : Nat) : Nat → α → PM α :=
  Nat.rec (motive := fun _ => Nat → α → PM α) (fun _ x => .node .nil (some x) .nil) (fun _ ih k x => Nat.rec (motive := fun _ => PM α) (.node .nil (some x) .nil)
    (fun k _ => Bool.rec (motive := fun _ => PM α) (.node .nil none (ih (Nat.div k 2) x)) (.node (ih (Nat.div k 2) x) none .nil) (Nat.beq (Nat.mod k 2) 0)) k) f

noncomputable def set (t : PM α) : Nat → α → PM α :=
  PM.rec (motive := fun _ => Nat → α → PM α) (fun k x => single k k x) (fun l v r ihl ihr k x => Nat.rec (motive := fun _ => PM α) (.node l (some x) r)
    (fun k _ => Bool.rec (motive := fun _ => PM α)
      (PM.rec (motive := fun _ => PM α) (.node l v .nil) (fun a b c _ _ => .node l v (.node a b c)) (ihr (Nat.div k 2) x))
      (PM.rec (motive := fun _ => PM α) (.node .nil v r) (fun a b c _ _ => .node (.node a b c) v r) (ihl (Nat.div k 2) x)) (Nat.beq (Nat.mod k 2) 0)) k) t

theorem get_nil (k : Nat) : (nil : PM α).get k = none := rfl
theorem get_zero (l r : PM α) (v : Option α) : (node l v r).get 0 = v := rfl
theorem get_even (l r : PM α) (v : Option α) {k : Nat} (h : k % 2 = 0) : (node l v r).get (k + 1) = l.get (k / 2) := by
  show Bool.rec (motive := fun _ => Option α) (r.get (k / 2)) (l.get (k / 2)) (Nat.beq (k % 2) 0) = _
  rw [h]; rfl
theorem get_odd (l r : PM α) (v : Option α) {k : Nat} (h : k % 2 = 1) : (node l v r).get (k + 1) = r.get (k / 2) := by
  show Bool.rec (motive := fun _ => Option α) (r.get (k / 2)) (l.get (k / 2)) (Nat.beq (k % 2) 0) = _
  rw [h]; rfl

theorem parity (k : Nat) : k % 2 = 0 ∨ k % 2 = 1 := by omega

theorem single_zero (f : Nat) (x : α) : single f 0 x = node nil (some x) nil := by cases f <;> rfl
theorem single_even (f : Nat) {k : Nat} (x : α) (h : k % 2 = 0) : single (f + 1) (k + 1) x = node (single f (k / 2) x) none nil := by
  show Bool.rec (motive := fun _ => PM α) (.node .nil none (single f (k / 2) x)) (.node (single f (k / 2) x) none .nil) (Nat.beq (k % 2) 0) = _
  rw [h]; rfl
theorem single_odd (f : Nat) {k : Nat} (x : α) (h : k % 2 = 1) : single (f + 1) (k + 1) x = node nil none (single f (k / 2) x) := by
  show Bool.rec (motive := fun _ => PM α) (.node .nil none (single f (k / 2) x)) (.node (single f (k / 2) x) none .nil) (Nat.beq (k % 2) 0) = _
  rw [h]; rfl

theorem get_single (x : α) : ∀ (f k j : Nat), k ≤ f → (single f k x).get j = if j = k then some x else none := by
  intro f
  induction f with
  | zero =>
    intro k j h
    obtain rfl : k = 0 := by omega
    rw [single_zero]
    cases j with
    | zero => rfl
    | succ j =>
      rw [if_neg (by omega)]
      rcases parity j with e | e
      · rw [get_even _ _ _ e, get_nil]
      · rw [get_odd _ _ _ e, get_nil]
  | succ f ih =>
    intro k j h
    cases k with
    | zero =>
      rw [single_zero]
      cases j with
      | zero => rfl
      | succ j =>
        rw [if_neg (by omega)]
        rcases parity j with e | e
        · rw [get_even _ _ _ e, get_nil]
        · rw [get_odd _ _ _ e, get_nil]
    | succ k =>
      rcases parity k with e | e
      · rw [single_even f x e]
        cases j with
        | zero => rw [if_neg (by omega)]; rfl
        | succ j =>
          rcases parity j with e' | e'
          · rw [get_even _ _ _ e', ih _ _ (by omega)]
            by_cases hj : j = k
            · rw [if_pos (by rw [hj]), if_pos (by rw [hj])]
            · rw [if_neg (by omega), if_neg (by omega)]
          · rw [get_odd _ _ _ e', get_nil, if_neg (by omega)]
      · rw [single_odd f x e]
        cases j with
        | zero => rw [if_neg (by omega)]; rfl
        | succ j =>
          rcases parity j with e' | e'
          · rw [get_even _ _ _ e', get_nil, if_neg (by omega)]
          · rw [get_odd _ _ _ e', ih _ _ (by omega)]
            by_cases hj : j = k
            · rw [if_pos (by rw [hj]), if_pos (by rw [hj])]
            · rw [if_neg (by omega), if_neg (by omega)]

theorem set_nil (k : Nat) (x : α) : (nil : PM α).set k x = single k k x := rfl
theorem set_zero (l r : PM α) (v : Option α) (x : α) : (node l v r).set 0 x = node l (some x) r := rfl
theorem set_even (l r : PM α) (v : Option α) {k : Nat} (x : α) (h : k % 2 = 0) : (node l v r).set (k + 1) x = node (l.set (k / 2) x) v r := by
  show Bool.rec (motive := fun _ => PM α)
      (PM.rec (motive := fun _ => PM α) (.node l v .nil) (fun a b c _ _ => .node l v (.node a b c)) (r.set (k / 2) x))
      (PM.rec (motive := fun _ => PM α) (.node .nil v r) (fun a b c _ _ => .node (.node a b c) v r) (l.set (k / 2) x)) (Nat.beq (k % 2) 0) = _
  rw [h]
  cases h' : l.set (k / 2) x <;> rfl
theorem set_odd (l r : PM α) (v : Option α) {k : Nat} (x : α) (h : k % 2 = 1) : (node l v r).set (k + 1) x = node l v (r.set (k / 2) x) := by
  show Bool.rec (motive := fun _ => PM α)
      (PM.rec (motive := fun _ => PM α) (.node l v .nil) (fun a b c _ _ => .node l v (.node a b c)) (r.set (k / 2) x))
      (PM.rec (motive := fun _ => PM α) (.node .nil v r) (fun a b c _ _ => .node (.node a b c) v r) (l.set (k / 2) x)) (Nat.beq (k % 2) 0) = _
  rw [h]
  cases h' : r.set (k / 2) x <;> rfl

theorem get_set (x : α) : ∀ (t : PM α) (k j : Nat), (t.set k x).get j = if j = k then some x else t.get j := by
  intro t
  induction t with
  | nil => intro k j; rw [set_nil, get_single x k k j (Nat.le_refl _), get_nil]
  | node l v r ihl ihr =>
    intro k j
    cases k with
    | zero =>
      rw [set_zero]
      cases j with
      | zero => rfl
      | succ j =>
        rw [if_neg (by omega)]
        rcases parity j with e | e
        · rw [get_even _ _ _ e, get_even _ _ _ e]
        · rw [get_odd _ _ _ e, get_odd _ _ _ e]
    | succ k =>
      rcases parity k with e | e
      · rw [set_even _ _ _ _ e]
        cases j with
        | zero => rw [if_neg (by omega)]; rfl
        | succ j =>
          rcases parity j with e' | e'
          · rw [get_even _ _ _ e', get_even _ _ _ e', ihl]
            by_cases hj : j = k
            · rw [if_pos (by rw [hj]), if_pos (by rw [hj])]
            · rw [if_neg (by omega), if_neg (by omega)]
          · rw [get_odd _ _ _ e', get_odd _ _ _ e', if_neg (by omega)]
      · rw [set_odd _ _ _ _ e]
        cases j with
        | zero => rw [if_neg (by omega)]; rfl
        | succ j =>
          rcases parity j with e' | e'
          · rw [get_even _ _ _ e', get_even _ _ _ e', if_neg (by omega)]
          · rw [get_odd _ _ _ e', get_odd _ _ _ e', ihr]
            by_cases hj : j = k
            · rw [if_pos (by rw [hj]), if_pos (by rw [hj])]
            · rw [if_neg (by omega), if_neg (by omega)]

theorem get_set_same (t : PM α) (k : Nat) (x : α) : (t.set k x).get k = some x := by rw [get_set, if_pos rfl]
theorem get_set_ne (t : PM α) {k j : Nat} (x : α) (h : j ≠ k) : (t.set k x).get j = t.get j := by rw [get_set, if_neg h]
end PM

/-- What stands in a temporary of which nothing is told. -/
def junk : Value := .complex .f32 0 0

/-- grow: there may be more room behind the cells, whose it is nobody else's; exact: there is none; ro: it is not written. -/
inductive Kind where
  | grow | exact | ro

inductive Blk where
  | cells (cs : List Value) (k : Kind) (sz : Nat)
  | map (es : List MapEntry) (clock : Nat)
  | dead

structure Mem where
  b : PM Blk
  next : Nat

def szOf (P : Program) (t : TypeId) : Option Nat := (P.info? t).map (·.size)
def bytesOf (P : Program) (t : TypeId) : Nat := match P.info? t with | some i => i.bytes | none => 0
def aggD : TypeDesc → Bool
  | .struct _ => true
  | .array _ _ => true
  | _ => false
def aggT (P : Program) (t : TypeId) : Option Bool := (P.underlying t).map aggD

/-- The cells of a value that may stand in memory. -/
def cellsOf : Value → Option (List Value)
  | .agg ⟨cs⟩ => some cs
  | .bool b => some [.bool b]
  | .int k n => some [.int k n]
  | .string s => some [.string s]
  | .pointer a => some [.pointer a]
  | .slice a n c => some [.slice a n c]
  | .map r => some [.map r]
  | .nilFunc => some [.nilFunc]
  | .nilIface => some [.nilIface]
  | _ => none

/-- A value without an address in it, of one cell. -/
def plain1 : Value → Bool
  | .bool _ => true
  | .int _ _ => true
  | .string _ => true
  | .pointer none => true
  | .slice none 0 0 => true
  | .map none => true
  | .nilFunc => true
  | .nilIface => true
  | _ => false

def allPlain : List Value → Bool
  | [] => true
  | v :: r => cond (plain1 v) (allPlain r) false

def plainV : Value → Bool
  | .agg ⟨cs⟩ => allPlain cs
  | v => plain1 v

/-- The zero value's cells of a type; none: there is none here. -/
def zeroCs (P : Program) (t : TypeId) : Option (List Value) := match P.info? t with
  | some i => match i.zero with
    | some z => match cellsOf z with
      | some cs => cond (allPlain cs && Nat.beq cs.length i.size) (some cs) none
      | none => none
    | none => none
  | none => none

def zeroV (P : Program) (t : TypeId) : Option Value := match P.info? t with
  | some i => match i.zero with
    | some z => cond (plainV z) (some z) none
    | none => none
  | none => none

def constV (v : Value) : Value := cond (plainV v) v junk

noncomputable def ev (tm : PM Value) : Operand → Value
  | .tmp t => (tm.get t).getD junk
  | .const v => constV v
  | .global _ => junk
  | .func f => .func (.func f) #[] #[]

noncomputable def Mem.put (m : Mem) (g : Nat) (b : Blk) : Mem := { m with b := m.b.set g b }
noncomputable def Mem.push (m : Mem) (b : Blk) : Mem := { b := m.b.set m.next b, next := Nat.succ m.next }

/-- n cells of a list from an offset on, all of which are there. -/
def rdL (cs : List Value) (off n : Nat) : Option (List Value) :=
  cond (Nat.ble (Nat.add off n) cs.length) (some ((cs.drop off).take n)) none

noncomputable def rd (m : Mem) (g off n : Nat) : Option (List Value) :=
  match m.b.get g with
  | some (.cells cs _ _) => rdL cs off n
  | _ => none

def splice : Nat → List Value → List Value → List Value
  | 0, cs, news => news ++ cs.drop news.length
  | k + 1, c :: r, news => c :: splice k r news
  | _ + 1, [], _ => []

noncomputable def wr (m : Mem) (g off : Nat) (news : List Value) : Option Mem :=
  match m.b.get g with
  | some (.cells cs k sz) => match k with
    | .ro => none
    | k => cond (Nat.ble (Nat.add off news.length) cs.length) (some (m.put g (.cells (splice off cs news) k sz))) none
  | _ => none

noncomputable def loadT (P : Program) (m : Mem) (t : TypeId) (g off : Nat) : Option Value :=
  match aggT P t with
  | some true => (match szOf P t with
    | some n => (match rd m g off n with
      | some cs => some (.agg ⟨cs⟩)
      | none => none)
    | none => none)
  | some false => (match rd m g off 1 with
    | some [c] => some c
    | _ => none)
  | none => none

def partOf (P : Program) (t : TypeId) (cs : List Value) (off : Nat) : Option Value :=
  match aggT P t with
  | some true => (match szOf P t with
    | some n => (match rdL cs off n with
      | some r => some (.agg ⟨r⟩)
      | none => none)
    | none => none)
  | some false => cs[off]?
  | none => none

def fieldOf (P : Program) (t : TypeId) (f : Nat) : Option Field :=
  match P.underlying t with
  | some (.struct fs) => fs[f]?
  | _ => none

/-- Equality of cells that hold no address; none: it is not decided. -/
def veqCells : List Value → List Value → Option Bool
  | [], [] => some true
  | x :: xs, y :: ys => match x, y with
    | .int k a, .int l b => if k = l then (if a = b then veqCells xs ys else some false) else none
    | _, _ => none
  | _, _ => none

def veq : Value → Value → Option Bool
  | .bool a, .bool b => some (a == b)
  | .string a, .string b => some (a == b)
  | .pointer none, .pointer none => some true
  | .pointer none, .pointer (some _) => some false
  | .pointer (some _), .pointer none => some false
  | .slice none _ _, .slice none _ _ => some true
  | .slice none _ _, .slice (some _) _ _ => some false
  | .slice (some _) _ _, .slice none _ _ => some false
  | .map none, .map none => some true
  | .map none, .map (some _) => some false
  | .map (some _), .map none => some false
  | _, _ => none

end Go.Abs
