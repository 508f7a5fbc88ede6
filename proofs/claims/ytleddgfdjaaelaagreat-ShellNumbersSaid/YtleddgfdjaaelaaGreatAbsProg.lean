/- The interpreter over this program. Conditions: none. -/
import Derived.Test.YtleddgfdjaaelaaGreatAbsDrawOk
import Derived.Test.YtleddgfdjaaelaaGreatRows
namespace Go.Abs

noncomputable def fnsOf : Nat → List Func → PM Func → PM Func
  | _, [], t => t
  | i, v :: r, t => fnsOf (i + 1) r (t.set i v)

theorem fnsOf_get : ∀ (l : List Func) (i : Nat) (t : PM Func) (k : Nat), (fnsOf i l t).get k = if i ≤ k ∧ k < i + l.length then l[k - i]? else t.get k := by
  intro l
  induction l with
  | nil => intro i t k; rw [if_neg (by simp only [List.length_nil]; omega)]; rfl
  | cons x l ih =>
    intro i t k
    unfold fnsOf
    rw [ih, PM.get_set]
    simp only [List.length_cons]
    by_cases h1 : i + 1 ≤ k ∧ k < i + 1 + l.length
    · rw [if_pos h1, if_pos (by omega)]
      rw [show k - i = (k - (i + 1)) + 1 by omega, List.getElem?_cons_succ]
    · rw [if_neg h1]
      by_cases h2 : k = i
      · subst h2
        rw [if_pos rfl, if_pos (by omega)]
        simp
      · rw [if_neg h2, if_neg (by omega)]

def namesOk : List Func → Bool
  | [] => true
  | f :: r => cond (f.body.isNone || !(f.name == "runtime.NumGoroutine")) (namesOk r) false

theorem namesOk_spec : ∀ {l : List Func}, namesOk l = true → ∀ f ∈ l, f.body.isNone = false → (f.name == "runtime.NumGoroutine") = false
  | [], _, f, h => by cases h
  | x :: l, h, f, hf => by
    obtain ⟨h1, h2⟩ := cond_and h
    rcases List.mem_cons.1 hf with rfl | hf
    · intro hb
      rw [hb] at h1
      simpa using h1
    · exact namesOk_spec h2 f hf

theorem funs_of {P : Program} (h : namesOk P.funcs.toList = true) : Funs P (fnsOf 0 P.funcs.toList .nil) := by
  intro f fn hf
  rw [fnsOf_get] at hf
  by_cases hb : 0 ≤ f ∧ f < 0 + P.funcs.toList.length
  · rw [if_pos hb, Nat.sub_zero] at hf
    exact ⟨by simpa using hf, namesOk_spec h fn (List.mem_of_getElem? hf)⟩
  · rw [if_neg hb, PM.get_nil] at hf
    cases hf

end Go.Abs
namespace Go.Proofs.YtleddgfdjaaelaaGreat
open Go.Abs

theorem names : namesOk Tryz.prog.funcs.toList = true := by kernel_rfl
noncomputable def fns : PM Func := fnsOf 0 Tryz.prog.funcs.toList .nil
theorem funs : Funs Tryz.prog fns := funs_of names
theorem mixed : Tryz.prog.follows .mixedOrders = true := by kernel_rfl

noncomputable def run (orc : Orc) (n : Nat) : CallF := callN Tryz.prog (region Tryz.prog) 1000000 fns orc n

theorem run_ok {orc : Orc} (h : OrcOk Tryz.prog orc) (n : Nat) : CallOk Tryz.prog (run orc n) := sound_callN funs (fun _ hc N => region_ok mixed hc N) h n

theorem none_ok : OrcOk Tryz.prog .nil := by
  intro f g h
  rw [PM.get_nil] at h
  cases h

def isTrue : Res → Bool
  | some (.bool b, _) => b
  | _ => false

end Go.Proofs.YtleddgfdjaaelaaGreat
