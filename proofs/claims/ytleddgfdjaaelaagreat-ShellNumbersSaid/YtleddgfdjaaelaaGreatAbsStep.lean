/- One operation, whichever it is. Conditions: what a call does is given by CallOk. -/
import Derived.Test.YtleddgfdjaaelaaGreatAbsConv
namespace Go.Abs
section
variable {P : Program} {o : Oper} {a : Act} {w : World} {ρ : Pl} {tm : PM Value} {m m' : Mem} {v : Value}

/-- What comes back from a call. -/
def Back (ρ : Pl) (m : Mem) (w : World) (v : Value) (m' : Mem) : Ending → World → Prop := fun e w' => ∃ ρ' v', e = .returned v' ∧ Rel ρ' m' w' ∧ Ext ρ m w ρ' m' w' ∧ VR ρ' v v'

/-- A function that has a body and stands under a name of its own. -/
def Own (P : Program) (f : FuncId) : Prop := ∃ fn, P.funcs[f]? = some fn ∧ fn.body.isNone = false ∧ (fn.name == "runtime.NumGoroutine") = false

def CallOk (P : Program) (call : CallF) : Prop :=
  ∀ f as m v m', call f as m = some (v, m') → Own P f ∧ ∀ ρ w as', VRs ρ as as' → Rel ρ m w → Calls P f ⟨as'⟩ w (Back ρ m w v m')

theorem VBs.VRs {ρ : Pl} : ∀ {a b : List Value}, VBs ρ a b → VRs ρ a b
  | _, _, .nil => .nil
  | _, _, .cons h t => .cons (.vb h) (VBs.VRs t)

theorem sound_call {call : CallF} {c : Call} (hcall : CallOk P call) (ho : o.op = .call c) (h : callOp P call tm m c = some (v, m')) (ht : TR ρ tm a) (hr : Rel ρ m w) : Sound P o a w ρ m v m' := by
  unfold callOp at h
  split at h
  case h_3 => cases h
  case h_2 b hc => exact sound_builtin ho hc h ht hr
  case h_1 x hc =>
    split at h
    case h_2 => cases h
    rename_i f first cap hx
    have hv := ht.ev x
    rw [hx] at hv
    obtain ⟨first', cap', he, hf, hk⟩ := VR.func_inv hv
    obtain ⟨⟨fn, hfn, hb, hn⟩, hspec⟩ := hcall f _ m v m' h
    intro K Q hK
    have := hspec ρ w _ (VRs.append (VRs.append hf.VRs (evs_VRs ht c.args.toList)) hk.VRs) hr
    have hex : (execOp a.eval o).run P w = .ok (.enter f ⟨first' ++ c.args.toList.map a.eval ++ cap'⟩) w := by
      have ha : (⟨first'⟩ ++ (c.args.map a.eval ++ ⟨cap'⟩) : Array Value) = ⟨first' ++ (c.args.toList.map a.eval ++ cap')⟩ := by
        apply Array.ext'
        simp
      have hn' : ¬ fn.name = "runtime.NumGoroutine" := by simpa using hn
      have hb' : ¬ fn.body = none := by intro e; rw [e] at hb; cases hb
      unfold execOp
      simp only [ho]
      simp [resolve, hc, he, Deferred.ofValue, invoke, callFunc, hfn, hb', hn', Sem.run_bind, ha]
    unfold Oper.wp
    rw [hex, Oper.upon_enter]
    refine Calls.mono this ?_
    rintro e w' ⟨ρ', v', rfl, h1, h2, h3⟩
    exact hK ρ' v' w' h1 h2 h3

theorem sound_step {call : CallF} (hcall : CallOk P call) (h : stepOp P call tm m o.op = some (v, m')) (ht : TR ρ tm a) (hr : Rel ρ m w) : Sound P o a w ρ m v m' := by
  cases ho : o.op with
  | move x => rw [ho] at h; exact sound_move (.inl ho) h ht hr
  | assign x => rw [ho] at h; exact sound_move (.inr ho) h ht hr
  | pick c x y => rw [ho] at h; exact sound_pick ho h ht hr
  | alloc t => rw [ho] at h; exact sound_alloc ho h hr
  | box t x => rw [ho] at h; exact sound_box ho h ht hr
  | build t ps => rw [ho] at h; exact sound_build ho h ht hr
  | buildSlice t n ps => rw [ho] at h; exact sound_buildSlice ho h ht hr
  | load t x => rw [ho] at h; exact sound_load ho h ht hr
  | store t x y => rw [ho] at h; exact sound_store ho h ht hr
  | nilCheck x => rw [ho] at h; exact sound_nilCheck ho h ht hr
  | binOp op t x y t' => rw [ho] at h; exact sound_binOp ho h ht hr
  | unOp op t x => rw [ho] at h; exact sound_unOp ho h ht hr
  | convert s d x => rw [ho] at h; exact sound_conv ho h ht hr
  | makeFunc fn x y => rw [ho] at h; exact sound_makeFunc ho h ht hr
  | makeMap t r =>
    rw [ho] at h
    cases r with
    | none => exact sound_makeMap ho h hr
    | some r => cases h
  | makeSlice t l c => rw [ho] at h; exact sound_makeSlice ho h ht hr
  | slice t x lo hi mx => rw [ho] at h; exact sound_slice ho h ht hr
  | fieldAddr t x f => rw [ho] at h; exact sound_fieldAddr ho h ht hr
  | field t x f => rw [ho] at h; exact sound_field ho h ht hr
  | indexAddr t x i => rw [ho] at h; exact sound_indexAddr ho h ht hr
  | index t x i => rw [ho] at h; exact sound_index ho h ht hr
  | extract t i => rw [ho] at h; exact sound_extract ho h ht hr
  | call c => rw [ho] at h; exact sound_call hcall ho h ht hr
  | _ => rw [ho] at h; cases h

end
end Go.Abs
