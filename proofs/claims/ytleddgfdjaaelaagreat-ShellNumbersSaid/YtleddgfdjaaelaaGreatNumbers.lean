/- ShellNumbers returns true and leaves what was there. Conditions: none. -/
import Derived.Test.YtleddgfdjaaelaaGreatSeen
import Derived.Test.YtleddgfdjaaelaaGreatAbsBridge
import Derived.Test.YtleddgfdjaaelaaGreatSNumFacts
namespace Go.Proofs.YtleddgfdjaaelaaGreat
open Go.Abs Go.ChangeShapes Go.WideShapes Go.ChangeAt Go.RowKit

theorem numbers_calls (w : World) : Calls Tryz.prog 3 #[] w fun e w' => e = .returned (.bool true) ∧ w.kept w' := closed_calls orc_ok numbers_seen w

set_option maxRecDepth 100000 in
theorem shellNumbers_lifted (os : Os) (started : os.Started) (H : Type) (enc : TypeId × Value → H) :
    ReturnsInHanded {} Tryz.checked os 3 .any (Rows.shellNumbersSpec.pre6 enc Tryz.prog Tryz.f3 Rows.shellNumbersRow.domain false) (Rows.shellNumbersSpec.post enc Tryz.prog Tryz.f3 false true false false) := by
  refine returnsInHanded_of_change (C := Tryz.checked) Tryz.own started (by kernel_rfl) Tryz.func3
    (ChangeSpec.witness6 (enc := enc) (C := Tryz.checked) false ⟨#[], #[], []⟩ 8 (by kernel_rfl) (by kernel_rfl) (by kernel_rfl) (by kernel_rfl)) ?_
  intro W base args ds gs before hval0 hW hcnd _
  have hW' := hW
  obtain ⟨p, q, hA0, hV, rfl, hfz, hnd⟩ := hW
  have hA : DataW.TrodAll enc Tryz.prog W 0 (fun _ => true) true Tryz.f3.params.toList args.toList ds p := hA0
  rw [Tryz.params3] at hA
  obtain ⟨h1, rfl, rfl⟩ := trodAll_nil hA
  obtain ⟨rfl, rfl⟩ := trodVars_none hV
  obtain rfl : args = #[] := by
    cases args with
    | mk l => simp only at h1; subst h1; rfl
  clear hA0 hval0
  simp only [List.append_nil] at hW'
  refine (numbers_calls W).mono fun e W' ⟨he, hk⟩ => ?_
  subst he
  exact ⟨_, rfl, post_kept (pa := []) (pv := []) hW' (fun _ _ _ => trodAll_mk1 (shut_bool (by kernel_rfl) true)) (fun sp _ => trodAll_mk0) (fun _ _ => rfl) rfl
    (World.keptBut_mono (fun _ h => h.elim) (World.keptBut_none_iff.2 hk)) (fun _ _ h => by cases h) (ok_one (t := 4) (by kernel_rfl) rfl (okWide_bool_mk (by kernel_rfl) true))⟩

theorem shellNumbers_holds : Rows.ShellNumbersSaid :=
  OpenClaim.holds_of_wide 3 Tryz.f3 rfl rfl rfl rfl rfl rfl rfl ⟨rfl, rfl, rfl, rfl, rfl⟩ rfl rfl rfl rfl rfl (by kernel_rfl) Tryz.func3 snum_facts
    (of_decide_eq_true (by kernel_rfl)) (by unfold Func.isWrapper; first | (rw [if_pos (by decide +kernel)]; kernel_rfl) | (rw [if_neg (by decide +kernel)]; exact ⟨rfl, rfl⟩))
    (fun os started H enc _ => shellNumbers_lifted os started H enc)

end Go.Proofs.YtleddgfdjaaelaaGreat
