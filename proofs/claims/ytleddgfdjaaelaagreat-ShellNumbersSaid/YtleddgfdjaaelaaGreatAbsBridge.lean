/- From the interpreter to a statement without arguments. Conditions: none. -/
import Derived.Test.YtleddgfdjaaelaaGreatAbsLent
import Derived.ProofKit
namespace Go.Proofs.YtleddgfdjaaelaaGreat
open Go.Abs Go.ChangeShapes Go.WideShapes Go.ChangeAt Go.RowKit

theorem Tryz.own : ownKnob Tryz.prog.godebug = none := by kernel_rfl

/-- What an argumentless call leaves. -/
theorem kept_of_back {ρ : Pl} {m m' : Mem} {w w' : World} {v : Value} {e : Ending} (hm : Meek m) (h : Back ρ m w v m' e w') : w.kept w' := by
  obtain ⟨_, _, _, _, hx, _⟩ := h
  exact ⟨hx.os, hx.output, fun i hi => hx.keep i hi hm.ownB⟩

theorem true_of_back {ρ : Pl} {m m' : Mem} {w w' : World} {e : Ending} (h : Back ρ m w (.bool true) m' e w') : e = .returned (.bool true) := by
  obtain ⟨_, v', he, _, _, hv⟩ := h
  rw [VR.bool_inv hv] at he
  exact he

theorem closed_calls {orc : Orc} (ho : OrcOk Tryz.prog orc) {n f : Nat} (h : isTrue (run orc n f [] bare) = true) (w : World) :
    Calls Tryz.prog f #[] w fun e w' => e = .returned (.bool true) ∧ w.kept w' := by
  obtain ⟨_, h2⟩ := lent_none ho h
  exact Calls.mono (h2 (fun _ => none) bare w (bare_rel w)) (fun e w' hb => ⟨true_of_back hb, kept_of_back bare_meek hb⟩)

section
variable {H : Type} {enc : TypeId × Value → H} {P : Program}

theorem post_kept {f : Func} {s : ChangeSpec} {apart fresh handsOn again : Bool} {W W' : World} {args : Array Value} {v : Value} {ds gs : List (DataW H)} {before pa pv : List MemPlace}
    (hW : DataW.Whole enc P f.params.toList s.vars apart W args.toList ds gs before)
    (hres : ∀ (b : Nat) (sp : Nat → Bool) (hd : Bool), DataW.TrodAll enc P W' b sp hd f.resultTypes.toList (v.resultList f.resultTypes.size) (s.fn H (ds ++ gs)).results [])
    (hargs : ∀ sp : Nat → Bool, (∀ p ∈ before, sp p.block = true) → DataW.TrodAll enc P W' 0 sp true f.params.toList args.toList (s.fn H (ds ++ gs)).args pa)
    (hvars : ∀ sp : Nat → Bool, (∀ p ∈ before, sp p.block = true) → DataW.TrodVars enc P W' sp s.vars (s.fn H (ds ++ gs)).vars pv)
    (hps : before = pa ++ pv) (hk : W.keptBut W' (· ∈ before)) (hfz : ∀ b off, .cell b off ∈ before → W'.frozen? ⟨b, off, none⟩ = W.frozen? ⟨b, off, none⟩)
    (hok : ∀ (j : Nat) (t : TypeId) (r : Value), f.resultTypes[j]? = some t → (v.resultList f.resultTypes.size)[j]? = some r → Value.okWide P W' .any 0 t r) :
    s.post enc P f apart fresh handsOn again W args v W' := by
  have hold : ∀ p ∈ before, (fun b => decide (b < W.heap.size)) p.block = true := fun p hp => by simpa using hW.lt p hp
  refine ⟨ds, gs, before, [], pa, pv, hW, hres _ _ _, hargs _ hold, hvars _ hold, World.keptBut_mono (fun p hp => ⟨hp, ?_⟩) hk, fun _ => ?_⟩
  · rw [hps, List.mem_append] at hp
    exact Or.inr hp
  · obtain ⟨_, _, _, _, _, hz, hn⟩ := hW
    refine ⟨hok, _, _, ([] ++ pa) ++ pv, ⟨[] ++ pa, pv, trodAll_append (hargs _ (fun _ _ => rfl)) (hres _ _ _), hvars _ (fun _ _ => rfl), rfl, ?_, ?_⟩, ?_⟩
    · intro b off hp
      have hb : MemPlace.cell b off ∈ before := by rw [hps]; simpa using hp
      rw [hfz b off hb]
      exact hz b off hb
    · intro ha
      have := hn ha
      rw [hps] at this
      simpa using this
    · intro p hp _
      rw [hps]
      simpa using hp

end
end Go.Proofs.YtleddgfdjaaelaaGreat
