/- Calls: the interpreter's run of a function is what the model's run does. Conditions: the regions and the functions called are sound. -/
import Derived.Test.YtleddgfdjaaelaaGreatAbsCode
namespace Go.Abs
section
variable {P : Program} {w : World} {ρ : Pl} {tm : PM Value} {m m' : Mem} {v : Value} {a : Act}

theorem run_loadVar {t : TypeId} {g off : Nat} {p : Place} (hl : loadT P m t g off = some v) (hr : Rel ρ m w) (hp : ρ g = some p) : ∃ v', (loadVar t ⟨p.b, p.d + off, none⟩).run P w = .ok v' w ∧ VR ρ v v' := by
  unfold loadT at hl
  split at hl
  case h_3 => cases hl
  case h_1 ha =>
    split at hl
    case h_2 => cases hl
    rename_i n hs
    split at hl
    case h_2 => cases hl
    rename_i cs hrd
    simp only [Option.some.injEq] at hl
    subst hl
    obtain ⟨q, r', hq, hsr, hlen, hcell⟩ := hr.rd hrd
    rw [hp] at hq
    cases hq
    refine ⟨.agg ⟨r'⟩, ?_, .vb (.agg hsr)⟩
    have hc := run_loadCells_list (P := P) w ⟨p.b, p.d + off, none⟩ r' (fun j u hj => by rw [addr_add]; exact hcell j u hj)
    simp only [loadVar, Sem.run_bind, Sem.run_pure, Result.andThen_ok, run_isAgg ha, if_true, run_size hs]
    rw [← hlen, hc]
    rfl
  case h_2 ha =>
    split at hl
    case h_2 => cases hl
    rename_i c hrd
    simp only [Option.some.injEq] at hl
    subst hl
    obtain ⟨q, r', hq, hsr, hlen, hcell⟩ := hr.rd hrd
    rw [hp] at hq
    cases hq
    cases hsr with
    | cons hs1 hnil =>
      cases hnil
      rename_i c'
      refine ⟨c', ?_, .vb (.sc hs1)⟩
      have h0 := hcell 0 c' rfl
      simp only [Nat.add_zero] at h0
      simp [loadVar, Sem.run_bind, run_isAgg ha, h0]

def resF (tmps : Array Value) : ResultVar → Sem Value
  | .tmp t => pure (tmps.getD t undef)
  | .cell a t => do loadVar t (← asAddr (tmps.getD a undef))

theorem run_resL (ht : TR ρ tm a) (hr : Rel ρ m w) : ∀ (rs : List ResultVar) (vs : List Value), resL P tm m rs = some vs → ∃ vs', (rs.mapM (resF a.tmps)).run P w = .ok vs' w ∧ VRs ρ vs vs' := by
  intro rs
  induction rs with
  | nil =>
    intro vs h
    simp only [resL, Option.some.injEq] at h
    subst h
    exact ⟨[], rfl, .nil⟩
  | cons r rs ih =>
    intro vs h
    unfold resL at h
    split at h
    case h_2 => cases h
    rename_i v hv
    split at h
    case h_2 => cases h
    rename_i vs₁ hvs
    simp only [Option.some.injEq] at h
    subst h
    obtain ⟨vs', h1, h2⟩ := ih vs₁ hvs
    have : ∃ v', (resF a.tmps r).run P w = .ok v' w ∧ VR ρ v v' := by
      unfold res1 at hv
      split at hv
      · rename_i t
        refine ⟨_, rfl, ?_⟩
        have := ht t
        rw [hv] at this
        exact this
      · rename_i x t
        split at hv
        case h_2 => cases hv
        rename_i g off hx
        have hx' := ht x
        rw [hx] at hx'
        obtain ⟨p, hp, _, he⟩ := VR.ptr_inv hx'
        simp only at hp he
        obtain ⟨v', h3, h4⟩ := run_loadVar hv hr hp
        refine ⟨v', ?_, h4⟩
        simp only [resF, he, asAddr, Sem.run_bind, Sem.run_pure, Result.andThen_ok]
        exact h3
    obtain ⟨v', h3, h4⟩ := this
    refine ⟨v' :: vs', ?_, .cons h4 h2⟩
    rw [List.mapM_cons]
    simp only [Sem.run_bind, h3, Result.andThen_ok, h1, Sem.run_pure]

theorem VRs.len {ρ : Pl} {as bs : List Value} (h : VRs ρ as bs) : as.length = bs.length := by
  induction h with
  | nil => rfl
  | cons _ _ ih => simp [ih]

theorem run_resOf {fn : Func} (ht : TR ρ tm a) (hr : Rel ρ m w) (h : resOf P tm m fn.results.toList = some (v, m')) : m = m' ∧ ∃ v', (results fn a.tmps).run P w = .ok v' w ∧ VR ρ v v' := by
  have hres : ∀ vs', (fn.results.toList.mapM (resF a.tmps)).run P w = .ok vs' w → (results fn a.tmps).run P w = .ok (if h : (⟨vs'⟩ : Array Value).size = 1 then (⟨vs'⟩ : Array Value)[0] else .tuple ⟨vs'⟩) w := by
    intro vs' h1
    have : results fn a.tmps = (do let vs ← fn.results.mapM (resF a.tmps); pure (if h : vs.size = 1 then vs[0] else .tuple vs)) := rfl
    rw [this, Array.mapM_eq_mapM_toList]
    simp only [Sem.run_bind, Sem.run_map, h1, Result.andThen_ok, Sem.run_pure]
  unfold resOf at h
  split at h
  case h_3 => cases h
  case h_1 u hu =>
    obtain ⟨rfl, rfl⟩ := mk_inj h
    obtain ⟨vs', h1, h2⟩ := run_resL ht hr _ _ hu
    cases h2 with
    | cons hx hn =>
      cases hn
      exact ⟨rfl, _, hres _ h1, hx⟩
  case h_2 vs hne hu =>
    cases hb : allVB vs with
    | false => rw [hb] at h; cases h
    | true =>
      rw [hb] at h
      obtain ⟨rfl, rfl⟩ := mk_inj h
      obtain ⟨vs', h1, h2⟩ := run_resL ht hr _ _ hu
      refine ⟨rfl, .tuple ⟨vs'⟩, ?_, .tuple (allVB_VBs h2 hb)⟩
      rw [hres _ h1]
      have hl := VRs.len h2
      have : ¬ (⟨vs'⟩ : Array Value).size = 1 := by
        intro e
        have e' : vs'.length = 1 := e
        rw [e'] at hl
        match vs, hl with
        | [u], _ => exact hne u rfl
      rw [dif_neg this]

theorem tmsOf_get : ∀ (l : List Value) (i : Nat) (t : PM Value) (k : Nat), (tmsOf i l t).get k = if i ≤ k ∧ k < i + l.length then l[k - i]? else t.get k := by
  intro l
  induction l with
  | nil => intro i t k; rw [if_neg (by simp only [List.length_nil]; omega)]; rfl
  | cons x l ih =>
    intro i t k
    unfold tmsOf
    rw [ih, PM.get_set]
    simp only [List.length_cons]
    by_cases h1 : i + 1 ≤ k ∧ k < i + 1 + l.length
    · rw [if_pos h1, if_pos (by omega)]
      rw [show k - i = (k - (i + 1)) + 1 by omega, List.getElem?_cons_succ]
    · rw [if_neg h1]
      by_cases h2 : k = i
      · subst h2
        rw [if_pos rfl, if_pos (by omega)]
        simp
      · rw [if_neg h2, if_neg (by omega)]

theorem VRs.get {ρ : Pl} {as bs : List Value} (h : VRs ρ as bs) : ∀ (i : Nat) (a : Value), as[i]? = some a → ∃ b, bs[i]? = some b ∧ VR ρ a b := by
  induction h with
  | nil => intro i a h; simp at h
  | cons h _ ih =>
    intro i a hi
    cases i with
    | zero => simp only [List.getElem?_cons_zero, Option.some.injEq] at hi; subst hi; exact ⟨_, rfl, h⟩
    | succ i => simp only [List.getElem?_cons_succ] at hi ⊢; exact ih i a hi

/-- What the interpreter is told of the program's functions. -/
def Funs (P : Program) (fns : PM Func) : Prop := ∀ f fn, fns.get f = some fn → P.funcs[f]? = some fn ∧ (fn.body.isNone = false → (fn.name == "runtime.NumGoroutine") = false)

theorem sound_enter {rg : Nat → RegF} {F : Nat} {fns : PM Func} (hF : Funs P fns) (hrg : ∀ N, RegOk P N (rg N)) : CallOk P (enter P rg F fns) := by
  intro f as m v m' h
  unfold enter at h
  split at h
  case h_1 => cases h
  rename_i fn hfn
  obtain ⟨hPf, hname⟩ := hF f fn hfn
  split at h
  case h_1 => cases h
  rename_i c hc
  cases hb : Nat.ble as.length fn.ntmps with
  | false => rw [hb] at h; cases h
  | true =>
    rw [hb] at h
    simp only [cond_true] at h
    have hle : as.length ≤ fn.ntmps := Nat.le_of_ble_eq_true hb
    have hsome : fn.body.isNone = false := by rw [hc]; rfl
    refine ⟨⟨fn, hPf, hsome, hname hsome⟩, fun ρ w as' hvs hr => ?_⟩
    have hlen := VRs.len hvs
    refine calls_of_wp hPf hc ?_
    have hst : St ρ (tmsOf 0 as .nil) m fn.ntmps { tmps := ⟨as'⟩ ++ Array.replicate (fn.ntmps - (⟨as'⟩ : Array Value).size) undef, defers := [] } w := by
      refine ⟨fun t => ?_, hr, ?_, rfl⟩
      · rw [tmsOf_get]
        by_cases ht : 0 ≤ t ∧ t < 0 + as.length
        · rw [if_pos ht, Nat.sub_zero]
          have hx : as[t]? = some as[t] := List.getElem?_eq_getElem (by omega)
          obtain ⟨b, hb', hv⟩ := hvs.get t _ hx
          rw [hx]
          have : (⟨as'⟩ ++ Array.replicate (fn.ntmps - (⟨as'⟩ : Array Value).size) undef : Array Value).getD t undef = b := by
            rw [Array.getD_eq_getD_getElem?, Array.getElem?_append_left (show t < (⟨as'⟩ : Array Value).size by show t < as'.length; omega)]
            simp [hb']
          rw [this]
          exact hv
        · rw [if_neg ht, PM.get_nil]
          exact .junk _
      · simp; omega
    have fin : ∀ {tm₁ m₁ a₁ w₁ ρ₁}, resOf P tm₁ m₁ fn.results.toList = some (v, m') → St ρ₁ tm₁ m₁ fn.ntmps a₁ w₁ → Ext ρ m w ρ₁ m₁ w₁ → a₁.defers = [] ∧ ∃ v', (results fn a₁.tmps).run P w₁ = .ok v' w₁ ∧ Back ρ m w v m' (.returned v') w₁ := by
      intro tm₁ m₁ a₁ w₁ ρ₁ hres hs hx
      obtain ⟨rfl, v', h1, h2⟩ := run_resOf hs.tr hs.rel hres
      exact ⟨hs.defers, v', h1, ρ₁, v', rfl, hs.rel, hx, h2⟩
    split at h
    case h_3 => cases h
    case h_1 tm₁ m₁ hbody =>
      exact sound_body (hrg fn.ntmps) c _ _ _ _ _ hbody ρ _ w _ hst (fun ρ₁ a₁ w₁ hs hx => fin h hs hx)
    case h_2 tm₁ m₁ hbody =>
      exact sound_body (hrg fn.ntmps) c _ _ _ _ _ hbody ρ _ w _ hst (fun ρ₁ a₁ w₁ hs hx => fin h hs hx)

abbrev Orc := PM (List Value → Mem → Res)

def OrcOk (P : Program) (orc : Orc) : Prop := ∀ f g, orc.get f = some g → ∀ as m v m', g as m = some (v, m') → Own P f ∧ ∀ ρ w as', VRs ρ as as' → Rel ρ m w → Calls P f ⟨as'⟩ w (Back ρ m w v m')

noncomputable def callN (P : Program) (reg : CallF → Nat → RegF) (F : Nat) (fns : PM Func) (orc : Orc) (n : Nat) : CallF :=
  Nat.rec (motive := fun _ => CallF) (fun _ _ _ => none) (fun _ ih f as m => match orc.get f with
    | some g => g as m
    | none => enter P (reg ih) F fns f as m) n

theorem callN_succ (P : Program) (reg : CallF → Nat → RegF) (F : Nat) (fns : PM Func) (orc : Orc) (n : Nat) (f : FuncId) (as : List Value) (m : Mem) :
    callN P reg F fns orc (n + 1) f as m = (match orc.get f with
    | some g => g as m
    | none => enter P (reg (callN P reg F fns orc n)) F fns f as m) := rfl

theorem sound_callN {reg : CallF → Nat → RegF} {F : Nat} {fns : PM Func} {orc : Orc} (hF : Funs P fns) (hreg : ∀ call, CallOk P call → ∀ N, RegOk P N (reg call N)) (hO : OrcOk P orc) : ∀ n, CallOk P (callN P reg F fns orc n) := by
  intro n
  induction n with
  | zero => intro f as m v m' h; cases h
  | succ n ih =>
    intro f as m v m' h
    rw [callN_succ] at h
    split at h
    · rename_i g hg
      exact hO f g hg as m v m' h
    · exact sound_enter hF (fun N => hreg _ ih N) f as m v m' h

end
end Go.Abs
