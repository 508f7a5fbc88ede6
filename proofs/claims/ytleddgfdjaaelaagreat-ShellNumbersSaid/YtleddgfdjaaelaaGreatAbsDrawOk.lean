/- A region whose order is drawn: its run makes a good plan. Conditions: none beyond the run's own end. -/
import Derived.Test.YtleddgfdjaaelaaGreatAbsDraw
namespace Go.Abs
section
variable {P : Program} {call : CallF} {N : Nat} {ops : Array Oper} {base : Mem} {a0 : Nat} {tm0 : PM Value} {σ σ' F : DS} {j p : Nat} {o : Oper}

structure WF (ops : Array Oper) (tm0 : PM Value) (σ : DS) (j : Nat) : Prop where
  d1 : ∀ t i, σ.dst.get t = some i → i < j ∧ ∃ o, ops[i]? = some o ∧ o.dst = some t
  d2 : ∀ t, σ.dst.get t = none → σ.tm.get t = tm0.get t
  x1 : ∀ x ∈ σ.xs, x.i < j
  x2 : σ.xs.Pairwise fun x y => x.i ≠ y.i
  c1 : ∀ e ∈ σ.ch, e.w < j ∧ σ.tab.get e.w = some e.p ∧ e.s.next ≤ TOP
  c2 : ∀ a e c, σ.ch = a ++ e :: c → (∀ e' ∈ a, Nat.testBit e'.p e.w = true) ∧ ∀ e' ∈ c, Nat.testBit e.p e'.w = true
  t1 : ∀ i, j ≤ i → σ.tab.get i = none
  t2 : ∀ i o, i < j → ops[i]? = some o → (∀ e ∈ o.after.toList, Region.binds .any e = true → e.on < i) ∧
    ∀ k, Nat.testBit (preT σ.tab i) k = true → ∃ e ∈ o.after.toList, Region.binds .any e = true ∧ (k = e.on ∨ Nat.testBit (preT σ.tab e.on) k = true)

structure Mono (P : Program) (call : CallF) (base : Mem) (a0 : Nat) (σ F : DS) (j : Nat) : Prop where
  m1 : ∀ t i, σ.dst.get t = some i → F.dst.get t = some i ∧ F.tm.get t = σ.tm.get t
  m2 : ∀ t i k, σ.dst.get t = none → F.dst.get t = some i → Nat.testBit (preT σ.rdm t) k = true → Nat.testBit (preT F.tab i) k = true
  m3 : ∀ i p, σ.tab.get i = some p → F.tab.get i = some p
  m4 : ∀ x ∈ σ.xs, x ∈ F.xs
  m4' : ∀ x ∈ F.xs, x ∈ σ.xs ∨ j ≤ x.i
  m5 : ∃ a, F.ch = a ++ σ.ch ∧ ∀ e ∈ a, j ≤ e.w
  m6 : ∀ r ∈ σ.rs, ∀ a e b, F.ch = a ++ e :: (b ++ σ.ch) → Nat.testBit e.p r.j = false → OkAt P call base a0 (e :: (b ++ σ.ch)) r

inductive Br (P : Program) (call : CallF) (base : Mem) (a0 : Nat) (σ : DS) (j p : Nat) (tmr : PM Value) (o : Oper) : Bool → Value → List Ch → List Xt → List Rd → Prop where
  | skip : Br P call base a0 σ j p tmr o false skp σ.ch σ.xs σ.rs
  | pure {v : Value} {m' : Mem} (hs : stepOp P call tmr topM o.op = some (v, m')) (hm : m'.next = TOP) : Br P call base a0 σ j p tmr o true v σ.ch σ.xs σ.rs
  | make {v u : Value} {m' : Mem} {blk : Blk} (hs : stepOp P call tmr topM o.op = some (u, m')) (hm : m'.next = TOP + 1) (hb : m'.b.get TOP = some blk) (hn : noTopB blk = true) (hr : ren (a0 + j) u = some v) :
      Br P call base a0 σ j p tmr o true v σ.ch (⟨j, blk⟩ :: σ.xs) σ.rs
  | read {v : Value} (hr : isR P o.op = true) (h0 : OkAt P call base a0 σ.ch ⟨j, p, tmr, o.op, v, xsOf p σ.xs⟩) (hb : backR P call base a0 ⟨j, p, tmr, o.op, v, xsOf p σ.xs⟩ σ.ch = true) :
      Br P call base a0 σ j p tmr o true v σ.ch σ.xs (⟨j, p, tmr, o.op, v, xsOf p σ.xs⟩ :: σ.rs)
  | write {v : Value} {s : Mem} (hc : subCh p σ.ch = true) (hp : subM (topP σ.ch) p = true) (hs : stepOp P call tmr (withX a0 (topS base σ.ch) (topP σ.ch) (xsOf p σ.xs)) o.op = some (v, s))
      (hn : s.next ≤ TOP) (hf : fwd P call base a0 (⟨j, p, s⟩ :: σ.ch) p σ.rs = true) : Br P call base a0 σ j p tmr o true v (⟨j, p, s⟩ :: σ.ch) σ.xs σ.rs

theorem cls_R {op : Op} (h : cls P op = .R) : isR P op = true := by
  unfold cls at h
  split at h
  case h_6 s d x =>
    show (match P.underlying d with
      | some (.slice _) => false
      | _ => true) = true
    split at h
    · cases h
    · rename_i hne
      split
      · rename_i e he
        exact absurd he (hne e)
      · rfl
  all_goals first | rfl | cases h | (split at h <;> first | cases h | (split at h <;> cases h))

theorem drawOp_br (h : drawOp P call N ops base a0 σ j o = some σ') : ∃ p b v ch xs rs, maskE σ.tab j o.after.toList = some p ∧ readsOk σ.dst p (o.looksAt ops) = true ∧
    guardB ops (restr σ.tm (o.looksAt ops)) o = some b ∧ Br P call base a0 σ j p (restr σ.tm (o.looksAt ops)) o b v ch xs rs ∧ fin N σ j p (noteR σ.dst j (o.looksAt ops) σ.rdm) o.dst v ch xs rs = some σ' := by
  unfold drawOp at h
  split at h
  case h_1 => cases h
  rename_i p hp
  cases hr : readsOk σ.dst p (o.looksAt ops) with
  | false => rw [hr] at h; cases h
  | true =>
    rw [hr] at h
    simp only [cond_true] at h
    unfold drawG at h
    split at h
    case h_1 => cases h
    rename_i b hg
    refine ⟨p, b, ?_⟩
    cases b with
    | false => exact ⟨skp, _, _, _, hp, hr, hg, .skip, h⟩
    | true =>
      simp only [cond_true] at h
      unfold drawC at h
      split at h
      case h_1 =>
        unfold drawP at h
        split at h
        case h_2 => cases h
        rename_i v m' hs
        cases hb : Nat.beq m'.next TOP with
        | false => rw [hb] at h; cases h
        | true =>
          rw [hb] at h
          exact ⟨v, _, _, _, hp, hr, hg, .pure hs (Nat.eq_of_beq_eq_true hb), h⟩
      case h_2 =>
        unfold drawE at h
        split at h
        case h_2 => cases h
        rename_i u m' hs
        cases hb : Nat.beq m'.next (Nat.succ TOP) with
        | false => rw [hb] at h; cases h
        | true =>
          rw [hb] at h
          simp only [cond_true] at h
          split at h
          case h_2 => cases h
          rename_i blk hblk
          cases hn : noTopB blk with
          | false => rw [hn] at h; cases h
          | true =>
            rw [hn] at h
            simp only [cond_true] at h
            split at h
            case h_2 => cases h
            rename_i v hv
            exact ⟨v, _, _, _, hp, hr, hg, .make hs (Nat.eq_of_beq_eq_true hb) hblk hn hv, h⟩
      case h_3 hcl =>
        unfold drawR at h
        split at h
        case h_2 => cases h
        rename_i v m' hs
        cases hb : backR P call base a0 ⟨j, p, restr σ.tm (o.looksAt ops), o.op, v, xsOf p σ.xs⟩ σ.ch with
        | false => rw [hb] at h; cases h
        | true =>
          rw [hb] at h
          exact ⟨v, _, _, _, hp, hr, hg, .read (cls_R hcl) ⟨m', hs⟩ hb, h⟩
      case h_4 =>
        unfold drawW at h
        cases hc : cond (subCh p σ.ch) (subM (topP σ.ch) p) false with
        | false => rw [hc] at h; cases h
        | true =>
          rw [hc] at h
          simp only [cond_true] at h
          obtain ⟨h1, h2⟩ := cond_and hc
          split at h
          case h_2 => cases h
          rename_i v s hs
          cases hf : cond (Nat.ble s.next TOP) (fwd P call base a0 (⟨j, p, s⟩ :: σ.ch) p σ.rs) false with
          | false => rw [hf] at h; cases h
          | true =>
            rw [hf] at h
            obtain ⟨h3, h4⟩ := cond_and hf
            exact ⟨v, _, _, _, hp, hr, hg, .write h1 h2 hs (Nat.le_of_ble_eq_true h3) h4, h⟩

theorem fin_spec {rdm : PM Nat} {d : Option Tmp} {v : Value} {ch : List Ch} {xs : List Xt} {rs : List Rd} (h : fin N σ j p rdm d v ch xs rs = some σ') :
    σ'.tab = σ.tab.set j p ∧ σ'.rdm = rdm ∧ σ'.ch = ch ∧ σ'.xs = xs ∧ σ'.rs = rs ∧
    ((d = none ∧ σ'.dst = σ.dst ∧ σ'.tm = σ.tm) ∨ ∃ d', d = some d' ∧ σ.dst.get d' = none ∧ d' < N ∧ subM (preT rdm d') p = true ∧ σ'.dst = σ.dst.set d' j ∧ σ'.tm = σ.tm.set d' v) := by
  unfold fin at h
  split at h
  · simp only [Option.some.injEq] at h
    subst h
    exact ⟨rfl, rfl, rfl, rfl, rfl, .inl ⟨rfl, rfl, rfl⟩⟩
  · rename_i d'
    split at h
    case h_1 => cases h
    rename_i hn
    cases h1 : Nat.blt d' N with
    | false => rw [h1] at h; cases h
    | true =>
      rw [h1] at h
      simp only [cond_true] at h
      cases h2 : subM (preT rdm d') p with
      | false => rw [h2] at h; cases h
      | true =>
        rw [h2] at h
        simp only [cond_true, Option.some.injEq] at h
        subst h
        exact ⟨rfl, rfl, rfl, rfl, rfl, .inr ⟨d', rfl, hn, Nat.le_of_ble_eq_true h1, h2, rfl, rfl⟩⟩

noncomputable def planOf (P : Program) (call : CallF) (N : Nat) (ops : Array Oper) (base : Mem) (a0 : Nat) (tm0 : PM Value) (F : DS) : Plan P call N ops base a0 tm0 :=
  ⟨fun i => preT F.tab i, fun t => F.dst.get t, fun t => F.tm.get t, F.ch, F.xs⟩

def CertAt (P : Program) (call : CallF) (N : Nat) (ops : Array Oper) (base : Mem) (a0 : Nat) (tm0 : PM Value) (F : DS) (j : Nat) (o : Oper) : Prop := ∃ tmr b v,
    (∀ t u, tmr.get t = some u → (∃ i, F.dst.get t = some i ∧ Nat.testBit (preT F.tab j) i = true ∧ F.tm.get t = some u) ∨ (tm0.get t = some u ∧ ∀ i, F.dst.get t = some i → Nat.testBit (preT F.tab i) j = true)) ∧
    guardB ops tmr o = some b ∧ (∀ d, o.dst = some d → d < N ∧ F.dst.get d = some j ∧ F.tm.get d = some v) ∧ Eff (planOf P call N ops base a0 tm0 F) j o tmr v b

theorem last_of {α : Type} {a b : List α} {e x : α} {c : List α} (h : a ++ e :: b = c ++ [x]) : (b = [] ∧ e = x) ∨ ∃ b', b = b' ++ [x] := by
  rcases List.eq_nil_or_concat b with rfl | ⟨b', y, rfl⟩
  · left
    have := List.append_inj' h rfl
    exact ⟨rfl, by simpa using this.2⟩
  · right
    rw [List.concat_eq_append] at h ⊢
    rw [← List.cons_append, ← List.append_assoc] at h
    have := List.append_inj' h rfl
    simp only [List.cons.injEq, and_true] at this
    exact ⟨b', by rw [this.2]⟩

theorem step_ok (hw : WF ops tm0 σ j) (ho : ops[j]? = some o) (h : drawOp P call N ops base a0 σ j o = some σ') :
    WF ops tm0 σ' (j + 1) ∧ (Mono P call base a0 σ' F (j + 1) → Mono P call base a0 σ F j ∧ CertAt P call N ops base a0 tm0 F j o) := by
  obtain ⟨p, b, v, ch, xs, rs, hp, hreads, hgd, hbr, hfin⟩ := drawOp_br h
  obtain ⟨etab, erdm, ech, exs, ers, hd⟩ := fin_spec hfin
  obtain ⟨hed, hcl⟩ := maskE_spec hp
  have tabj : σ'.tab.get j = some p := by rw [etab, PM.get_set, if_pos rfl]
  have tabo : ∀ i, i ≠ j → σ'.tab.get i = σ.tab.get i := fun i hi => by rw [etab, PM.get_set, if_neg hi]
  have preo : ∀ i, i ≠ j → preT σ'.tab i = preT σ.tab i := fun i hi => by unfold preT; rw [tabo i hi]
  have prej : preT σ'.tab j = p := by unfold preT; rw [tabj]; rfl
  have chs : ∀ e ∈ σ'.ch, e ∈ σ.ch ∨ (e.w = j ∧ e.p = p ∧ e.s.next ≤ TOP) := fun e he => by
    rw [ech] at he
    cases hbr with
    | write hc hp hs hn hf =>
      rcases List.mem_cons.1 he with rfl | he
      · exact .inr ⟨rfl, rfl, hn⟩
      · exact .inl he
    | _ => exact .inl he
  have xss : ∀ x ∈ σ'.xs, x ∈ σ.xs ∨ x.i = j := fun x hx => by
    rw [exs] at hx
    cases hbr with
    | make hs hm hb hn hr =>
      rcases List.mem_cons.1 hx with rfl | hx
      · exact .inr rfl
      · exact .inl hx
    | _ => exact .inl hx
  have xsup : ∀ x ∈ σ.xs, x ∈ σ'.xs := fun x hx => by
    rw [exs]
    cases hbr with
    | make hs hm hb hn hr => exact List.mem_cons_of_mem _ hx
    | _ => exact hx
  have rsup : ∀ r ∈ σ.rs, r ∈ σ'.rs := fun r hr => by
    rw [ers]
    cases hbr with
    | read => exact List.mem_cons_of_mem _ hr
    | _ => exact hr
  have dsto : ∀ t i, σ.dst.get t = some i → σ'.dst.get t = some i ∧ σ'.tm.get t = σ.tm.get t := fun t i ht => by
    rcases hd with ⟨_, h1, h2⟩ | ⟨d, _, hn, _, _, h1, h2⟩
    · rw [h1, h2]; exact ⟨ht, rfl⟩
    · have : t ≠ d := by rintro rfl; rw [hn] at ht; cases ht
      rw [h1, h2, PM.get_set, PM.get_set, if_neg this, if_neg this]
      exact ⟨ht, rfl⟩
  refine ⟨⟨?_, ?_, ?_, ?_, ?_, ?_, ?_, ?_⟩, ?_⟩
  · intro t i ht
    rcases hd with ⟨_, h1, _⟩ | ⟨d, hod, _, _, _, h1, _⟩
    · rw [h1] at ht
      obtain ⟨h3, h4⟩ := hw.d1 t i ht
      exact ⟨by omega, h4⟩
    · rw [h1, PM.get_set] at ht
      by_cases e : t = d
      · subst e
        rw [if_pos rfl] at ht
        cases ht
        exact ⟨by omega, o, ho, hod⟩
      · rw [if_neg e] at ht
        obtain ⟨h3, h4⟩ := hw.d1 t i ht
        exact ⟨by omega, h4⟩
  · intro t ht
    rcases hd with ⟨_, h1, h2⟩ | ⟨d, _, _, _, _, h1, h2⟩
    · rw [h1] at ht; rw [h2]; exact hw.d2 t ht
    · rw [h1, PM.get_set] at ht
      rw [h2, PM.get_set]
      by_cases e : t = d
      · rw [if_pos e] at ht; cases ht
      · rw [if_neg e] at ht ⊢; exact hw.d2 t ht
  · intro x hx
    rcases xss x hx with h1 | h1
    · have := hw.x1 x h1; omega
    · omega
  · rw [exs]
    cases hbr with
    | make hs hm hb hn hr => exact List.pairwise_cons.2 ⟨fun y hy => by have := hw.x1 y hy; show j ≠ y.i; omega, hw.x2⟩
    | _ => exact hw.x2
  · intro e he
    rcases chs e he with h1 | ⟨h1, h2, h3⟩
    · obtain ⟨h4, h5, h6⟩ := hw.c1 e h1
      exact ⟨by omega, by rw [tabo _ (by omega)]; exact h5, h6⟩
    · exact ⟨by omega, by rw [h1, tabj, h2], h3⟩
  · rw [ech]
    cases hbr with
    | write hc hp hs hn hf =>
      intro a e c he
      cases a with
      | nil =>
        simp only [List.nil_append, List.cons.injEq] at he
        obtain ⟨rfl, rfl⟩ := he
        exact ⟨fun _ h => absurd h (by simp), subCh_spec hc⟩
      | cons x a =>
        simp only [List.cons_append, List.cons.injEq] at he
        obtain ⟨rfl, he⟩ := he
        obtain ⟨h1, h2⟩ := hw.c2 a e c he
        refine ⟨fun e' he' => ?_, h2⟩
        rcases List.mem_cons.1 he' with rfl | he'
        · exact subCh_spec hc e (by rw [he]; simp)
        · exact h1 e' he'
    | _ => exact hw.c2
  · intro i hi
    rw [tabo i (by omega)]
    exact hw.t1 i (by omega)
  · intro i o' hi ho'
    by_cases e : i = j
    · subst e
      rw [ho] at ho'
      cases ho'
      rw [prej]
      refine ⟨hed, fun k hk => ?_⟩
      obtain ⟨e, he, hb, h⟩ := hcl k hk
      exact ⟨e, he, hb, h.imp id (fun h => by rw [preo _ (by have := hed e he hb; omega)]; exact h)⟩
    · obtain ⟨h1, h2⟩ := hw.t2 i o' (by omega) ho'
      rw [preo i e]
      refine ⟨h1, fun k hk => ?_⟩
      obtain ⟨e', he, hb, h⟩ := h2 k hk
      exact ⟨e', he, hb, h.imp id (fun h => by rw [preo _ (by have := h1 e' he hb; omega)]; exact h)⟩
  · intro hm
    have FpreJ : preT F.tab j = p := by unfold preT; rw [hm.m3 j p tabj]; rfl
    have rdF : ∀ t i k, σ.dst.get t = none → F.dst.get t = some i → Nat.testBit (preT σ'.rdm t) k = true → Nat.testBit (preT F.tab i) k = true := fun t i k ht hF hk => by
      cases hs' : σ'.dst.get t with
      | none => exact hm.m2 t i k hs' hF hk
      | some i' =>
        rcases hd with ⟨_, h1, _⟩ | ⟨d, _, hn, _, hsub, h1, _⟩
        · rw [h1, ht] at hs'; cases hs'
        · rw [h1, PM.get_set] at hs'
          by_cases e : t = d
          · subst e
            rw [if_pos rfl] at hs'
            cases hs'
            have h2 := (hm.m1 t j (by rw [h1, PM.get_set, if_pos rfl])).1
            rw [h2] at hF
            cases hF
            rw [FpreJ]
            rw [erdm] at hk
            exact subM_spec hsub hk
          · rw [if_neg e, ht] at hs'; cases hs'
    have notech : ∀ t k, Nat.testBit (preT σ.rdm t) k = true → Nat.testBit (preT σ'.rdm t) k = true := fun t k hk => by
      rw [erdm]; exact (noteR_spec (l := o.looksAt ops)).1 t k hk
    refine ⟨⟨?_, ?_, ?_, ?_, ?_, ?_, ?_⟩, restr σ.tm (o.looksAt ops), b, v, ?_, hgd, ?_, ?_⟩
    · intro t i ht
      obtain ⟨h1, h2⟩ := dsto t i ht
      obtain ⟨h3, h4⟩ := hm.m1 t i h1
      exact ⟨h3, h4.trans h2⟩
    · intro t i k ht hF hk
      exact rdF t i k ht hF (notech t k hk)
    · intro i q hi
      have : i ≠ j := by rintro rfl; rw [hw.t1 i (Nat.le_refl _)] at hi; cases hi
      exact hm.m3 i q (by rw [tabo i this]; exact hi)
    · intro x hx
      exact hm.m4 x (xsup x hx)
    · intro x hx
      rcases hm.m4' x hx with h1 | h1
      · rcases xss x h1 with h2 | h2
        · exact .inl h2
        · exact .inr (by omega)
      · exact .inr (by omega)
    · obtain ⟨a, h1, h2⟩ := hm.m5
      rw [ech] at h1
      have h2' : ∀ e ∈ a, j ≤ e.w := fun e he => by have := h2 e he; omega
      cases hbr with
      | @write v s hc hp hs hn hf =>
        refine ⟨a ++ [⟨j, p, s⟩], by rw [h1]; simp, fun e he => ?_⟩
        rcases List.mem_append.1 he with he | he
        · exact h2' e he
        · rw [List.mem_singleton.1 he]; exact Nat.le_refl _
      | _ => exact ⟨a, h1, h2'⟩
    · intro r hr a e b' hF hb
      obtain ⟨a', h1, _⟩ := hm.m5
      cases hbr with
      | @write v s hc hp hs hn hf =>
        have hl : a ++ e :: b' = a' ++ [⟨j, p, s⟩] := by
          have : (a ++ e :: b') ++ σ.ch = (a' ++ [⟨j, p, s⟩]) ++ σ.ch := by
            rw [ech] at h1
            have h3 := hF.symm.trans h1
            simpa using h3
          exact List.append_cancel_right this
        rcases last_of hl with ⟨rfl, rfl⟩ | ⟨b'', rfl⟩
        · exact okAt_spec (fwd_spec hf r hr hb)
        · have := hm.m6 r (rsup r hr) a e b'' (by rw [hF, ech]; simp) hb
          rw [ech] at this
          simpa using this
      | _ =>
        have := hm.m6 r (rsup r hr) a e b' (by rw [hF, ech]) hb
        rw [ech] at this
        exact this
    · intro t u ht
      obtain ⟨h1, h2⟩ := restr_spec ht
      cases hs : σ.dst.get t with
      | some i =>
        left
        obtain ⟨h3, h4⟩ := dsto t i hs
        obtain ⟨h5, h6⟩ := hm.m1 t i h3
        exact ⟨i, h5, by rw [FpreJ]; exact readsOk_spec hreads t h1 i hs, by rw [h6, h4, h2]⟩
      | none =>
        right
        refine ⟨by rw [← hw.d2 t hs]; exact h2, fun i hi => rdF t i j hs hi ?_⟩
        rw [erdm]
        exact (noteR_spec (l := o.looksAt ops)).2 t h1 hs
    · intro d hod
      rcases hd with ⟨h1, _⟩ | ⟨d', hod', _, hN, _, h1, h2⟩
      · rw [h1] at hod; cases hod
      · rw [hod'] at hod
        cases hod
        obtain ⟨h3, h4⟩ := hm.m1 d j (by rw [h1, PM.get_set, if_pos rfl])
        exact ⟨hN, h3, by rw [h4, h2, PM.get_set, if_pos rfl]⟩
    · have hcF : σ'.ch = σ.ch → ∀ e ∈ F.ch, e.w ≠ j := fun heq e he => by
        obtain ⟨a, h1, h2⟩ := hm.m5
        rw [h1] at he
        rcases List.mem_append.1 he with he | he
        · have := h2 e he; omega
        · rw [heq] at he; have := (hw.c1 e he).1; omega
      have hxF : σ'.xs = σ.xs → ∀ x ∈ F.xs, x.i ≠ j := fun heq x hx => by
        rcases hm.m4' x hx with h1 | h1
        · rw [heq] at h1; have := hw.x1 x h1; omega
        · omega
      have xjF : ∀ x ∈ xsOf p σ.xs, x ∈ F.xs ∧ Nat.testBit (preT F.tab j) x.i = true := fun x hx => by
        obtain ⟨h1, h2⟩ := xsOf_spec hx
        exact ⟨hm.m4 x (xsup x h1), by rw [FpreJ]; exact h2⟩
      cases hbr with
      | skip => exact .skip rfl (hcF ech) (hxF exs)
      | pure hs hmm => exact .pure _ hs hmm (hcF ech) (hxF exs)
      | @make v u m' blk hs hmm hb hn hr =>
        refine .make m' u blk hs hmm hb hn hr (hcF ech) (fun x hx hxi => ?_)
        rcases hm.m4' x hx with h1 | h1
        · rw [exs] at h1
          rcases List.mem_cons.1 h1 with rfl | h1
          · rfl
          · have := hw.x1 x h1; omega
        · omega
      | read hr h0 hb =>
        refine .read hr (xsOf p σ.xs) xjF (xsOf_pair hw.x2) (fun a c hF hna hhd => ?_) (hcF ech) (hxF exs)
        obtain ⟨a', h1, _⟩ := hm.m5
        rw [ech] at h1
        have hF' : a ++ c = a' ++ σ.ch := hF.symm.trans h1
        have hna' : ∀ e ∈ a, Nat.testBit p e.w = false := fun e he => by
          have := hna e he
          rw [show (planOf P call N ops base a0 tm0 F).pre j = preT F.tab j from rfl, FpreJ] at this
          exact this
        have hok : OkAt P call base a0 c ⟨j, p, restr σ.tm (o.looksAt ops), o.op, v, xsOf p σ.xs⟩ := by
          rcases List.append_eq_append_iff.1 hF' with ⟨as, h2, h3⟩ | ⟨cs, h2, h3⟩
          · cases as with
            | nil => rw [h3]; exact h0
            | cons e b' =>
              have := hm.m6 ⟨j, p, restr σ.tm (o.looksAt ops), o.op, v, xsOf p σ.xs⟩ (by rw [ers]; exact List.mem_cons_self ..) a e b' (by rw [h1, h2, ech]; simp) (hhd e (by rw [h3]; rfl))
              rw [ech] at this
              rw [h3]
              exact this
          · exact backR_spec h0 hb cs c h3 (fun e he => hna' e (by rw [h2]; exact List.mem_append.2 (.inr he)))
        exact hok
      | @write v s hc hp2 hs hn hf =>
        obtain ⟨a', h1, _⟩ := hm.m5
        rw [ech] at h1
        refine .write (xsOf p σ.xs) xjF (xsOf_pair hw.x2) a' σ.ch s ?_ (fun i hi => ?_) hs (hxF exs)
        · show F.ch = a' ++ ⟨j, preT F.tab j, s⟩ :: σ.ch
          rw [FpreJ]; exact h1
        · show Nat.testBit (preT F.tab j) i = true
          rw [FpreJ]; exact subM_spec hp2 hi

theorem WF.start (tm0 : PM Value) : WF ops tm0 ⟨.nil, .nil, .nil, tm0, [], [], []⟩ 0 where
  d1 t i h := by rw [show (DS.mk .nil .nil .nil tm0 [] [] []).dst.get t = none from PM.get_nil t] at h; cases h
  d2 t _ := rfl
  x1 x h := absurd h (by simp)
  x2 := .nil
  c1 e h := absurd h (by simp)
  c2 a e c h := absurd h (by simp)
  t1 i _ := PM.get_nil i
  t2 i o h := absurd h (Nat.not_lt_zero i)

theorem Mono.same (F : DS) (j : Nat) : Mono P call base a0 F F j where
  m1 t i h := ⟨h, rfl⟩
  m2 t i k h h' := by rw [h] at h'; cases h'
  m3 i p h := h
  m4 x h := h
  m4' x h := .inl h
  m5 := ⟨[], rfl, fun e h => absurd h (by simp)⟩
  m6 r hr a e b h := by
    have := congrArg List.length h
    simp at this
    omega

theorem drawL_ok : ∀ (l : List Oper) (j : Nat) (σ F : DS), (∀ k, l[k]? = ops[j + k]?) → WF ops tm0 σ j → drawL P call N ops base a0 l j σ = some F →
    WF ops tm0 F (j + l.length) ∧ Mono P call base a0 σ F j ∧ ∀ k o, j ≤ k → ops[k]? = some o → CertAt P call N ops base a0 tm0 F k o := by
  intro l
  induction l with
  | nil =>
    intro j σ F hl hw h
    have h' : some σ = some F := h
    cases h'
    refine ⟨hw, .same σ j, fun k o hk ho => ?_⟩
    have := hl (k - j)
    rw [show j + (k - j) = k by omega, ho] at this
    simp at this
  | cons o l ih =>
    intro j σ F hl hw h
    have h' : (match drawOp P call N ops base a0 σ j o with
      | some σ' => drawL P call N ops base a0 l (Nat.succ j) σ'
      | none => none) = some F := h
    split at h'
    case h_2 => cases h'
    rename_i σ' hs
    have ho : ops[j]? = some o := by have := hl 0; simpa using this.symm
    obtain ⟨hw', hstep⟩ := step_ok (F := F) hw ho hs
    obtain ⟨h1, h2, h3⟩ := ih (j + 1) σ' F (fun k => by have := hl (k + 1); simpa [Nat.add_assoc, Nat.add_comm 1 k] using this) hw' h'
    obtain ⟨h4, h5⟩ := hstep h2
    refine ⟨by rw [show j + (o :: l).length = j + 1 + l.length by simp; omega]; exact h1, h4, fun k o' hk ho' => ?_⟩
    by_cases e : k = j
    · subst e
      rw [ho] at ho'
      cases ho'
      exact h5
    · exact h3 k o' (by omega) ho'

theorem plan_good (hlow : base.next ≤ TOP) (h : drawL P call N ops base a0 ops.toList 0 ⟨.nil, .nil, .nil, tm0, [], [], []⟩ = some F) :
    (planOf P call N ops base a0 tm0 F).Good ∧ WF ops tm0 F ops.size := by
  obtain ⟨h1, h2, h3⟩ := drawL_ok ops.toList 0 _ F (fun k => by simp) (WF.start tm0) h
  have h1' : WF ops tm0 F ops.size := by
    have : 0 + ops.toList.length = ops.size := by simp
    rw [← this]; exact h1
  have lt : ∀ {j o}, ops[j]? = some o → j < ops.size := fun {j o} ho => by
    rcases Nat.lt_or_ge j ops.size with h | h
    · exact h
    · rw [Array.getElem?_eq_none h] at ho; cases ho
  refine ⟨⟨fun j o ho => (h1'.t2 j o (lt ho) ho).1, fun j o ho => (h1'.t2 j o (lt ho) ho).2, fun e he => ?_, h1'.c2, fun t j ht => (h1'.d1 t j ht).2, h1'.x1, ⟨hlow, fun e he => (h1'.c1 e he).2.2⟩, fun j o ho => h3 j o (Nat.zero_le _) ho⟩, h1'⟩
  show e.p = preT F.tab e.w
  unfold preT
  rw [(h1'.c1 e he).2.1]
  rfl

theorem drew_eq (w : World) : ({ w with drawn := w.drawn + 1 } : World) = w.drew := rfl

theorem sound_draw {tm tm' : PM Value} {m m' : Mem} (hm : P.follows .mixedOrders = true) (hcall : CallOk P call) (h : drawReg P call N ops tm m = some (tm', m')) {id : Nat} {ρ : Pl} {a : Act} {w : World} {Q : Exit → Act → World → Prop}
    (hs : St ρ tm m N a w) (hQ : ∀ ρ' a' w', St ρ' tm' m' N a' w' → Ext ρ m w ρ' m' w' → Q .normal a' w') : (Code.region id ops true).wp P Q a w := by
  unfold drawReg at h
  cases hb : Nat.ble (Nat.add m.next ops.size) TOP with
  | false => rw [hb] at h; cases h
  | true =>
    rw [hb] at h
    simp only [cond_true] at h
    split at h
    case h_2 => cases h
    rename_i F hF
    simp only [Option.some.injEq, Prod.mk.injEq] at h
    obtain ⟨rfl, rfl⟩ := h
    obtain ⟨hg, hw⟩ := plan_good (Nat.le_of_ble_eq_true hb) hF
    have hlis : lis (Array.replicate ops.size false) = fun _ => false := by
      funext i
      unfold lis
      rw [Array.getD_eq_getD_getElem?, Array.getElem?_replicate]
      split <;> rfl
    refine wp_region_any hm ?_
    rw [drew_eq]
    have hr := hs.rel.drew
    refine order_any (ρ₀ := ρ) (w₀ := w.drew) hg hcall (fun D ρ' a' w' hD hi => ?_) ops.size (Array.replicate ops.size false) ρ a w.drew (by simp) (by simp) ?_ ?_
    · -- all is done
      have hall : chD D F.ch = F.ch := chD_all (fun e he => hD _ (hw.c1 e he).1)
      have hi1 := hi.rel
      have hi2 := hi.ext
      have hi3 := hi.has
      have hplc : (planOf P call N ops ⟨m.b, Nat.add m.next ops.size⟩ m.next tm F).ch = F.ch := rfl
      rw [hplc, hall] at hi1 hi2 hi3
      obtain ⟨j1, j2, _⟩ := joinX (a0 := m.next) (pw := topP F.ch) (l := F.xs) hi1 hi2 (fun x hx hb => hi3 x hx (hD _ (hw.x1 x hx)) hb)
        (hw.x2.imp_of_mem (fun {x y} hx hy hne q q' _ _ hq hq' => hi.sep x hx y hy hne (hD _ (hw.x1 x hx)) (hD _ (hw.x1 y hy)) q q' hq hq'))
      refine hQ ρ' a' w' ⟨fun t => ?_, j1, hi.size, hi.defers⟩ ((Ext.drew ρ m w).trans j2)
      have := hi.tr t
      unfold val at this
      cases hd : F.dst.get t with
      | none =>
        rw [show (planOf P call N ops ⟨m.b, Nat.add m.next ops.size⟩ m.next tm F).dst t = none from hd] at this
        rw [hw.d2 t hd]
        exact this
      | some i =>
        rw [show (planOf P call N ops ⟨m.b, Nat.add m.next ops.size⟩ m.next tm F).dst t = some i from hd] at this
        simp only [hD i (hw.d1 t i hd).1, if_true] at this
        exact this
    · intro i hi
      rw [hlis] at hi
      cases hi
    · rw [hlis]
      have hch : chD (fun _ => false) F.ch = [] := by
        obtain ⟨a', h1, h2⟩ := chD_split (fun _ => false) F.ch
        cases hc : chD (fun _ => false) F.ch with
        | nil => rfl
        | cons e c => have := chD_head (D := fun _ => false) (l := F.ch) (e := e) (by rw [hc]; rfl); cases this
      have hplc : (planOf P call N ops ⟨m.b, Nat.add m.next ops.size⟩ m.next tm F).ch = F.ch := rfl
      refine ⟨fun t => ?_, ?_, ?_, ?_, fun x _ h => absurd h (by simp), fun x _ y _ _ h => absurd h (by simp), fun j hj _ => ?_, hs.size, hs.defers⟩
      · have : val (planOf P call N ops ⟨m.b, Nat.add m.next ops.size⟩ m.next tm F) (fun _ => false) t = tm.get t := by
          unfold val
          split <;> rfl
        rw [this]
        exact hs.tr t
      · rw [hplc, hch]
        exact ⟨hr.cells, hr.map, hr.disj, fun g p hp => ⟨Nat.lt_of_lt_of_le (hr.place g p hp).1 (Nat.le_add_right _ _), (hr.place g p hp).2⟩, fun g hg => hr.live g (Nat.le_trans (Nat.le_add_right _ _) hg)⟩
      · rw [hplc, hch]
        exact ⟨Pl.le_refl _, Nat.le_refl _, fun _ _ _ => rfl, fun _ _ h => h, rfl, rfl, Nat.le_add_right _ _, fun _ _ => rfl, fun _ _ h => h⟩
      · rw [hplc, hch]
        exact Nat.le_refl _
      · cases e : ρ (m.next + j) with
        | none => rfl
        | some p => have := (hr.place _ p e).1; omega

theorem region_ok (hm : P.follows .mixedOrders = true) (hcall : CallOk P call) (N : Nat) : RegOk P N (region P call N) := by
  intro id ops d tm m tm' m' h ρ a w Q hs hQ
  cases d with
  | true => exact sound_draw hm hcall h hs hQ
  | false => exact wp_region_list (sound_ops hcall ops.toList tm m h hs hQ)

end
end Go.Abs
