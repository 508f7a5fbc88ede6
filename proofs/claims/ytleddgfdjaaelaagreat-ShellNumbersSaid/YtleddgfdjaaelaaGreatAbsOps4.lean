/- Rows that are made and cut, conversions, lengths, copies: what the interpreter makes of them is what the model's run does. Conditions: none. -/
import Derived.Test.YtleddgfdjaaelaaGreatAbsOps3
namespace Go.Abs
section
variable {P : Program} {o : Oper} {a : Act} {w : World} {ρ : Pl} {tm : PM Value} {m m' : Mem} {v : Value}

theorem wrap64_small {n : Int} (h0 : 0 ≤ n) (h : n ≤ 140737488355328) : IntKind.i64.wrap n = n := by
  unfold IntKind.wrap
  simp only [IntKind.bits, IntKind.signed]
  have : n % (2 ^ 64 : Int) = n := by omega
  simp only [this]
  rw [if_neg (by simp; omega)]

theorem bytes_spec {e : TypeId} {i : TypeInfo} (hi : P.info? e = some i) : bytesOf P e = i.bytes := by
  unfold bytesOf; rw [hi]

theorem sound_makeSlice {t : TypeId} {l c : Operand} (ho : o.op = .makeSlice t l c) (h : makeSliceOp P m t (ev tm l) (ev tm c) = some (v, m')) (ht : TR ρ tm a) (hr : Rel ρ m w) : Sound P o a w ρ m v m' := by
  unfold makeSliceOp at h
  split at h
  case h_2 => cases h
  rename_i e n k hu hl hc
  split at h
  case h_2 => cases h
  rename_i z sz hz hsz
  split at h
  case isFalse => cases h
  rename_i hb
  obtain ⟨b1, b2, b3, b4, b5⟩ := hb
  obtain ⟨rfl, rfl⟩ := mk_inj h
  obtain ⟨i, zz, hi, hzz, hzc, hpl, hlen⟩ := zeroCs_spec hz
  have e1 := ht.ev l; rw [hl] at e1; have e1 := VR.int_inv e1
  have e2 := ht.ev c; rw [hc] at e2; have e2 := VR.int_inv e2
  have hzl : z.length = sz := by
    rw [hlen]
    unfold szOf at hsz
    rw [hi] at hsz
    simpa using hsz
  obtain ⟨hr', hext⟩ := hr.push (rep k.toNat z) (rep k.toNat z) [] .exact sz 0 e (rep_plain hpl _) (by simp) (fun _ => rfl)
  refine .value (v' := .slice (some ⟨w.heap.size, 0, none⟩) n.toNat k.toNat) ?_ hr' hext ?_
  · unfold execOp; simp only [ho, e1, e2]
    refine run_value ?_
    have w1 := wrap64_small b1 (by omega)
    have w2 := wrap64_small (n := k) (by omega) b3
    have hby := bytes_spec (P := P) hi
    rw [hby] at b4
    have harr := rep_array z k.toNat (k.toNat * sz) (by rw [hzl])
    have t1 : ¬ (k < 0) := by omega
    have t2 : ¬ (281474976710656 < (i.bytes : Int) * k) := by
      have : ((k.toNat * i.bytes : Nat) : Int) = k * i.bytes := by rw [Int.natCast_mul, Int.toNat_of_nonneg (by omega)]
      have h3 : ((k.toNat * i.bytes : Nat) : Int) ≤ ((140737488355328 : Nat) : Int) := Int.ofNat_le.2 b4
      rw [this, Int.mul_comm] at h3
      omega
    have t3 : ¬ (n < 0) := by omega
    have t4 : ¬ (k < n) := by omega
    unfold Instr.makeSlice
    simp only [Sem.run_bind, run_under hu, Result.andThen_ok, asInt, asIntOf, Sem.run_pure, typeInfo, w1, w2]
    simp [t1, t2, t3, t4, hi, askRoom, roomBytes, run_size hsz]
    by_cases h0 : k = 0
    · subst h0
      have hd : (Array.map (fun _ : Nat => (default : Value)) (Array.range 0)) = #[] := by apply Array.ext'; simp
      simp [rep, hd, newRow]
    · have : ¬ (k.toNat = 0 ∨ sz = 0) := by omega
      simp only [Int.toNat_eq_zero] at this
      have t6 : ¬ (k ≤ 0 ∨ sz = 0) := by omega
      simp [run_zero hi hzz, hzc, newRow]
      simp at harr
      rw [harr, if_neg (by rw [Nat.mul_eq_zero]; omega)]
  · exact .vb (.sc (.slice (p := ⟨w.heap.size, 0, (rep k.toNat z).length, sz, 0⟩) (Pl.put_same _ _ _) (.inl rfl)))

theorem bytesOfCells_spec : ∀ {cs cs' : List Value} {l : List UInt8}, bytesOfCells cs = some l → SRs ρ cs cs' → ∃ ns : List Int, cs' = ns.map (Value.int .u8) ∧ l = ns.map (fun n => UInt8.ofNat n.toNat)
  | [], _, l, h, hs => by
    cases hs
    simp [bytesOfCells] at h
    exact ⟨[], rfl, by simp [h]⟩
  | c :: r, _, l, h, hs => by
    cases hs with
    | cons h1 h2 =>
      unfold bytesOfCells at h
      split at h
      case h_1 hcs => cases hcs
      case h_3 => cases h
      case h_2 n r' hcs =>
        simp only [List.cons.injEq] at hcs
        obtain ⟨rfl, rfl⟩ := hcs
        split at h
        case h_2 => cases h
        rename_i l' hl'
        simp only [Option.some.injEq] at h
        obtain ⟨ns, e1, e2⟩ := bytesOfCells_spec hl' h2
        cases h1
        exact ⟨n :: ns, by simp [e1], by rw [← h, e2]; rfl⟩

theorem foldl_push (ns : List Int) : ∀ s : ByteArray, ns.foldl (fun r n => r.push (UInt8.ofNat n.toNat)) s = ⟨⟨s.data.toList ++ ns.map (fun n => UInt8.ofNat n.toNat)⟩⟩ := by
  induction ns with
  | nil => intro s; simp
  | cons n ns ih =>
    intro s
    rw [List.foldl_cons, ih]
    simp [ByteArray.push]

theorem rd_slice {sz n : Nat} {x : Option Addr} {c : Nat} {v' : Value} {cs : List Value} (hr : Rel ρ m w) (h : sliceCs m sz n x = some cs) (hv : VR ρ (.slice x n c) v') :
    (v' = .slice none 0 0 ∧ n = 0 ∧ cs = []) ∨ ∃ y c' cs', v' = .slice (some y) n c' ∧ SRs ρ cs cs' ∧ cs'.length = n * sz ∧ ∀ j u, cs'[j]? = some u → w.cell? (y.add j) = some u := by
  unfold sliceCs at h
  split at h
  case h_1 =>
    simp only [Option.some.injEq] at h
    subst h
    obtain ⟨e, h0, _⟩ := VR.nilslice_inv hv
    exact .inl ⟨e, h0, rfl⟩
  case h_3 => cases h
  case h_2 g off =>
    obtain ⟨p, r', hp, hs, hlen, hcell⟩ := hr.rd h
    rcases VR.slice_inv hv with ⟨q, c', hq, _, he, _⟩ | ⟨h0, hc0, y, he⟩
    · simp only at hq he
      rw [hp] at hq
      cases hq
      exact .inr ⟨_, c', r', he, hs, hlen, fun j u hj => by rw [addr_add]; exact hcell j u hj⟩
    · subst h0
      have : cs = [] := by
        have := hs.length
        rw [hlen, Nat.zero_mul] at this
        exact List.eq_nil_of_length_eq_zero this
      subst this
      exact .inr ⟨y, 0, [], he, .nil, by simp, fun j u hj => by simp at hj⟩

theorem read_convert {s d : TypeId} {x : Operand} (ho : o.op = .convert s d x) (h : convertOp P m s d (ev tm x) = some (v, m')) (ht : TR ρ tm a) (hr : Rel ρ m w) : ReadOk P o a w ρ m v m' := by
  unfold convertOp at h
  have hx := ht.ev x
  split at h
  case h_3 => cases h
  case h_1 ds k k' n hs hd ex =>
    obtain ⟨rfl, rfl⟩ := mk_inj h
    rw [ex] at hx
    have e1 := VR.int_inv hx
    refine .pure (v' := .int k (k.wrap n)) ?_ hr (.vb (.sc (.int _ _)))
    unfold execOp; simp only [ho, e1]
    refine run_value ?_
    simp [convert, Sem.run_bind, run_under hs, run_under hd, Conv.intToInt]
  case h_2 e ad n c hs hd ex =>
    split at h
    case h_2 => cases h
    rename_i he
    split at h
    case h_2 => cases h
    rename_i cs hcs
    split at h
    case h_2 => cases h
    rename_i l hl
    obtain ⟨rfl, rfl⟩ := mk_inj h
    rw [ex] at hx
    refine .pure (v' := .string ⟨⟨l⟩⟩) ?_ hr (.vb (.sc (.string _)))
    unfold execOp; simp only [ho]
    refine run_value ?_
    rcases rd_slice hr hcs hx with ⟨ev', h0, hc0⟩ | ⟨y, c', cs', ev', hss, hlen, hcell⟩
    · subst hc0
      simp [bytesOfCells] at hl
      subst hl
      rw [ev', run_convert_bytes_string w s d e none 0 0 hs he hd]
      simp [Conv.bytesToString]
      rfl
    · obtain ⟨ns, e1, e2⟩ := bytesOfCells_spec hl hss
      rw [ev', run_convert_bytes_string w s d e (some y) n c' hs he hd]
      have hc := run_loadCells_list (P := P) w y cs' hcell
      rw [hlen, Nat.mul_one, e1] at hc
      rw [run_bytesToString w y n c' ns hc, foldl_push, e2]
      simp

/-- An operand that may lack, as a number. -/
def IV : Option Int → Option Value → Prop
  | none, none => True
  | some n, some (.int _ n') => n' = n
  | _, _ => False

theorem sound_convert {s d : TypeId} {x : Operand} (ho : o.op = .convert s d x) (h : convertOp P m s d (ev tm x) = some (v, m')) (ht : TR ρ tm a) (hr : Rel ρ m w) : Sound P o a w ρ m v m' := (read_convert ho h ht hr).sound hr

theorem optI_IV {x : Option Operand} {y : Option Int} (h : optI tm x = some y) (ht : TR ρ tm a) : IV y (x.map a.eval) := by
  unfold optI at h
  split at h
  case h_1 =>
    simp only [Option.some.injEq] at h
    subst h
    exact trivial
  case h_2 q =>
    split at h
    case h_2 => cases h
    rename_i k n hn
    simp only [Option.some.injEq] at h
    subst h
    have := ht.ev q
    rw [hn] at this
    rw [Option.map_some, VR.int_inv this]
    exact rfl

theorem run_sliceBound {k : IntKind} {n : Int} {y : Nat} (code : BoundsCode) (h0 : 0 ≤ n) (h1 : n ≤ y) : (Instr.sliceBound (.int k n) y code).run P w = .ok n.toNat w := by
  simp [Instr.sliceBound, asIntOf, h0, h1]

def orN (x : Option Int) (d : Nat) : Nat :=
  match x with
  | some v => v.toNat
  | none => d

theorem IV.none_inv {x : Option Value} (h : IV none x) : x = none := by
  cases x with
  | none => rfl
  | some _ => exact h.elim
theorem IV.some_inv {n : Int} {x : Option Value} (h : IV (some n) x) : ∃ k, x = some (.int k n) := by
  cases x with
  | none => exact h.elim
  | some x =>
    cases x <;> first | exact h.elim | skip
    rename_i k n'
    have : n' = n := h
    subst this
    exact ⟨k, rfl⟩

theorem run_sliceBounds {lo hi mx : Option Int} {lo' hi' mx' : Option Value} (hl : IV lo lo') (hh : IV hi hi') (hm : IV mx mx') (b : Bool) {len cap cap' : Nat} (hc : cap ≤ cap')
    (b1 : 0 ≤ orI lo 0) (b2 : orI lo 0 ≤ orI hi len) (b3 : orI hi len ≤ orI mx cap) (b4 : orI mx cap ≤ cap) (b5 : okBounds hi mx = true) :
    (Instr.sliceBounds b len cap' lo' hi' mx').run P w = .ok ((orI lo 0).toNat, (orI hi len).toNat, orN mx cap') w := by
  unfold Instr.sliceBounds
  cases mx with
  | none =>
    obtain rfl := IV.none_inv hm
    simp only [orI] at b3 b4
    cases hi with
    | none =>
      obtain rfl := IV.none_inv hh
      cases lo with
      | none => obtain rfl := IV.none_inv hl; simp [orI, orN]
      | some n =>
        obtain ⟨k, rfl⟩ := IV.some_inv hl
        simp only [orI] at b1 b2
        simp [orI, orN, run_sliceBound _ b1 b2]
    | some hn =>
      obtain ⟨k2, rfl⟩ := IV.some_inv hh
      simp only [orI] at b2 b3
      have hb : hn ≤ cap' := by omega
      cases lo with
      | none =>
        obtain rfl := IV.none_inv hl
        simp only [orI] at b1 b2
        simp [orI, orN, run_sliceBound _ b2 hb]
      | some n =>
        obtain ⟨k, rfl⟩ := IV.some_inv hl
        simp only [orI] at b1 b2
        have hb0 : 0 ≤ hn := by omega
        have hb3 : n ≤ (hn.toNat : Int) := by omega
        simp [orI, orN, run_sliceBound _ hb0 hb, run_sliceBound _ b1 hb3]
  | some mn =>
    obtain ⟨k3, rfl⟩ := IV.some_inv hm
    cases hi with
    | none => simp [okBounds] at b5
    | some hn =>
      obtain ⟨k2, rfl⟩ := IV.some_inv hh
      simp only [orI] at b2 b3 b4
      have hm1 : mn ≤ cap' := by omega
      cases lo with
      | none =>
        obtain rfl := IV.none_inv hl
        simp only [orI] at b1 b2
        have hm0 : 0 ≤ mn := by omega
        have hb : hn ≤ (mn.toNat : Int) := by omega
        simp [orI, orN, run_sliceBound _ hm0 hm1, run_sliceBound _ b2 hb]
      | some n =>
        obtain ⟨k, rfl⟩ := IV.some_inv hl
        simp only [orI] at b1 b2
        have hm0 : 0 ≤ mn := by omega
        have hb0 : 0 ≤ hn := by omega
        have hb : hn ≤ (mn.toNat : Int) := by omega
        have hb3 : n ≤ (hn.toNat : Int) := by omega
        simp [orI, orN, run_sliceBound _ hm0 hm1, run_sliceBound _ hb0 hb, run_sliceBound _ b1 hb3]

theorem sliceOf_spec {x : Option (Nat × Nat)} {sz len cap : Nat} {lo hi mx : Option Int} {u : Value} (h : sliceOf x sz len cap lo hi mx = some u) :
    0 ≤ orI lo 0 ∧ orI lo 0 ≤ orI hi len ∧ orI hi len ≤ orI mx cap ∧ orI mx cap ≤ cap ∧ okBounds hi mx = true ∧ u = cutOf x sz (orI lo 0) (orI hi len) (orI mx cap) := by
  unfold sliceOf at h
  split at h
  case isFalse => cases h
  rename_i hb
  simp only [Option.some.injEq] at h
  exact ⟨hb.1, hb.2.1, hb.2.2.1, hb.2.2.2.1, hb.2.2.2.2, h.symm⟩

/-- A cut of a row: what stands for it. -/
theorem cut_VR {p : Place} {g off sz cap cap' M : Nat} {mx : Option Int} {l h : Int} (hp : ρ g = some p)
    (hc : cap' = cap ∨ (off + cap * p.sz = p.n ∧ cap' = cap + p.spare ∧ (p.sz = sz ∨ p.spare = 0))) (_b1 : 0 ≤ l) (b2 : l ≤ h) (b3 : h ≤ orI mx cap) (b4 : orI mx cap ≤ cap) (hM : M = orN mx cap') :
    VR ρ (cutOf (some (g, off)) sz l h (orI mx cap)) (.slice (if M = l.toNat then some ⟨p.b, p.d + off, none⟩ else some ((⟨p.b, p.d + off, none⟩ : Addr).add (l.toNat * sz))) (h.toNat - l.toNat) (M - l.toNat)) := by
  unfold cutOf
  cases mx with
  | some v =>
    have hM' : M = v.toNat := hM
    have b3' : h ≤ v := b3
    show VR ρ (.slice (some ⟨g, off + l.toNat * sz, none⟩) (h.toNat - l.toNat) (v.toNat - l.toNat)) _
    by_cases e : M = l.toNat
    · rw [if_pos e, show h.toNat - l.toNat = 0 by omega, show v.toNat - l.toNat = 0 by omega, show M - l.toNat = 0 by omega]
      exact .vb (.sc .slice0)
    · rw [if_neg e, addr_add, Nat.add_assoc, hM']
      exact .vb (.sc (.slice hp (.inl rfl)))
  | none =>
    have hM' : M = cap' := hM
    have b3' : h ≤ (cap : Int) := b3
    show VR ρ (.slice (some ⟨g, off + l.toNat * sz, none⟩) (h.toNat - l.toNat) ((cap : Int).toNat - l.toNat)) _
    rw [Int.toNat_natCast]
    by_cases e : M = l.toNat
    · rw [if_pos e, show h.toNat - l.toNat = 0 by omega, show M - l.toNat = 0 by omega, show cap - l.toNat = 0 by omega]
      exact .vb (.sc .slice0)
    · rw [if_neg e, addr_add, Nat.add_assoc, hM']
      refine .vb (.sc (.slice hp ?_))
      rcases hc with rfl | ⟨h1, h2, hs | hs⟩
      · exact .inl rfl
      · right
        subst hs
        refine ⟨?_, by omega⟩
        have : l.toNat * p.sz + (cap - l.toNat) * p.sz = cap * p.sz := by rw [← Nat.add_mul]; congr 1; omega
        omega
      · left; omega

theorem sound_slice {t : TypeId} {x : Operand} {lo hi mx : Option Operand} (ho : o.op = .slice t x lo hi mx) (h : sliceOp P m t (ev tm x) (optI tm lo) (optI tm hi) (optI tm mx) = some (v, m')) (ht : TR ρ tm a) (hr : Rel ρ m w) : Sound P o a w ρ m v m' := by
  unfold sliceOp at h
  have hx := ht.ev x
  split at h
  case h_2 => cases h
  rename_i lo1 hi1 mx1 el eh em
  have il := optI_IV el ht
  have ih := optI_IV eh ht
  have im := optI_IV em ht
  split at h
  case h_4 => cases h
  case h_1 n e g off hu ex =>
    split at h
    case h_2 => cases h
    rename_i sz hsz
    obtain ⟨hl, rfl⟩ := lift_inj h
    rw [ex] at hx
    obtain ⟨p, hp, _, he⟩ := VR.ptr_inv hx
    simp only at hp he
    obtain ⟨b1, b2, b3, b4, b5, rfl⟩ := sliceOf_spec hl
    refine .pure (v' := _) ?_ hr (cut_VR (cap' := n) hp (.inl rfl) b1 b2 b3 b4 rfl)
    · unfold execOp; simp only [ho, he]
      refine run_value ?_
      have hbd := run_sliceBounds (P := P) (w := w) il ih im false (Nat.le_refl n) b1 b2 b3 b4 b5
      simp [Instr.sliceAt, Sem.run_bind, run_under hu, Instr.sureAddr, hbd, run_size hsz]
      split <;> rfl
  case h_2 e g off len cap hu ex =>
    split at h
    case h_2 => cases h
    rename_i sz cs k bsz hsz hg
    cases hb : Nat.beq bsz sz || !isGrow k with
    | false => rw [hb] at h; cases h
    | true =>
      rw [hb] at h
      simp only [cond_true] at h
      obtain ⟨hl, rfl⟩ := lift_inj h
      rw [ex] at hx
      obtain ⟨q, hq, hcq⟩ := hr.cells g cs k bsz hg
      obtain ⟨b1, b2, b3, b4, b5, rfl⟩ := sliceOf_spec hl
      have hsz' : q.sz = sz ∨ q.spare = 0 := by
        simp only [Bool.or_eq_true] at hb
        rcases hb with hb | hb
        · left; rw [hcq.sz]; exact Nat.eq_of_beq_eq_true hb
        · right; exact hcq.spare (by simpa using hb)
      rcases VR.slice_inv hx with ⟨p, c', hp, _, he, hc⟩ | ⟨h0, hc0, y, he⟩
      · simp only at hp he hc
        rw [hq] at hp
        cases hp
        refine .pure (v' := _) ?_ hr (cut_VR (cap' := c') hq (hc.imp id fun h => ⟨h.1, h.2, hsz'⟩) b1 b2 b3 b4 rfl)
        unfold execOp; simp only [ho, he]
        refine run_value ?_
        have hle : cap ≤ c' := by omega
        have hbd := run_sliceBounds (P := P) (w := w) il ih im true hle b1 b2 b3 b4 b5
        simp [Instr.sliceAt, Instr.slice, Sem.run_bind, run_under hu, hbd, run_size hsz]
      · subst h0; subst hc0
        have e1 : orI lo1 0 = 0 := by simp only [Int.natCast_zero] at *; omega
        have e2 : orI hi1 ((0 : Nat) : Int) = 0 := by simp only [Int.natCast_zero] at *; omega
        have e3 : orI mx1 ((0 : Nat) : Int) = 0 := by simp only [Int.natCast_zero] at *; omega
        have e4 : orN mx1 0 = 0 := by
          unfold orI at e3; unfold orN
          cases mx1 <;> simp at *
          omega
        refine .pure (v' := .slice (some y) 0 0) ?_ hr ?_
        · unfold execOp; simp only [ho, he]
          refine run_value ?_
          have hbd := run_sliceBounds (P := P) (w := w) il ih im true (Nat.le_refl 0) b1 b2 b3 b4 b5
          rw [e1, e2, e4] at hbd
          simp [Instr.sliceAt, Instr.slice, Sem.run_bind, run_under hu, hbd, run_size hsz]
        · rw [e1, e2, e3]
          exact .vb (.sc .slice0)
  case h_3 e hu ex =>
    split at h
    case h_2 => cases h
    rename_i sz hsz
    obtain ⟨hl, rfl⟩ := lift_inj h
    rw [ex] at hx
    obtain ⟨he, _, _⟩ := VR.nilslice_inv hx
    obtain ⟨b1, b2, b3, b4, b5, rfl⟩ := sliceOf_spec hl
    have e1 : orI lo1 0 = 0 := by simp only [Int.natCast_zero] at *; omega
    have e2 : orI hi1 ((0 : Nat) : Int) = 0 := by simp only [Int.natCast_zero] at *; omega
    have e3 : orI mx1 ((0 : Nat) : Int) = 0 := by simp only [Int.natCast_zero] at *; omega
    have e4 : orN mx1 0 = 0 := by
      unfold orI at e3; unfold orN
      cases mx1 <;> simp at *
      omega
    refine .pure (v' := .slice none 0 0) ?_ hr (.vb (.sc .nilslice))
    unfold execOp; simp only [ho, he]
    refine run_value ?_
    have hbd := run_sliceBounds (P := P) (w := w) il ih im true (Nat.le_refl 0) b1 b2 b3 b4 b5
    rw [e1, e2, e4] at hbd
    simp [Instr.sliceAt, Instr.slice, Sem.run_bind, run_under hu, hbd, run_size hsz]

end
end Go.Abs
