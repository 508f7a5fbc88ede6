/- What the runs of law28.reads and law28.known give to their callers. Conditions: none. -/
import Derived.Test.YtleddgfdjaaelaaGreatReads0
import Derived.Test.YtleddgfdjaaelaaGreatReads1
import Derived.Test.YtleddgfdjaaelaaGreatReads2
import Derived.Test.YtleddgfdjaaelaaGreatReads3
import Derived.Test.YtleddgfdjaaelaaGreatReads4
import Derived.Test.YtleddgfdjaaelaaGreatReads5
import Derived.Test.YtleddgfdjaaelaaGreatReads6
import Derived.Test.YtleddgfdjaaelaaGreatReads7
namespace Go.Proofs.YtleddgfdjaaelaaGreat
open Go.Abs

set_option maxRecDepth 100000000 in
theorem known_seen : isTrue (run .nil 64 12 [] bare) = true := by kernel_rfl

theorem reads_all : ∀ k, k ≤ 128 → readsAt k = true
  | 0, _ => reads0
  | 1, _ => reads1
  | 2, _ => reads2
  | 3, _ => reads3
  | 4, _ => reads4
  | 5, _ => reads5
  | 6, _ => reads6
  | 7, _ => reads7
  | 8, _ => reads8
  | 9, _ => reads9
  | 10, _ => reads10
  | 11, _ => reads11
  | 12, _ => reads12
  | 13, _ => reads13
  | 14, _ => reads14
  | 15, _ => reads15
  | 16, _ => reads16
  | 17, _ => reads17
  | 18, _ => reads18
  | 19, _ => reads19
  | 20, _ => reads20
  | 21, _ => reads21
  | 22, _ => reads22
  | 23, _ => reads23
  | 24, _ => reads24
  | 25, _ => reads25
  | 26, _ => reads26
  | 27, _ => reads27
  | 28, _ => reads28
  | 29, _ => reads29
  | 30, _ => reads30
  | 31, _ => reads31
  | 32, _ => reads32
  | 33, _ => reads33
  | 34, _ => reads34
  | 35, _ => reads35
  | 36, _ => reads36
  | 37, _ => reads37
  | 38, _ => reads38
  | 39, _ => reads39
  | 40, _ => reads40
  | 41, _ => reads41
  | 42, _ => reads42
  | 43, _ => reads43
  | 44, _ => reads44
  | 45, _ => reads45
  | 46, _ => reads46
  | 47, _ => reads47
  | 48, _ => reads48
  | 49, _ => reads49
  | 50, _ => reads50
  | 51, _ => reads51
  | 52, _ => reads52
  | 53, _ => reads53
  | 54, _ => reads54
  | 55, _ => reads55
  | 56, _ => reads56
  | 57, _ => reads57
  | 58, _ => reads58
  | 59, _ => reads59
  | 60, _ => reads60
  | 61, _ => reads61
  | 62, _ => reads62
  | 63, _ => reads63
  | 64, _ => reads64
  | 65, _ => reads65
  | 66, _ => reads66
  | 67, _ => reads67
  | 68, _ => reads68
  | 69, _ => reads69
  | 70, _ => reads70
  | 71, _ => reads71
  | 72, _ => reads72
  | 73, _ => reads73
  | 74, _ => reads74
  | 75, _ => reads75
  | 76, _ => reads76
  | 77, _ => reads77
  | 78, _ => reads78
  | 79, _ => reads79
  | 80, _ => reads80
  | 81, _ => reads81
  | 82, _ => reads82
  | 83, _ => reads83
  | 84, _ => reads84
  | 85, _ => reads85
  | 86, _ => reads86
  | 87, _ => reads87
  | 88, _ => reads88
  | 89, _ => reads89
  | 90, _ => reads90
  | 91, _ => reads91
  | 92, _ => reads92
  | 93, _ => reads93
  | 94, _ => reads94
  | 95, _ => reads95
  | 96, _ => reads96
  | 97, _ => reads97
  | 98, _ => reads98
  | 99, _ => reads99
  | 100, _ => reads100
  | 101, _ => reads101
  | 102, _ => reads102
  | 103, _ => reads103
  | 104, _ => reads104
  | 105, _ => reads105
  | 106, _ => reads106
  | 107, _ => reads107
  | 108, _ => reads108
  | 109, _ => reads109
  | 110, _ => reads110
  | 111, _ => reads111
  | 112, _ => reads112
  | 113, _ => reads113
  | 114, _ => reads114
  | 115, _ => reads115
  | 116, _ => reads116
  | 117, _ => reads117
  | 118, _ => reads118
  | 119, _ => reads119
  | 120, _ => reads120
  | 121, _ => reads121
  | 122, _ => reads122
  | 123, _ => reads123
  | 124, _ => reads124
  | 125, _ => reads125
  | 126, _ => reads126
  | 127, _ => reads127
  | 128, _ => reads128
  | n + 129, h => absurd h (by omega)

noncomputable def readsO : List Value → Mem → Res
  | [.slice (some ⟨g, 0, none⟩) k c], m => cond (Nat.beq c 128) (cond (Nat.ble k 128) (match m.b.get g with
    | some (.cells cs _ sz) => cond (Nat.beq sz 1) (cond (eqSs cs bytes) (mk (.bool true) m) none) none
    | _ => none) none) none
  | _, _ => none

def knownO : List Value → Mem → Res
  | [], m => mk (.bool true) m
  | _, _ => none

noncomputable def orc : Orc := (PM.nil.set 9 readsO).set 12 knownO

theorem orc_ok : OrcOk Tryz.prog orc := by
  intro f g h xs m v m' hg
  unfold orc at h
  rw [PM.get_set] at h
  split at h
  · rename_i hf
    subst hf
    cases h
    unfold knownO at hg
    split at hg
    case h_2 => cases hg
    obtain ⟨rfl, rfl⟩ := mk_inj hg
    obtain ⟨h1, h2⟩ := lent_none none_ok known_seen
    refine ⟨h1, fun ρ w as' hvs hr => ?_⟩
    cases hvs
    exact h2 ρ _ w hr
  · rw [PM.get_set] at h
    split at h
    · rename_i hf
      subst hf
      cases h
      unfold readsO at hg
      split at hg
      case h_2 => cases hg
      rename_i mm g₁ k c
      cases hc : Nat.beq c 128 with
      | false => rw [hc] at hg; cases hg
      | true =>
        rw [hc] at hg
        cases hk : Nat.ble k 128 with
        | false => rw [hk] at hg; cases hg
        | true =>
          rw [hk] at hg
          simp only [cond_true] at hg
          split at hg
          case h_2 => cases hg
          rename_i cs kd sz hget
          cases hs : Nat.beq sz 1 with
          | false => rw [hs] at hg; cases hg
          | true =>
            rw [hs] at hg
            cases he : eqSs cs bytes with
            | false => rw [he] at hg; cases hg
            | true =>
              rw [he] at hg
              obtain ⟨rfl, rfl⟩ := mk_inj hg
              obtain rfl := Nat.eq_of_beq_eq_true hc
              obtain rfl := Nat.eq_of_beq_eq_true hs
              obtain rfl := eqSs_spec he
              obtain ⟨h1, h2⟩ := lent_slice none_ok bytes_ints (reads_all k (Nat.le_of_ble_eq_true hk))
              refine ⟨h1, fun ρ w as' hvs hr => ?_⟩
              cases hvs with
              | cons hx hn =>
                cases hn
                exact h2 ρ _ w g₁ kd _ hget hx hr
    · rw [PM.get_nil] at h; cases h

end Go.Proofs.YtleddgfdjaaelaaGreat
