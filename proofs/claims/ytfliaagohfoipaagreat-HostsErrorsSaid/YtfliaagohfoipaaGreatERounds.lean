/-
  What is proved here: all runs of plugboardlaw26.HostsErrors are good.
  Conditions: none.
-/
import Derived.Test.YtfliaagohfoipaaGreatEOne0
import Derived.Test.YtfliaagohfoipaaGreatEOne1
import Derived.Test.YtfliaagohfoipaaGreatEOne2
import Derived.Test.YtfliaagohfoipaaGreatEOne3
import Derived.Test.YtfliaagohfoipaaGreatEOne4
import Derived.Test.YtfliaagohfoipaaGreatEMore
import Derived.Test.YtfliaagohfoipaaGreatEThree0
import Derived.Test.YtfliaagohfoipaaGreatEThree1
import Derived.Test.YtfliaagohfoipaaGreatERound0
import Derived.Test.YtfliaagohfoipaaGreatERound1
import Derived.Test.YtfliaagohfoipaaGreatERound2
import Derived.Test.YtfliaagohfoipaaGreatERound3
import Derived.Test.YtfliaagohfoipaaGreatERound4
import Derived.Test.YtfliaagohfoipaaGreatERound5
import Derived.Test.YtfliaagohfoipaaGreatERound6
import Derived.Test.YtfliaagohfoipaaGreatERound7
import Derived.Test.YtfliaagohfoipaaGreatERound8
import Derived.Test.YtfliaagohfoipaaGreatERound9
import Derived.Test.YtfliaagohfoipaaGreatERound10
import Derived.Test.YtfliaagohfoipaaGreatERound11
namespace Go.Proofs.YtfliaagohfoipaaGreat
open Go.Sy Go.RowKit

set_option maxRecDepth 1000000

theorem EOne_all : ∀ g, g < 31 → ((List.range 8).all fun k => headV 1 (g * 8 + k)) = true
  | 0, _ => EOne_0
  | 1, _ => EOne_1
  | 2, _ => EOne_2
  | 3, _ => EOne_3
  | 4, _ => EOne_4
  | 5, _ => EOne_5
  | 6, _ => EOne_6
  | 7, _ => EOne_7
  | 8, _ => EOne_8
  | 9, _ => EOne_9
  | 10, _ => EOne_10
  | 11, _ => EOne_11
  | 12, _ => EOne_12
  | 13, _ => EOne_13
  | 14, _ => EOne_14
  | 15, _ => EOne_15
  | 16, _ => EOne_16
  | 17, _ => EOne_17
  | 18, _ => EOne_18
  | 19, _ => EOne_19
  | 20, _ => EOne_20
  | 21, _ => EOne_21
  | 22, _ => EOne_22
  | 23, _ => EOne_23
  | 24, _ => EOne_24
  | 25, _ => EOne_25
  | 26, _ => EOne_26
  | 27, _ => EOne_27
  | 28, _ => EOne_28
  | 29, _ => EOne_29
  | 30, _ => EOne_30
  | _ + 31, h => absurd h (by omega)

theorem EThree_all : ∀ g, g < 32 → ((List.range 8).all fun k => headV 3 (g * 8 + k)) = true
  | 0, _ => EThree_0
  | 1, _ => EThree_1
  | 2, _ => EThree_2
  | 3, _ => EThree_3
  | 4, _ => EThree_4
  | 5, _ => EThree_5
  | 6, _ => EThree_6
  | 7, _ => EThree_7
  | 8, _ => EThree_8
  | 9, _ => EThree_9
  | 10, _ => EThree_10
  | 11, _ => EThree_11
  | 12, _ => EThree_12
  | 13, _ => EThree_13
  | 14, _ => EThree_14
  | 15, _ => EThree_15
  | 16, _ => EThree_16
  | 17, _ => EThree_17
  | 18, _ => EThree_18
  | 19, _ => EThree_19
  | 20, _ => EThree_20
  | 21, _ => EThree_21
  | 22, _ => EThree_22
  | 23, _ => EThree_23
  | 24, _ => EThree_24
  | 25, _ => EThree_25
  | 26, _ => EThree_26
  | 27, _ => EThree_27
  | 28, _ => EThree_28
  | 29, _ => EThree_29
  | 30, _ => EThree_30
  | 31, _ => EThree_31
  | _ + 32, h => absurd h (by omega)

theorem ERound_all : ∀ g, g < 129 → ((List.range 4).all fun k => roundE (g * 4 + k)) = true
  | 0, _ => ERound_0
  | 1, _ => ERound_1
  | 2, _ => ERound_2
  | 3, _ => ERound_3
  | 4, _ => ERound_4
  | 5, _ => ERound_5
  | 6, _ => ERound_6
  | 7, _ => ERound_7
  | 8, _ => ERound_8
  | 9, _ => ERound_9
  | 10, _ => ERound_10
  | 11, _ => ERound_11
  | 12, _ => ERound_12
  | 13, _ => ERound_13
  | 14, _ => ERound_14
  | 15, _ => ERound_15
  | 16, _ => ERound_16
  | 17, _ => ERound_17
  | 18, _ => ERound_18
  | 19, _ => ERound_19
  | 20, _ => ERound_20
  | 21, _ => ERound_21
  | 22, _ => ERound_22
  | 23, _ => ERound_23
  | 24, _ => ERound_24
  | 25, _ => ERound_25
  | 26, _ => ERound_26
  | 27, _ => ERound_27
  | 28, _ => ERound_28
  | 29, _ => ERound_29
  | 30, _ => ERound_30
  | 31, _ => ERound_31
  | 32, _ => ERound_32
  | 33, _ => ERound_33
  | 34, _ => ERound_34
  | 35, _ => ERound_35
  | 36, _ => ERound_36
  | 37, _ => ERound_37
  | 38, _ => ERound_38
  | 39, _ => ERound_39
  | 40, _ => ERound_40
  | 41, _ => ERound_41
  | 42, _ => ERound_42
  | 43, _ => ERound_43
  | 44, _ => ERound_44
  | 45, _ => ERound_45
  | 46, _ => ERound_46
  | 47, _ => ERound_47
  | 48, _ => ERound_48
  | 49, _ => ERound_49
  | 50, _ => ERound_50
  | 51, _ => ERound_51
  | 52, _ => ERound_52
  | 53, _ => ERound_53
  | 54, _ => ERound_54
  | 55, _ => ERound_55
  | 56, _ => ERound_56
  | 57, _ => ERound_57
  | 58, _ => ERound_58
  | 59, _ => ERound_59
  | 60, _ => ERound_60
  | 61, _ => ERound_61
  | 62, _ => ERound_62
  | 63, _ => ERound_63
  | 64, _ => ERound_64
  | 65, _ => ERound_65
  | 66, _ => ERound_66
  | 67, _ => ERound_67
  | 68, _ => ERound_68
  | 69, _ => ERound_69
  | 70, _ => ERound_70
  | 71, _ => ERound_71
  | 72, _ => ERound_72
  | 73, _ => ERound_73
  | 74, _ => ERound_74
  | 75, _ => ERound_75
  | 76, _ => ERound_76
  | 77, _ => ERound_77
  | 78, _ => ERound_78
  | 79, _ => ERound_79
  | 80, _ => ERound_80
  | 81, _ => ERound_81
  | 82, _ => ERound_82
  | 83, _ => ERound_83
  | 84, _ => ERound_84
  | 85, _ => ERound_85
  | 86, _ => ERound_86
  | 87, _ => ERound_87
  | 88, _ => ERound_88
  | 89, _ => ERound_89
  | 90, _ => ERound_90
  | 91, _ => ERound_91
  | 92, _ => ERound_92
  | 93, _ => ERound_93
  | 94, _ => ERound_94
  | 95, _ => ERound_95
  | 96, _ => ERound_96
  | 97, _ => ERound_97
  | 98, _ => ERound_98
  | 99, _ => ERound_99
  | 100, _ => ERound_100
  | 101, _ => ERound_101
  | 102, _ => ERound_102
  | 103, _ => ERound_103
  | 104, _ => ERound_104
  | 105, _ => ERound_105
  | 106, _ => ERound_106
  | 107, _ => ERound_107
  | 108, _ => ERound_108
  | 109, _ => ERound_109
  | 110, _ => ERound_110
  | 111, _ => ERound_111
  | 112, _ => ERound_112
  | 113, _ => ERound_113
  | 114, _ => ERound_114
  | 115, _ => ERound_115
  | 116, _ => ERound_116
  | 117, _ => ERound_117
  | 118, _ => ERound_118
  | 119, _ => ERound_119
  | 120, _ => ERound_120
  | 121, _ => ERound_121
  | 122, _ => ERound_122
  | 123, _ => ERound_123
  | 124, _ => ERound_124
  | 125, _ => ERound_125
  | 126, _ => ERound_126
  | 127, _ => ERound_127
  | 128, _ => ERound_128
  | _ + 129, h => absurd h (by omega)

theorem all_at {n : Nat} {f : Nat → Bool} (h : ((List.range n).all f) = true) {k : Nat} (hk : k < n) : f k = true := List.all_eq_true.1 h k (List.mem_range.2 hk)

theorem er_one (v : Nat) (hv : v < 255) : headV 1 v = true := by
  by_cases hc : v < 248
  · have h := all_at (EOne_all (v / 8) (by omega)) (show v % 8 < 8 by omega)
    rwa [show v / 8 * 8 + v % 8 = v by omega] at h
  · have h := all_at EOne_31 (show v - 248 < 8 by omega)
    rw [show 248 + (v - 248) = v by omega] at h
    rcases orB_ok h with h | h
    · rw [beq_iff] at h; omega
    · exact h

theorem er_three (v : Nat) (hv : v < 256) : headV 3 v = true := by
  have h := all_at (EThree_all (v / 8) (by omega)) (show v % 8 < 8 by omega)
  rwa [show v / 8 * 8 + v % 8 = v by omega] at h

theorem er_rounds (h : Nat) (hh : okM h = true) : roundM h = true := by
  obtain ⟨h1, h2⟩ := andB_ok (show andB (Nat.blt h 514) (notB (Nat.beq h 1)) = true from hh)
  rw [blt_iff] at h1
  have h3 := all_at (ERound_all (h / 4) (by omega)) (show h % 4 < 4 by omega)
  rw [show h / 4 * 4 + h % 4 = h by omega] at h3
  rcases orB_ok h3 with h3 | h3
  · rcases orB_ok h3 with h3 | h3
    · rw [h3] at h2; exact nomatch h2
    · have := (ble_iff _ _).1 h3
      omega
  · exact h3

end Go.Proofs.YtfliaagohfoipaaGreat
