/-
  What is proved here: all rounds of plugboardlaw26.HostsFrames are good.
  Conditions: none.
-/
import Derived.Test.YtfliaagohfoipaaGreatROpen0
import Derived.Test.YtfliaagohfoipaaGreatROpen1
import Derived.Test.YtfliaagohfoipaaGreatROpen2
import Derived.Test.YtfliaagohfoipaaGreatROpen3
import Derived.Test.YtfliaagohfoipaaGreatROpen4
import Derived.Test.YtfliaagohfoipaaGreatROpen5
import Derived.Test.YtfliaagohfoipaaGreatROpen6
import Derived.Test.YtfliaagohfoipaaGreatROpen7
import Derived.Test.YtfliaagohfoipaaGreatRClosed0
import Derived.Test.YtfliaagohfoipaaGreatRClosed1
import Derived.Test.YtfliaagohfoipaaGreatRClosed2
import Derived.Test.YtfliaagohfoipaaGreatRClosed3
import Derived.Test.YtfliaagohfoipaaGreatRClosed4
import Derived.Test.YtfliaagohfoipaaGreatRClosed5
import Derived.Test.YtfliaagohfoipaaGreatREnd0
import Derived.Test.YtfliaagohfoipaaGreatREnd1
import Derived.Test.YtfliaagohfoipaaGreatREnd2
import Derived.Test.YtfliaagohfoipaaGreatREnd3
import Derived.Test.YtfliaagohfoipaaGreatREnd4
import Derived.Test.YtfliaagohfoipaaGreatREnd5
import Derived.Test.YtfliaagohfoipaaGreatREnd6
import Derived.Test.YtfliaagohfoipaaGreatREnd7
import Derived.Test.YtfliaagohfoipaaGreatREnd8
import Derived.Test.YtfliaagohfoipaaGreatREnd9
import Derived.Test.YtfliaagohfoipaaGreatREnd10
import Derived.Test.YtfliaagohfoipaaGreatREnd11
namespace Go.Proofs.YtfliaagohfoipaaGreat
open Go.Sy Go.RowKit

set_option maxRecDepth 1000000

theorem ROpen_all : ∀ g, g < 64 → ((List.range 4).all fun k => roundR (2 * (g * 4 + k))) = true
  | 0, _ => ROpen_0
  | 1, _ => ROpen_1
  | 2, _ => ROpen_2
  | 3, _ => ROpen_3
  | 4, _ => ROpen_4
  | 5, _ => ROpen_5
  | 6, _ => ROpen_6
  | 7, _ => ROpen_7
  | 8, _ => ROpen_8
  | 9, _ => ROpen_9
  | 10, _ => ROpen_10
  | 11, _ => ROpen_11
  | 12, _ => ROpen_12
  | 13, _ => ROpen_13
  | 14, _ => ROpen_14
  | 15, _ => ROpen_15
  | 16, _ => ROpen_16
  | 17, _ => ROpen_17
  | 18, _ => ROpen_18
  | 19, _ => ROpen_19
  | 20, _ => ROpen_20
  | 21, _ => ROpen_21
  | 22, _ => ROpen_22
  | 23, _ => ROpen_23
  | 24, _ => ROpen_24
  | 25, _ => ROpen_25
  | 26, _ => ROpen_26
  | 27, _ => ROpen_27
  | 28, _ => ROpen_28
  | 29, _ => ROpen_29
  | 30, _ => ROpen_30
  | 31, _ => ROpen_31
  | 32, _ => ROpen_32
  | 33, _ => ROpen_33
  | 34, _ => ROpen_34
  | 35, _ => ROpen_35
  | 36, _ => ROpen_36
  | 37, _ => ROpen_37
  | 38, _ => ROpen_38
  | 39, _ => ROpen_39
  | 40, _ => ROpen_40
  | 41, _ => ROpen_41
  | 42, _ => ROpen_42
  | 43, _ => ROpen_43
  | 44, _ => ROpen_44
  | 45, _ => ROpen_45
  | 46, _ => ROpen_46
  | 47, _ => ROpen_47
  | 48, _ => ROpen_48
  | 49, _ => ROpen_49
  | 50, _ => ROpen_50
  | 51, _ => ROpen_51
  | 52, _ => ROpen_52
  | 53, _ => ROpen_53
  | 54, _ => ROpen_54
  | 55, _ => ROpen_55
  | 56, _ => ROpen_56
  | 57, _ => ROpen_57
  | 58, _ => ROpen_58
  | 59, _ => ROpen_59
  | 60, _ => ROpen_60
  | 61, _ => ROpen_61
  | 62, _ => ROpen_62
  | 63, _ => ROpen_63
  | _ + 64, h => absurd h (by omega)

theorem RClosed_all : ∀ g, g < 64 → ((List.range 8).all fun k => closedR (g * 8 + k)) = true
  | 0, _ => RClosed_0
  | 1, _ => RClosed_1
  | 2, _ => RClosed_2
  | 3, _ => RClosed_3
  | 4, _ => RClosed_4
  | 5, _ => RClosed_5
  | 6, _ => RClosed_6
  | 7, _ => RClosed_7
  | 8, _ => RClosed_8
  | 9, _ => RClosed_9
  | 10, _ => RClosed_10
  | 11, _ => RClosed_11
  | 12, _ => RClosed_12
  | 13, _ => RClosed_13
  | 14, _ => RClosed_14
  | 15, _ => RClosed_15
  | 16, _ => RClosed_16
  | 17, _ => RClosed_17
  | 18, _ => RClosed_18
  | 19, _ => RClosed_19
  | 20, _ => RClosed_20
  | 21, _ => RClosed_21
  | 22, _ => RClosed_22
  | 23, _ => RClosed_23
  | 24, _ => RClosed_24
  | 25, _ => RClosed_25
  | 26, _ => RClosed_26
  | 27, _ => RClosed_27
  | 28, _ => RClosed_28
  | 29, _ => RClosed_29
  | 30, _ => RClosed_30
  | 31, _ => RClosed_31
  | 32, _ => RClosed_32
  | 33, _ => RClosed_33
  | 34, _ => RClosed_34
  | 35, _ => RClosed_35
  | 36, _ => RClosed_36
  | 37, _ => RClosed_37
  | 38, _ => RClosed_38
  | 39, _ => RClosed_39
  | 40, _ => RClosed_40
  | 41, _ => RClosed_41
  | 42, _ => RClosed_42
  | 43, _ => RClosed_43
  | 44, _ => RClosed_44
  | 45, _ => RClosed_45
  | 46, _ => RClosed_46
  | 47, _ => RClosed_47
  | 48, _ => RClosed_48
  | 49, _ => RClosed_49
  | 50, _ => RClosed_50
  | 51, _ => RClosed_51
  | 52, _ => RClosed_52
  | 53, _ => RClosed_53
  | 54, _ => RClosed_54
  | 55, _ => RClosed_55
  | 56, _ => RClosed_56
  | 57, _ => RClosed_57
  | 58, _ => RClosed_58
  | 59, _ => RClosed_59
  | 60, _ => RClosed_60
  | 61, _ => RClosed_61
  | 62, _ => RClosed_62
  | 63, _ => RClosed_63
  | _ + 64, h => absurd h (by omega)

theorem REnd_all : ∀ g, g < 128 → ((List.range 4).all fun k => endR (g * 4 + k)) = true
  | 0, _ => REnd_0
  | 1, _ => REnd_1
  | 2, _ => REnd_2
  | 3, _ => REnd_3
  | 4, _ => REnd_4
  | 5, _ => REnd_5
  | 6, _ => REnd_6
  | 7, _ => REnd_7
  | 8, _ => REnd_8
  | 9, _ => REnd_9
  | 10, _ => REnd_10
  | 11, _ => REnd_11
  | 12, _ => REnd_12
  | 13, _ => REnd_13
  | 14, _ => REnd_14
  | 15, _ => REnd_15
  | 16, _ => REnd_16
  | 17, _ => REnd_17
  | 18, _ => REnd_18
  | 19, _ => REnd_19
  | 20, _ => REnd_20
  | 21, _ => REnd_21
  | 22, _ => REnd_22
  | 23, _ => REnd_23
  | 24, _ => REnd_24
  | 25, _ => REnd_25
  | 26, _ => REnd_26
  | 27, _ => REnd_27
  | 28, _ => REnd_28
  | 29, _ => REnd_29
  | 30, _ => REnd_30
  | 31, _ => REnd_31
  | 32, _ => REnd_32
  | 33, _ => REnd_33
  | 34, _ => REnd_34
  | 35, _ => REnd_35
  | 36, _ => REnd_36
  | 37, _ => REnd_37
  | 38, _ => REnd_38
  | 39, _ => REnd_39
  | 40, _ => REnd_40
  | 41, _ => REnd_41
  | 42, _ => REnd_42
  | 43, _ => REnd_43
  | 44, _ => REnd_44
  | 45, _ => REnd_45
  | 46, _ => REnd_46
  | 47, _ => REnd_47
  | 48, _ => REnd_48
  | 49, _ => REnd_49
  | 50, _ => REnd_50
  | 51, _ => REnd_51
  | 52, _ => REnd_52
  | 53, _ => REnd_53
  | 54, _ => REnd_54
  | 55, _ => REnd_55
  | 56, _ => REnd_56
  | 57, _ => REnd_57
  | 58, _ => REnd_58
  | 59, _ => REnd_59
  | 60, _ => REnd_60
  | 61, _ => REnd_61
  | 62, _ => REnd_62
  | 63, _ => REnd_63
  | 64, _ => REnd_64
  | 65, _ => REnd_65
  | 66, _ => REnd_66
  | 67, _ => REnd_67
  | 68, _ => REnd_68
  | 69, _ => REnd_69
  | 70, _ => REnd_70
  | 71, _ => REnd_71
  | 72, _ => REnd_72
  | 73, _ => REnd_73
  | 74, _ => REnd_74
  | 75, _ => REnd_75
  | 76, _ => REnd_76
  | 77, _ => REnd_77
  | 78, _ => REnd_78
  | 79, _ => REnd_79
  | 80, _ => REnd_80
  | 81, _ => REnd_81
  | 82, _ => REnd_82
  | 83, _ => REnd_83
  | 84, _ => REnd_84
  | 85, _ => REnd_85
  | 86, _ => REnd_86
  | 87, _ => REnd_87
  | 88, _ => REnd_88
  | 89, _ => REnd_89
  | 90, _ => REnd_90
  | 91, _ => REnd_91
  | 92, _ => REnd_92
  | 93, _ => REnd_93
  | 94, _ => REnd_94
  | 95, _ => REnd_95
  | 96, _ => REnd_96
  | 97, _ => REnd_97
  | 98, _ => REnd_98
  | 99, _ => REnd_99
  | 100, _ => REnd_100
  | 101, _ => REnd_101
  | 102, _ => REnd_102
  | 103, _ => REnd_103
  | 104, _ => REnd_104
  | 105, _ => REnd_105
  | 106, _ => REnd_106
  | 107, _ => REnd_107
  | 108, _ => REnd_108
  | 109, _ => REnd_109
  | 110, _ => REnd_110
  | 111, _ => REnd_111
  | 112, _ => REnd_112
  | 113, _ => REnd_113
  | 114, _ => REnd_114
  | 115, _ => REnd_115
  | 116, _ => REnd_116
  | 117, _ => REnd_117
  | 118, _ => REnd_118
  | 119, _ => REnd_119
  | 120, _ => REnd_120
  | 121, _ => REnd_121
  | 122, _ => REnd_122
  | 123, _ => REnd_123
  | 124, _ => REnd_124
  | 125, _ => REnd_125
  | 126, _ => REnd_126
  | 127, _ => REnd_127
  | _ + 128, h => absurd h (by omega)

theorem all_at {n : Nat} {f : Nat → Bool} (h : ((List.range n).all f) = true) {k : Nat} (hk : k < n) : f k = true := List.all_eq_true.1 h k (List.mem_range.2 hk)

theorem fr_open (t : Nat) (ht : t < 256) : roundR (2 * t) = true := by
  have h := all_at (ROpen_all (t / 4) (by omega)) (show t % 4 < 4 by omega)
  rwa [show t / 4 * 4 + t % 4 = t by omega] at h

theorem fr_closed (t : Nat) (ht : t < 511) : roundR (2 * t + 3) = true := by
  have h := all_at (RClosed_all (t / 8) (by omega)) (show t % 8 < 8 by omega)
  rw [show t / 8 * 8 + t % 8 = t by omega] at h
  rcases orB_ok h with h | h
  · have := (ble_iff _ _).1 h
    omega
  · exact h

theorem fr_end (t : Nat) (ht : t < 512) : endR t = true := by
  have h := all_at (REnd_all (t / 4) (by omega)) (show t % 4 < 4 by omega)
  rwa [show t / 4 * 4 + t % 4 = t by omega] at h

theorem fr_rounds (h : Nat) (hh : okR h = true) : roundR h = true := by
  unfold okR at hh
  rcases (by omega : h % 2 = 0 ∨ h % 2 = 1) with e | e
  · rw [e] at hh
    have hh : Nat.blt h 512 = true := hh
    rw [blt_iff] at hh
    have := fr_open (h / 2) (by omega)
    rwa [show 2 * (h / 2) = h by omega] at this
  · rw [e] at hh
    obtain ⟨h1, h2⟩ := andB_ok (show andB (Nat.blt 1 h) (Nat.blt h 1024) = true from hh)
    rw [blt_iff] at h1 h2
    have := fr_closed (h / 2 - 1) (by omega)
    rwa [show 2 * (h / 2 - 1) + 3 = h by omega] at this

end Go.Proofs.YtfliaagohfoipaaGreat
