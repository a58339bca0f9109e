/-
  What is defined here: the states of plugboardlaw41.SerialsCarry behind its deeds, in the rounds of plugboardlaw41.SerialsKnown.
  Conditions: none (definitions only).
-/
import Derived.Test.YtjbkbapndoacpaaKDefs
namespace Go.Proofs.Ytjbkbapndoacpaa
open Go.Sy Go.RowKit

set_option maxRecDepth 1000000

noncomputable def runE (l : List (Nat × Nat)) : List E := l.flatMap fun x => (List.range x.2).map fun j => .n (.ofNat ((x.1 + j) % 256))
noncomputable def runV (l : List (Nat × Nat)) : List V := l.flatMap fun x => (List.range x.2).map fun j => k8 (x.1 + j)

/-- behind the deeds of round 0 -/
noncomputable def pnD0 : Pn := ⟨0, 0, [(0, k8 0), (4, bF), (5, .ptr 4117 0), (7, .str (runE [(40, 60)])), (8, .str (runE [(40, 60)])), (9, .str (runE [(1, 1), (241, 65), (125, 47), (125, 13), (161, 11), (253, 41)])), (10, .str (runE [(1, 1), (241, 65), (125, 47)])), (11, bT)],
  [(4117, .cells [.ptr 4115 0, .ptr 4116 0, bF, bF, bF, ni64 8, bF] true true none),
   (4115, .cells [.slice 4200 0 65 (.t 0 0), .slice 4201 0 0 (.n 0), nu16 5, nu32 9600, nu8 0, nu8 0, nu8 8, nu8 1, nu8 0, nu8 0, ni64 0, ni64 1, .ptr 4110 0, .ptr 4112 0, .ptr 4114 0] true true none),
   (4116, .cells [bT, nu8 0, .map 4119, .nilIface, nu8 0, .nilPtr] true true none),
   (4200, .cells (runV [(125, 13), (161, 11), (253, 41)]) true true (some (0, 1))),
   (4201, .cells [] true true none),
   (4110, .cells [.eslice 4202 (some (1, 1, 1)), ni64 0, .nilSlice, nu8 1, bT, nu8 2, ni64 8, bF, bF] true true none),
   (4112, .cells [.nilSlice, ni64 1, .nilSlice, nu8 2, bF, nu8 2, ni64 8, bF, bF] true true none),
   (4114, .cells [.nilSlice, ni64 0, .nilSlice, nu8 3, bT, nu8 3, ni64 16, bF, bF] true true none),
   (4119, .pm [(.agg [nu8 1, bT], .ptr 4110 0), (.agg [nu8 2, bF], .ptr 4112 0), (.agg [nu8 3, bT], .ptr 4114 0)] true),
   (4202, .cells [.slice 4203 0 4 (.n 4)] true true (some (1, 1))),
   (4203, .cells (runV [(96, 4)]) true true none)], 4204, 2, [(0, 65), (1, 1)], [], []⟩
/-- behind the deeds of round 1 -/
noncomputable def pnD1 : Pn := ⟨0, 0, [(0, k8 1), (4, bF), (5, .ptr 4117 0), (7, .str (runE [(156, 38), (104, 14), (0, 46)])), (8, .str (runE [(156, 38), (104, 14), (0, 46)])), (9, .str (runE [(213, 15), (77, 5)])), (10, .str (runE [(213, 15), (77, 5)])), (11, bT)],
  [(4117, .cells [.ptr 4115 0, .ptr 4116 0, bT, bF, bF, ni64 16, bF] true true none),
   (4115, .cells [.slice 4200 0 0 (.n 0), .slice 4201 0 0 (.n 0), nu16 5, nu32 9600, nu8 0, nu8 0, nu8 8, nu8 1, nu8 0, nu8 0, ni64 0, ni64 0, .ptr 4110 0, .ptr 4112 0, .ptr 4114 0] true true none),
   (4116, .cells [bT, nu8 0, .map 4119, .nilIface, nu8 0, .nilPtr] true true none),
   (4200, .cells [] true true none),
   (4201, .cells [] true true none),
   (4110, .cells [.eslice 4202 (some (1, 0, 1)), ni64 0, .nilSlice, nu8 1, bT, nu8 2, ni64 16, bT, bF] true true none),
   (4112, .cells [.nilSlice, ni64 1, .nilSlice, nu8 2, bF, nu8 2, ni64 16, bF, bF] true true none),
   (4114, .cells [.nilSlice, ni64 0, .nilSlice, nu8 3, bT, nu8 3, ni64 16, bF, bF] true true none),
   (4119, .pm [(.agg [nu8 1, bT], .ptr 4110 0), (.agg [nu8 2, bF], .ptr 4112 0), (.agg [nu8 3, bT], .ptr 4114 0)] true),
   (4202, .cells [.slice 4203 0 2 (.n 2)] true true (some (0, 1))),
   (4203, .cells [nu8 44, nu8 45] true true none)], 4204, 1, [(0, 1)], [], []⟩
/-- behind the deeds of round 2 -/
noncomputable def pnD2 : Pn := ⟨0, 0, [(0, k8 2), (4, bF), (5, .ptr 4117 0), (7, .str (runE [(28, 44), (132, 20), (196, 58), (140, 12)])), (8, .str (runE [(28, 44), (132, 20), (196, 58)])), (9, .str (runE [(221, 37)])), (10, .str (runE [(221, 37)])), (11, bT)],
  [(4117, .cells [.ptr 4115 0, .ptr 4116 0, bF, bF, bF, ni64 32, bF] true true none),
   (4115, .cells [.slice 4200 0 0 (.n 0), .slice 4201 0 12 (.t 0 0), nu16 5, nu32 9600, nu8 0, nu8 0, nu8 8, nu8 1, nu8 0, nu8 0, ni64 0, ni64 6, .ptr 4110 0, .ptr 4112 0, .ptr 4114 0] true true none),
   (4116, .cells [bT, nu8 0, .map 4119, .nilIface, nu8 0, .nilPtr] true true none),
   (4200, .cells [] true true none),
   (4201, .cells (runV [(140, 12)]) true true (some (0, 1))),
   (4110, .cells [.eslice 4202 (some (1, 1, 1)), ni64 0, .nilSlice, nu8 1, bT, nu8 2, ni64 32, bF, bF] true true none),
   (4112, .cells [.nilSlice, ni64 1, .nilSlice, nu8 2, bF, nu8 2, ni64 32, bF, bF] true true none),
   (4114, .cells [.nilSlice, ni64 0, .nilSlice, nu8 3, bT, nu8 3, ni64 16, bF, bF] true true none),
   (4119, .pm [(.agg [nu8 1, bT], .ptr 4110 0), (.agg [nu8 2, bF], .ptr 4112 0), (.agg [nu8 3, bT], .ptr 4114 0)] true),
   (4202, .cells [.slice 4203 0 26 (.n 26)] true true (some (1, 1))),
   (4203, .cells (runV [(228, 26)]) true true none)], 4204, 2, [(0, 12), (1, 1)], [], []⟩
/-- behind the deeds of round 3 -/
noncomputable def pnD3 : Pn := ⟨0, 0, [(0, k8 3), (4, bF), (5, .ptr 4117 0), (7, .str (runE [(120, 62)])), (8, .str (runE [(120, 62)])), (9, .str (runE [(221, 27), (229, 19), (141, 11), (117, 53)])), (10, .str (runE [(221, 27), (229, 19), (141, 11)])), (11, bT)],
  [(4117, .cells [.ptr 4115 0, .ptr 4116 0, bT, bF, bF, ni64 64, bF] true true none),
   (4115, .cells [.slice 4200 0 53 (.t 0 0), .slice 4201 0 0 (.n 0), nu16 5, nu32 9600, nu8 0, nu8 0, nu8 8, nu8 1, nu8 0, nu8 0, ni64 0, ni64 4, .ptr 4110 0, .ptr 4112 0, .ptr 4114 0] true true none),
   (4116, .cells [bT, nu8 0, .map 4119, .nilIface, nu8 0, .nilPtr] true true none),
   (4200, .cells (runV [(117, 53)]) true true (some (0, 1))),
   (4201, .cells [] true true none),
   (4110, .cells [.eslice 4202 (some (1, 1, 1)), ni64 0, .nilSlice, nu8 1, bT, nu8 2, ni64 64, bT, bF] true true none),
   (4112, .cells [.nilSlice, ni64 1, .nilSlice, nu8 2, bF, nu8 2, ni64 64, bF, bF] true true none),
   (4114, .cells [.nilSlice, ni64 0, .nilSlice, nu8 3, bT, nu8 3, ni64 16, bF, bF] true true none),
   (4119, .pm [(.agg [nu8 1, bT], .ptr 4110 0), (.agg [nu8 2, bF], .ptr 4112 0), (.agg [nu8 3, bT], .ptr 4114 0)] true),
   (4202, .cells [.slice 4203 0 62 (.n 62)] true true (some (1, 1))),
   (4203, .cells (runV [(120, 62)]) true true none)], 4204, 2, [(0, 53), (1, 1)], [], []⟩
/-- behind the deeds of round 4 -/
noncomputable def pnD4 : Pn := ⟨0, 0, [(0, k8 4), (4, bF), (5, .ptr 4117 0), (7, .str (runE [(20, 38), (184, 52), (224, 36)])), (8, .str (runE [])), (9, .str (runE [(221, 9), (73, 33), (217, 65)])), (10, .str (runE [(221, 9), (73, 33), (217, 65)])), (11, bT)],
  [(4117, .cells [.ptr 4115 0, .ptr 4116 0, bF, bF, bF, ni64 8, bF] true true none),
   (4115, .cells [.slice 4200 0 0 (.n 0), .slice 4201 0 118 (.t 0 0), nu16 5, nu32 9600, nu8 0, nu8 0, nu8 8, nu8 1, nu8 0, nu8 0, ni64 0, ni64 6, .ptr 4110 0, .ptr 4112 0, .ptr 4114 0] true true none),
   (4116, .cells [bT, nu8 0, .map 4119, .nilIface, nu8 0, .nilPtr] true true none),
   (4200, .cells [] true true none),
   (4201, .cells (runV [(28, 30), (184, 52), (224, 36)]) true true (some (0, 1))),
   (4110, .cells [.slice 4202 0 1 (.t 1 0), ni64 0, .nilSlice, nu8 1, bT, nu8 2, ni64 8, bF, bF] true true none),
   (4112, .cells [.nilSlice, ni64 1, .nilSlice, nu8 2, bF, nu8 2, ni64 8, bF, bF] true true none),
   (4114, .cells [.nilSlice, ni64 0, .nilSlice, nu8 3, bT, nu8 3, ni64 16, bF, bF] true true none),
   (4119, .pm [(.agg [nu8 1, bT], .ptr 4110 0), (.agg [nu8 2, bF], .ptr 4112 0), (.agg [nu8 3, bT], .ptr 4114 0)] true),
   (4202, .cells [.slice 4203 0 8 (.n 8)] true true (some (1, 1))),
   (4203, .cells (runV [(20, 8)]) true true none)], 4204, 2, [(0, 118), (1, 1)], [], []⟩
/-- behind the deeds of round 5 -/
noncomputable def pnD5 : Pn := ⟨0, 0, [(0, k8 5), (4, bF), (5, .ptr 4117 0), (7, .str (runE [(188, 4), (16, 58)])), (8, .str (runE [(188, 4), (16, 58)])), (9, .str (runE [(173, 21), (73, 15)])), (10, .str (runE [(173, 21), (73, 15)])), (11, bT)],
  [(4117, .cells [.ptr 4115 0, .ptr 4116 0, bT, bT, bF, ni64 16, bF] true true none),
   (4115, .cells [.slice 4200 0 0 (.n 0), .slice 4201 0 0 (.n 0), nu16 5, nu32 9600, nu8 0, nu8 0, nu8 8, nu8 1, nu8 0, nu8 0, ni64 0, ni64 4, .ptr 4110 0, .ptr 4112 0, .ptr 4114 0] true true none),
   (4116, .cells [bT, nu8 0, .map 4119, .nilIface, nu8 0, .nilPtr] true true none),
   (4200, .cells [] true true none),
   (4201, .cells [] true true none),
   (4110, .cells [.eslice 4202 (some (1, 0, 1)), ni64 0, .nilSlice, nu8 1, bT, nu8 2, ni64 16, bT, bF] true true none),
   (4112, .cells [.nilSlice, ni64 1, .nilSlice, nu8 2, bF, nu8 2, ni64 16, bT, bF] true true none),
   (4114, .cells [.nilSlice, ni64 0, .nilSlice, nu8 3, bT, nu8 3, ni64 16, bF, bF] true true none),
   (4119, .pm [(.agg [nu8 1, bT], .ptr 4110 0), (.agg [nu8 2, bF], .ptr 4112 0), (.agg [nu8 3, bT], .ptr 4114 0)] true),
   (4202, .cells [.slice 4203 0 10 (.n 10)] true true (some (0, 1))),
   (4203, .cells (runV [(64, 10)]) true true none)], 4204, 1, [(0, 1)], [], []⟩
/-- behind the deeds of round 6 -/
noncomputable def pnD6 : Pn := ⟨0, 0, [(0, k8 6), (4, bF), (5, .ptr 4117 0), (7, .str (runE [(60, 42), (240, 60), (172, 54)])), (8, .str (runE [(60, 42), (240, 60), (172, 54)])), (9, .str (runE [(245, 29), (5, 65), (105, 1)])), (10, .str (runE [(245, 29), (5, 65)])), (11, bT)],
  [(4117, .cells [.ptr 4115 0, .ptr 4116 0, bT, bT, bF, ni64 32, bF] true true none),
   (4115, .cells [.slice 4200 0 1 (.t 0 0), .slice 4201 0 0 (.n 0), nu16 5, nu32 9600, nu8 0, nu8 0, nu8 8, nu8 1, nu8 0, nu8 0, ni64 0, ni64 4, .ptr 4110 0, .ptr 4112 0, .ptr 4114 0] true true none),
   (4116, .cells [bT, nu8 0, .map 4119, .nilIface, nu8 0, .nilPtr] true true none),
   (4200, .cells [nu8 105] true true (some (0, 1))),
   (4201, .cells [] true true none),
   (4110, .cells [.eslice 4202 (some (1, 1, 1)), ni64 0, .nilSlice, nu8 1, bT, nu8 2, ni64 32, bT, bF] true true none),
   (4112, .cells [.nilSlice, ni64 1, .nilSlice, nu8 2, bF, nu8 2, ni64 32, bT, bF] true true none),
   (4114, .cells [.nilSlice, ni64 0, .nilSlice, nu8 3, bT, nu8 3, ni64 16, bF, bF] true true none),
   (4119, .pm [(.agg [nu8 1, bT], .ptr 4110 0), (.agg [nu8 2, bF], .ptr 4112 0), (.agg [nu8 3, bT], .ptr 4114 0)] true),
   (4202, .cells [.slice 4203 0 28 (.n 28)] true true (some (1, 1))),
   (4203, .cells (runV [(198, 28)]) true true none)], 4204, 2, [(0, 1), (1, 1)], [], []⟩
/-- behind the deeds of round 7 -/
noncomputable def pnD7 : Pn := ⟨0, 0, [(0, k8 7), (4, bF), (5, .ptr 4117 0), (7, .str (runE [(84, 44), (48, 10), (96, 54), (44, 22)])), (8, .str (runE [(84, 44), (48, 10), (96, 54)])), (9, .str (runE [(193, 41), (181, 9)])), (10, .str (runE [(193, 41), (181, 9)])), (11, bT)],
  [(4117, .cells [.ptr 4115 0, .ptr 4116 0, bT, bF, bF, ni64 64, bF] true true none),
   (4115, .cells [.slice 4200 0 0 (.n 0), .slice 4201 0 22 (.t 0 0), nu16 5, nu32 9600, nu8 0, nu8 0, nu8 8, nu8 1, nu8 0, nu8 0, ni64 0, ni64 2, .ptr 4110 0, .ptr 4112 0, .ptr 4114 0] true true none),
   (4116, .cells [bT, nu8 0, .map 4119, .nilIface, nu8 0, .nilPtr] true true none),
   (4200, .cells [] true true none),
   (4201, .cells (runV [(44, 22)]) true true (some (0, 1))),
   (4110, .cells [.eslice 4202 (some (1, 1, 1)), ni64 0, .nilSlice, nu8 1, bT, nu8 2, ni64 64, bT, bF] true true none),
   (4112, .cells [.nilSlice, ni64 1, .nilSlice, nu8 2, bF, nu8 2, ni64 64, bF, bF] true true none),
   (4114, .cells [.nilSlice, ni64 0, .nilSlice, nu8 3, bT, nu8 3, ni64 16, bF, bF] true true none),
   (4119, .pm [(.agg [nu8 1, bT], .ptr 4110 0), (.agg [nu8 2, bF], .ptr 4112 0), (.agg [nu8 3, bT], .ptr 4114 0)] true),
   (4202, .cells [.slice 4203 0 54 (.n 54)] true true (some (1, 1))),
   (4203, .cells (runV [(96, 54)]) true true none)], 4204, 2, [(0, 22), (1, 1)], [], []⟩
/-- behind the deeds of round 8 -/
noncomputable def pnD8 : Pn := ⟨0, 0, [(0, k8 8), (4, bF), (5, .ptr 4117 0), (7, .str (runE [(100, 18), (100, 36), (144, 30), (140, 4)])), (8, .str (runE [(100, 18), (100, 36), (144, 30)])), (9, .str (runE [(153, 11), (217, 13)])), (10, .str (runE [(153, 11)])), (11, bT)],
  [(4117, .cells [.ptr 4115 0, .ptr 4116 0, bT, bF, bF, ni64 8, bF] true true none),
   (4115, .cells [.slice 4200 0 13 (.t 0 0), .slice 4201 0 4 (.t 1 0), nu16 5, nu32 9600, nu8 0, nu8 0, nu8 8, nu8 1, nu8 0, nu8 0, ni64 0, ni64 1, .ptr 4110 0, .ptr 4112 0, .ptr 4114 0] true true none),
   (4116, .cells [bT, nu8 0, .map 4119, .nilIface, nu8 0, .nilPtr] true true none),
   (4200, .cells (runV [(217, 13)]) true true (some (0, 1))),
   (4201, .cells (runV [(140, 4)]) true true (some (1, 1))),
   (4110, .cells [.eslice 4202 (some (1, 2, 1)), ni64 0, .nilSlice, nu8 1, bT, nu8 2, ni64 8, bT, bF] true true none),
   (4112, .cells [.nilSlice, ni64 1, .nilSlice, nu8 2, bF, nu8 2, ni64 8, bF, bF] true true none),
   (4114, .cells [.nilSlice, ni64 0, .nilSlice, nu8 3, bT, nu8 3, ni64 16, bF, bF] true true none),
   (4119, .pm [(.agg [nu8 1, bT], .ptr 4110 0), (.agg [nu8 2, bF], .ptr 4112 0), (.agg [nu8 3, bT], .ptr 4114 0)] true),
   (4202, .cells [.slice 4203 0 6 (.n 6)] true true (some (2, 1))),
   (4203, .cells (runV [(168, 6)]) true true none)], 4204, 3, [(0, 13), (1, 4), (2, 1)], [], []⟩
/-- behind the deeds of round 9 -/
noncomputable def pnD9 : Pn := ⟨0, 0, [(0, k8 9), (4, bF), (5, .ptr 4117 0), (7, .str (runE [(4, 20), (180, 40), (0, 18)])), (8, .str (runE [(4, 20), (180, 40)])), (9, .str (runE [(41, 19), (185, 51), (29, 35), (81, 11)])), (10, .str (runE [(41, 19), (185, 51), (29, 35), (81, 11)])), (11, bT)],
  [(4117, .cells [.ptr 4115 0, .ptr 4116 0, bF, bF, bF, ni64 16, bF] true true none),
   (4115, .cells [.slice 4200 0 0 (.n 0), .slice 4201 0 18 (.t 0 0), nu16 5, nu32 9600, nu8 0, nu8 0, nu8 8, nu8 1, nu8 0, nu8 0, ni64 0, ni64 3, .ptr 4110 0, .ptr 4112 0, .ptr 4114 0] true true none),
   (4116, .cells [bT, nu8 0, .map 4119, .nilIface, nu8 0, .nilPtr] true true none),
   (4200, .cells [] true true none),
   (4201, .cells (runV [(0, 18)]) true true (some (0, 1))),
   (4110, .cells [.eslice 4202 (some (1, 1, 1)), ni64 0, .nilSlice, nu8 1, bT, nu8 2, ni64 16, bF, bF] true true none),
   (4112, .cells [.nilSlice, ni64 1, .nilSlice, nu8 2, bF, nu8 2, ni64 16, bF, bF] true true none),
   (4114, .cells [.nilSlice, ni64 0, .nilSlice, nu8 3, bT, nu8 3, ni64 16, bF, bF] true true none),
   (4119, .pm [(.agg [nu8 1, bT], .ptr 4110 0), (.agg [nu8 2, bF], .ptr 4112 0), (.agg [nu8 3, bT], .ptr 4114 0)] true),
   (4202, .cells [.slice 4203 0 12 (.n 12)] true true (some (1, 1))),
   (4203, .cells (runV [(208, 12)]) true true none)], 4204, 2, [(0, 18), (1, 1)], [], []⟩
/-- behind the deeds of round 10 -/
noncomputable def pnD10 : Pn := ⟨0, 0, [(0, k8 10), (4, bF), (5, .ptr 4117 0), (7, .str (runE [(184, 50), (244, 14), (228, 22)])), (8, .str (runE [(184, 50), (244, 14), (228, 22)])), (9, .str (runE [(161, 57), (41, 57), (29, 45)])), (10, .str (runE [(161, 57), (41, 57), (29, 45)])), (11, bT)],
  [(4117, .cells [.ptr 4115 0, .ptr 4116 0, bF, bF, bF, ni64 32, bF] true true none),
   (4115, .cells [.slice 4200 0 0 (.n 0), .slice 4201 0 0 (.n 0), nu16 5, nu32 9600, nu8 0, nu8 0, nu8 8, nu8 1, nu8 0, nu8 0, ni64 0, ni64 3, .ptr 4110 0, .ptr 4112 0, .ptr 4114 0] true true none),
   (4116, .cells [bT, nu8 0, .map 4119, .nilIface, nu8 0, .nilPtr] true true none),
   (4200, .cells [] true true none),
   (4201, .cells [] true true none),
   (4110, .cells [.eslice 4202 (some (1, 0, 1)), ni64 0, .nilSlice, nu8 1, bT, nu8 2, ni64 32, bF, bF] true true none),
   (4112, .cells [.nilSlice, ni64 1, .nilSlice, nu8 2, bF, nu8 2, ni64 32, bF, bF] true true none),
   (4114, .cells [.nilSlice, ni64 0, .nilSlice, nu8 3, bT, nu8 3, ni64 16, bF, bF] true true none),
   (4119, .pm [(.agg [nu8 1, bT], .ptr 4110 0), (.agg [nu8 2, bF], .ptr 4112 0), (.agg [nu8 3, bT], .ptr 4114 0)] true),
   (4202, .cells [.slice 4203 0 22 (.n 22)] true true (some (0, 1))),
   (4203, .cells (runV [(228, 22)]) true true none)], 4204, 1, [(0, 1)], [], []⟩
/-- behind the deeds of round 11 -/
noncomputable def pnD11 : Pn := ⟨0, 0, [(0, k8 11), (4, bF), (5, .ptr 4117 0), (7, .str (runE [(64, 32)])), (8, .str (runE [])), (9, .str (runE [(65, 65), (193, 15), (25, 7), (57, 51), (141, 53)])), (10, .str (runE [(65, 65), (193, 15), (25, 7), (57, 51)])), (11, bT)],
  [(4117, .cells [.ptr 4115 0, .ptr 4116 0, bF, bF, bF, ni64 64, bF] true true none),
   (4115, .cells [.slice 4200 0 53 (.t 0 0), .slice 4201 0 32 (.t 1 0), nu16 5, nu32 9600, nu8 0, nu8 0, nu8 8, nu8 1, nu8 0, nu8 0, ni64 0, ni64 5, .ptr 4110 0, .ptr 4112 0, .ptr 4114 0] true true none),
   (4116, .cells [bT, nu8 0, .map 4119, .nilIface, nu8 0, .nilPtr] true true none),
   (4200, .cells (runV [(141, 53)]) true true (some (0, 1))),
   (4201, .cells (runV [(64, 32)]) true true (some (1, 1))),
   (4110, .cells [.nilSlice, ni64 0, .nilSlice, nu8 1, bT, nu8 2, ni64 64, bF, bF] true true none),
   (4112, .cells [.nilSlice, ni64 1, .nilSlice, nu8 2, bF, nu8 2, ni64 64, bF, bF] true true none),
   (4114, .cells [.nilSlice, ni64 0, .nilSlice, nu8 3, bT, nu8 3, ni64 16, bF, bF] true true none),
   (4119, .pm [(.agg [nu8 1, bT], .ptr 4110 0), (.agg [nu8 2, bF], .ptr 4112 0), (.agg [nu8 3, bT], .ptr 4114 0)] true)], 4202, 2, [(0, 53), (1, 32)], [], []⟩
/-- behind the deeds of round 12 -/
noncomputable def pnD12 : Pn := ⟨0, 0, [(0, k8 12), (4, bF), (5, .ptr 4117 0), (7, .str (runE [(248, 62), (48, 8), (140, 44)])), (8, .str (runE [])), (9, .str (runE [(77, 57), (49, 67)])), (10, .str (runE [(77, 57), (49, 67)])), (11, bT)],
  [(4117, .cells [.ptr 4115 0, .ptr 4116 0, bF, bT, bF, ni64 8, bF] true true none),
   (4115, .cells [.slice 4200 0 0 (.n 0), .slice 4201 0 106 (.t 0 0), nu16 5, nu32 9600, nu8 0, nu8 0, nu8 8, nu8 1, nu8 0, nu8 0, ni64 0, ni64 1, .ptr 4110 0, .ptr 4112 0, .ptr 4114 0] true true none),
   (4116, .cells [bT, nu8 0, .map 4119, .nilIface, nu8 0, .nilPtr] true true none),
   (4200, .cells [] true true none),
   (4201, .cells (runV [(0, 54), (48, 8), (140, 44)]) true true (some (0, 1))),
   (4110, .cells [.slice 4202 0 1 (.t 1 0), ni64 0, .nilSlice, nu8 1, bT, nu8 2, ni64 8, bF, bF] true true none),
   (4112, .cells [.nilSlice, ni64 1, .nilSlice, nu8 2, bF, nu8 2, ni64 8, bT, bF] true true none),
   (4114, .cells [.nilSlice, ni64 0, .nilSlice, nu8 3, bT, nu8 3, ni64 16, bF, bF] true true none),
   (4119, .pm [(.agg [nu8 1, bT], .ptr 4110 0), (.agg [nu8 2, bF], .ptr 4112 0), (.agg [nu8 3, bT], .ptr 4114 0)] true),
   (4202, .cells [.slice 4203 0 8 (.n 8)] true true (some (1, 1))),
   (4203, .cells (runV [(248, 8)]) true true none)], 4204, 2, [(0, 106), (1, 1)], [], []⟩
/-- behind the deeds of round 13 -/
noncomputable def pnD13 : Pn := ⟨0, 0, [(0, k8 13), (4, bF), (5, .ptr 4117 0), (7, .str (runE [(20, 50), (36, 12)])), (8, .str (runE [(20, 50), (36, 12)])), (9, .str (runE [(185, 49)])), (10, .str (runE [(185, 49)])), (11, bT)],
  [(4117, .cells [.ptr 4115 0, .ptr 4116 0, bT, bF, bF, ni64 16, bF] true true none),
   (4115, .cells [.slice 4200 0 0 (.n 0), .slice 4201 0 0 (.n 0), nu16 5, nu32 9600, nu8 0, nu8 0, nu8 8, nu8 1, nu8 0, nu8 0, ni64 0, ni64 0, .ptr 4110 0, .ptr 4112 0, .ptr 4114 0] true true none),
   (4116, .cells [bT, nu8 0, .map 4119, .nilIface, nu8 0, .nilPtr] true true none),
   (4200, .cells [] true true none),
   (4201, .cells [] true true none),
   (4110, .cells [.eslice 4202 (some (1, 0, 1)), ni64 0, .nilSlice, nu8 1, bT, nu8 2, ni64 16, bT, bF] true true none),
   (4112, .cells [.nilSlice, ni64 1, .nilSlice, nu8 2, bF, nu8 2, ni64 16, bF, bF] true true none),
   (4114, .cells [.nilSlice, ni64 0, .nilSlice, nu8 3, bT, nu8 3, ni64 16, bF, bF] true true none),
   (4119, .pm [(.agg [nu8 1, bT], .ptr 4110 0), (.agg [nu8 2, bF], .ptr 4112 0), (.agg [nu8 3, bT], .ptr 4114 0)] true),
   (4202, .cells [.slice 4203 0 12 (.n 12)] true true (some (0, 1))),
   (4203, .cells (runV [(36, 12)]) true true none)], 4204, 1, [(0, 1)], [], []⟩
/-- behind the deeds of round 14 -/
noncomputable def pnD14 : Pn := ⟨0, 0, [(0, k8 14), (4, bF), (5, .ptr 4117 0), (7, .str (runE [(232, 24), (116, 66), (12, 50), (240, 16)])), (8, .str (runE [(232, 24), (116, 66), (12, 50), (240, 16)])), (9, .str (runE [(97, 45)])), (10, .str (runE [(97, 45)])), (11, bT)],
  [(4117, .cells [.ptr 4115 0, .ptr 4116 0, bT, bF, bF, ni64 32, bF] true true none),
   (4115, .cells [.slice 4200 0 0 (.n 0), .slice 4201 0 0 (.n 0), nu16 5, nu32 9600, nu8 0, nu8 0, nu8 8, nu8 1, nu8 0, nu8 0, ni64 0, ni64 2, .ptr 4110 0, .ptr 4112 0, .ptr 4114 0] true true none),
   (4116, .cells [bT, nu8 0, .map 4119, .nilIface, nu8 0, .nilPtr] true true none),
   (4200, .cells [] true true none),
   (4201, .cells [] true true none),
   (4110, .cells [.eslice 4202 (some (1, 0, 1)), ni64 0, .nilSlice, nu8 1, bT, nu8 2, ni64 32, bT, bF] true true none),
   (4112, .cells [.nilSlice, ni64 1, .nilSlice, nu8 2, bF, nu8 2, ni64 32, bF, bF] true true none),
   (4114, .cells [.nilSlice, ni64 0, .nilSlice, nu8 3, bT, nu8 3, ni64 16, bF, bF] true true none),
   (4119, .pm [(.agg [nu8 1, bT], .ptr 4110 0), (.agg [nu8 2, bF], .ptr 4112 0), (.agg [nu8 3, bT], .ptr 4114 0)] true),
   (4202, .cells [.slice 4203 0 16 (.n 16)] true true (some (0, 1))),
   (4203, .cells (runV [(240, 16)]) true true none)], 4204, 1, [(0, 1)], [], []⟩
/-- behind the deeds of round 15 -/
noncomputable def pnD15 : Pn := ⟨0, 0, [(0, k8 15), (4, bF), (5, .ptr 4117 0), (7, .str (runE [(88, 16), (96, 16), (36, 2)])), (8, .str (runE [(88, 16), (96, 16)])), (9, .str (runE [(153, 57), (193, 3)])), (10, .str (runE [(153, 57), (193, 3)])), (11, bT)],
  [(4117, .cells [.ptr 4115 0, .ptr 4116 0, bF, bF, bF, ni64 64, bF] true true none),
   (4115, .cells [.slice 4200 0 0 (.n 0), .slice 4201 0 2 (.t 0 0), nu16 5, nu32 9600, nu8 0, nu8 0, nu8 8, nu8 1, nu8 0, nu8 0, ni64 0, ni64 7, .ptr 4110 0, .ptr 4112 0, .ptr 4114 0] true true none),
   (4116, .cells [bT, nu8 0, .map 4119, .nilIface, nu8 0, .nilPtr] true true none),
   (4200, .cells [] true true none),
   (4201, .cells [nu8 36, nu8 37] true true (some (0, 1))),
   (4110, .cells [.eslice 4202 (some (1, 1, 1)), ni64 0, .nilSlice, nu8 1, bT, nu8 2, ni64 64, bF, bF] true true none),
   (4112, .cells [.nilSlice, ni64 1, .nilSlice, nu8 2, bF, nu8 2, ni64 64, bF, bF] true true none),
   (4114, .cells [.nilSlice, ni64 0, .nilSlice, nu8 3, bT, nu8 3, ni64 16, bF, bF] true true none),
   (4119, .pm [(.agg [nu8 1, bT], .ptr 4110 0), (.agg [nu8 2, bF], .ptr 4112 0), (.agg [nu8 3, bT], .ptr 4114 0)] true),
   (4202, .cells [.slice 4203 0 16 (.n 16)] true true (some (1, 1))),
   (4203, .cells (runV [(96, 16)]) true true none)], 4204, 2, [(0, 2), (1, 1)], [], []⟩
/-- behind the deeds of round 16 -/
noncomputable def pnD16 : Pn := ⟨0, 0, [(0, k8 16), (4, bF), (5, .ptr 4117 0), (7, .str (runE [(16, 54), (12, 42), (124, 4)])), (8, .str (runE [(16, 54)])), (9, .str (runE [])), (10, .str (runE [])), (11, bT)],
  [(4117, .cells [.ptr 4115 0, .ptr 4116 0, bT, bF, bF, ni64 8, bF] true true none),
   (4115, .cells [.nilSlice, .slice 4200 0 46 (.t 0 0), nu16 5, nu32 9600, nu8 0, nu8 0, nu8 8, nu8 1, nu8 0, nu8 0, ni64 0, ni64 2, .ptr 4110 0, .ptr 4112 0, .ptr 4114 0] true true none),
   (4116, .cells [bT, nu8 0, .map 4119, .nilIface, nu8 0, .nilPtr] true true none),
   (4200, .cells (runV [(12, 42), (124, 4)]) true true (some (0, 1))),
   (4110, .cells [.eslice 4201 (some (1, 1, 1)), ni64 0, .nilSlice, nu8 1, bT, nu8 2, ni64 8, bT, bF] true true none),
   (4112, .cells [.nilSlice, ni64 1, .nilSlice, nu8 2, bF, nu8 2, ni64 8, bF, bF] true true none),
   (4114, .cells [.nilSlice, ni64 0, .nilSlice, nu8 3, bT, nu8 3, ni64 16, bF, bF] true true none),
   (4119, .pm [(.agg [nu8 1, bT], .ptr 4110 0), (.agg [nu8 2, bF], .ptr 4112 0), (.agg [nu8 3, bT], .ptr 4114 0)] true),
   (4201, .cells [.slice 4202 0 6 (.n 6)] true true (some (1, 1))),
   (4202, .cells (runV [(64, 6)]) true true none)], 4203, 2, [(0, 46), (1, 1)], [], []⟩
/-- behind the deeds of round 17 -/
noncomputable def pnD17 : Pn := ⟨0, 0, [(0, k8 17), (4, bF), (5, .ptr 4117 0), (7, .str (runE [(168, 2), (80, 26), (60, 30), (96, 2)])), (8, .str (runE [(168, 2), (80, 26), (60, 30)])), (9, .str (runE [(105, 15)])), (10, .str (runE [(105, 15)])), (11, bT)],
  [(4117, .cells [.ptr 4115 0, .ptr 4116 0, bF, bT, bF, ni64 16, bF] true true none),
   (4115, .cells [.slice 4200 0 0 (.n 0), .slice 4201 0 2 (.t 0 0), nu16 5, nu32 9600, nu8 0, nu8 0, nu8 8, nu8 1, nu8 0, nu8 0, ni64 0, ni64 3, .ptr 4110 0, .ptr 4112 0, .ptr 4114 0] true true none),
   (4116, .cells [bT, nu8 0, .map 4119, .nilIface, nu8 0, .nilPtr] true true none),
   (4200, .cells [] true true none),
   (4201, .cells [nu8 96, nu8 97] true true (some (0, 1))),
   (4110, .cells [.eslice 4202 (some (1, 1, 1)), ni64 0, .nilSlice, nu8 1, bT, nu8 2, ni64 16, bF, bF] true true none),
   (4112, .cells [.nilSlice, ni64 1, .nilSlice, nu8 2, bF, nu8 2, ni64 16, bT, bF] true true none),
   (4114, .cells [.nilSlice, ni64 0, .nilSlice, nu8 3, bT, nu8 3, ni64 16, bF, bF] true true none),
   (4119, .pm [(.agg [nu8 1, bT], .ptr 4110 0), (.agg [nu8 2, bF], .ptr 4112 0), (.agg [nu8 3, bT], .ptr 4114 0)] true),
   (4202, .cells [.slice 4203 0 14 (.n 14)] true true (some (1, 1))),
   (4203, .cells (runV [(76, 14)]) true true none)], 4204, 2, [(0, 2), (1, 1)], [], []⟩
/-- behind the deeds of round 18 -/
noncomputable def pnD18 : Pn := ⟨0, 0, [(0, k8 18), (4, bF), (5, .ptr 4117 0), (7, .str (runE [(68, 32), (8, 22)])), (8, .str (runE [])), (9, .str (runE [(69, 13), (25, 25), (21, 67), (233, 67)])), (10, .str (runE [(69, 13), (25, 25), (21, 67), (233, 67)])), (11, bT)],
  [(4117, .cells [.ptr 4115 0, .ptr 4116 0, bF, bF, bF, ni64 32, bF] true true none),
   (4115, .cells [.slice 4200 0 0 (.n 0), .slice 4201 0 54 (.t 0 0), nu16 5, nu32 9600, nu8 0, nu8 0, nu8 8, nu8 1, nu8 0, nu8 0, ni64 0, ni64 4, .ptr 4110 0, .ptr 4112 0, .ptr 4114 0] true true none),
   (4116, .cells [bT, nu8 0, .map 4119, .nilIface, nu8 0, .nilPtr] true true none),
   (4200, .cells [] true true none),
   (4201, .cells (runV [(68, 32), (8, 22)]) true true (some (0, 1))),
   (4110, .cells [.nilSlice, ni64 0, .nilSlice, nu8 1, bT, nu8 2, ni64 32, bF, bF] true true none),
   (4112, .cells [.nilSlice, ni64 1, .nilSlice, nu8 2, bF, nu8 2, ni64 32, bF, bF] true true none),
   (4114, .cells [.nilSlice, ni64 0, .nilSlice, nu8 3, bT, nu8 3, ni64 16, bF, bF] true true none),
   (4119, .pm [(.agg [nu8 1, bT], .ptr 4110 0), (.agg [nu8 2, bF], .ptr 4112 0), (.agg [nu8 3, bT], .ptr 4114 0)] true)], 4202, 1, [(0, 54)], [], []⟩
/-- behind the deeds of round 19 -/
noncomputable def pnD19 : Pn := ⟨0, 0, [(0, k8 19), (4, bF), (5, .ptr 4117 0), (7, .str (runE [(188, 8)])), (8, .str (runE [(188, 8)])), (9, .str (runE [(77, 51), (153, 35)])), (10, .str (runE [(77, 51), (153, 35)])), (11, bT)],
  [(4117, .cells [.ptr 4115 0, .ptr 4116 0, bT, bF, bF, ni64 64, bF] true true none),
   (4115, .cells [.slice 4200 0 0 (.n 0), .slice 4201 0 0 (.n 0), nu16 5, nu32 9600, nu8 0, nu8 0, nu8 8, nu8 1, nu8 0, nu8 0, ni64 0, ni64 6, .ptr 4110 0, .ptr 4112 0, .ptr 4114 0] true true none),
   (4116, .cells [bT, nu8 0, .map 4119, .nilIface, nu8 0, .nilPtr] true true none),
   (4200, .cells [] true true none),
   (4201, .cells [] true true none),
   (4110, .cells [.eslice 4202 (some (1, 0, 1)), ni64 0, .nilSlice, nu8 1, bT, nu8 2, ni64 64, bT, bF] true true none),
   (4112, .cells [.nilSlice, ni64 1, .nilSlice, nu8 2, bF, nu8 2, ni64 64, bF, bF] true true none),
   (4114, .cells [.nilSlice, ni64 0, .nilSlice, nu8 3, bT, nu8 3, ni64 16, bF, bF] true true none),
   (4119, .pm [(.agg [nu8 1, bT], .ptr 4110 0), (.agg [nu8 2, bF], .ptr 4112 0), (.agg [nu8 3, bT], .ptr 4114 0)] true),
   (4202, .cells [.slice 4203 0 8 (.n 8)] true true (some (0, 1))),
   (4203, .cells (runV [(188, 8)]) true true none)], 4204, 1, [(0, 1)], [], []⟩

noncomputable def pnDs : List Pn := [pnD0, pnD1, pnD2, pnD3, pnD4, pnD5, pnD6, pnD7, pnD8, pnD9, pnD10, pnD11, pnD12, pnD13, pnD14, pnD15, pnD16, pnD17, pnD18, pnD19]
noncomputable def pnD (n : Nat) : Pn := pnDs.getD n pnD0
noncomputable def hdD : Hds := ⟨pnD, fun n => Nat.blt n 20, fun _ => 0, fun env _ => natV (env 0)⟩
noncomputable def carryA (n : Nat) : Bool := goodT (leafH hdD 4) (evHead Try.prog cfQ 90 301 caPath caCode (pnC n).env (pnC n).mem (pnC n).pc)
noncomputable def carryB (n : Nat) : Bool := goodT (leafR 4) (evCode caRest Try.prog cfQ 90 301 (pnD n).env (pnD n).mem (pnD n).pc)

end Go.Proofs.Ytjbkbapndoacpaa
