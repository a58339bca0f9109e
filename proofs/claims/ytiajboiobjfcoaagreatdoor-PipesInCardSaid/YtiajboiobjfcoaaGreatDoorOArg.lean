/-
  What is proved here: what the arguments of the laws are, out of how they read.
  Conditions: none.
  What is proved here: what the argument of plugboardlaw23.PipesOut is, out of how it reads, and how long its slices are at most.
  Conditions: none.
-/
import Derived.Test.YtiajboiobjfcoaaGreatDoorIPnx
import Derived.Test.YtiajboiobjfcoaaGreatDoorQWant
import Derived.Test.YtiajboiobjfcoaaGreatDoorSyM5
import Derived.ProofKit
import Derived.Deep.Slices
import Derived.Handed
namespace Go.Proofs.YtiajboiobjfcoaaGreatDoor
open Go.Sy Go.RowKit Go.ChangeShapes Go.WideShapes Go.ChangeAt
set_option maxRecDepth 1000000
section
variable {H : Type} {enc : TypeId × Value → H} {W : World} {b : Nat} {sp : Nat → Bool} {held : Bool}
theorem cells_u8 : Tryz.prog.cellsOf 5 = 1 := by kernel_rfl
theorem cells_u8s : Tryz.prog.cellsOf 23 = 1 := by kernel_rfl
theorem rng_u8 {n : Int} (h : (Lit.int .u8 n).wf = true) : 0 ≤ n ∧ n ≤ 255 := by
 have h1 : IntKind.u8.min = 0 := rfl
 have h2 : IntKind.u8.max = 255 := rfl
 simp only [Lit.wf, Bool.and_eq_true, decide_eq_true_eq] at h
 omega
theorem plain_of {w : World} {a : Addr} {v : Value} (h : w.cell? a = some v) : a = ⟨a.block, a.off, none⟩ := by
 have hs : a.spot = none := by
  unfold World.cell? at h
  split at h
  ·split at h
   ·simp at h
   ·rename_i hs; cases hsp : a.spot <;> simp_all
  ·simp at h
 cases a; simp at hs; simp [hs]
theorem add_zero' (a : Addr) : a.add 0 = a := by simp [Addr.add]
theorem slz_arg {a : Addr} {n c : Nat} (hn : n ≤ 9223372036854775807) (h : 0 < n → ∃ v, W.cell? (a.add 0) = some v) : SlZ (.slice (some a) n c) n (some a).isNone := by
 refine ⟨hn, c, ?_⟩
 rcases Nat.eq_zero_or_pos n with h0 | h0
 ·subst h0
  exact .inr ⟨rfl, some a, rfl, rfl⟩
 ·obtain ⟨v, hv⟩ := h h0
  rw [add_zero'] at hv
  refine .inl ⟨h0, a.block, a.off, ?_⟩
  rw [← plain_of hv]
theorem u8_open {fuel : Nat} {v : Value} {x : DataW H × List MemPlace} (h : DataW.trod enc Tryz.prog W b sp held fuel 23 [v] = some x) :
  ∃ A n c xs, v = .slice A n c ∧ U8 W A n c xs ∧ SlZ v n A.isNone := by
 rcases open_ints (k := .u8) rfl rfl cells_u8 h with ⟨hcs, _⟩ | ⟨a, len', cap', zs, hcs, _, hl, hm, hz, _, hcell, hwz⟩
 ·simp at hcs
  subst hcs
  exact ⟨none, 0, 0, [], rfl, ⟨rfl, (fun x hx => nomatch hx), Nat.le_refl _, .inl ⟨rfl, rfl, rfl⟩⟩, by omega, 0, .inr ⟨rfl, none, rfl, rfl⟩⟩
 ·simp at hcs
  subst hcs
  have hzl : len' ≤ zs.length := by split at hz <;> omega
  unfold maxLen at hm
  refine ⟨some a, len', cap', zs.take len', rfl, ⟨by rw [List.length_take]; omega, fun x hx => rng_u8 (hwz x (List.mem_of_mem_take hx)), hl, .inr ⟨a, rfl, fun j hj => ?_⟩⟩, slz_arg (W := W) (by omega) fun h0 => ⟨_, hcell 0 (by omega)⟩⟩
  rw [List.getElem?_take, if_pos hj]
  exact hcell j (by omega)
end
end Go.Proofs.YtiajboiobjfcoaaGreatDoor

namespace Go.Proofs.YtiajboiobjfcoaaGreatDoor
open Go.Sy Go.RowKit Go.ChangeShapes Go.WideShapes Go.ChangeAt
set_option maxRecDepth 1000000
section
variable {H : Type} {enc : TypeId × Value → H} {W : World} {b : Nat} {sp : Nat → Bool} {held : Bool}
theorem bytes_u8 : Tryz.prog.bytesOf 5 = 1 := by kernel_rfl
theorem bytes_u8s : Tryz.prog.bytesOf 23 = 24 := by kernel_rfl
theorem und_u8s : Tryz.prog.underlying 23 = some (.slice 5) := rfl
theorem und_u8ss : Tryz.prog.underlying 22 = some (.slice 23) := rfl
theorem weighs_mem {e : TypeId} : ∀ {l : List (DataW H)} {d : DataW H}, d ∈ l → (∀ x ∈ DataW.weightsAll Tryz.prog e l, x ≤ reachBytes) → ∀ x ∈ d.weights Tryz.prog e, x ≤ reachBytes
 | y :: r, d, hm, h => by
  rw [DataW.weightsAll] at h
  rcases List.mem_cons.1 hm with rfl | hm
  ·exact fun x hx => h x (List.mem_append_left _ hx)
  ·exact weighs_mem hm fun x hx => h x (List.mem_append_right _ hx)
theorem u8_len {fuel : Nat} {A : Option Addr} {n c : Nat} {x : DataW H × List MemPlace} (h : DataW.trod enc Tryz.prog W b sp held fuel 23 [.slice A n c] = some x) (hw : ∀ y ∈ x.1.weights Tryz.prog 23, y ≤ reachBytes) : n ≤ 1000000000000000 := by
 rcases DataW.trod_slice und_u8s h with ⟨e, rfl⟩ | ⟨a, len, cap, elems, rest, m, rfl, e, rfl, _, _, _, hl, _⟩
 ·simp at e
  omega
 ·simp at e
  obtain ⟨rfl, rfl, rfl⟩ := e
  rw [DataW.weights, und_u8s] at hw
  have h1 := hw _ (List.mem_cons_self ..)
  rw [bytes_u8, List.length_map, List.length_map] at h1
  unfold reachBytes at h1
  omega
theorem pl_of {A : Option Addr} {n c : Nat} (h : SlZ (.slice A n c) n A.isNone) : Pl A n := by
 obtain ⟨_, cap, ⟨h0, b, o, e⟩ | ⟨h0, _⟩⟩ := h
 ·injection e with e1 e2 e3
  exact .inr ⟨b, o, e1⟩
 ·exact .inl h0
theorem jobs_open {fuel : Nat} {v : Value} {x : DataW H × List MemPlace} (h : DataW.trod enc Tryz.prog W b sp held fuel 22 [v] = some x) (hw : ∀ y ∈ x.1.weights Tryz.prog 22, y ≤ reachBytes) :
  ∃ A n c vs, ∃ bs : List (List Int), v = .slice A n c ∧ Sls W A n c vs ∧ n ≤ 1000000000000000 ∧ vs.length = bs.length ∧ ∀ (j : Nat) v b, vs[j]? = some v → bs[j]? = some b → ∃ A n c, v = .slice A n c ∧ U8 W A n c b ∧ n ≤ 1000000000000000 ∧ Pl A n := by
 rcases Go.Deep.open_slice1 und_u8ss cells_u8s h with ⟨hcs, _⟩ | ⟨a, len', cap', m, n, V, D, Pl', hcs, _, hl, hm, hmm, e, hx⟩
 ·simp at hcs
  subst hcs
  exact ⟨none, 0, 0, [], [], rfl, ⟨rfl, Nat.le_refl _, .inl ⟨rfl, rfl, rfl⟩⟩, by omega, rfl, fun j v b hj => by simp at hj⟩
 ·simp at hcs
  subst hcs
  subst e
  have hml : len' ≤ m := by split at hmm <;> omega
  rw [DataW.weights, und_u8ss] at hw
  dsimp only at hw
  have h1 := hw _ (List.mem_cons_self ..)
  rw [bytes_u8s, List.length_map, List.length_map, List.length_range] at h1
  unfold reachBytes at h1
  have hwe : ∀ i, i < len' → ∀ y ∈ (D i).weights Tryz.prog 23, y ≤ reachBytes := fun i hi =>
   weighs_mem (l := (List.range len').map D) (List.mem_map.2 ⟨i, List.mem_range.2 hi, rfl⟩) fun y hy => hw y (List.mem_cons_of_mem _ (List.mem_append_left _ hy))
  have hel : ∀ i, i < len' → ∃ xs, ∃ A n c, V i = .slice A n c ∧ U8 W A n c xs ∧ n ≤ 1000000000000000 ∧ Pl A n := by
   intro i hi
   have h2 := (hx i (by omega)).2
   obtain ⟨A, n, c, xs, e, hu, hz⟩ := u8_open h2
   rw [e] at h2 hz
   exact ⟨xs, A, n, c, e, hu, u8_len h2 (hwe i hi), pl_of hz⟩
  obtain ⟨B, hB⟩ := Go.Deep.choose_lt hel
  refine ⟨some a, len', cap', (List.range len').map V, (List.range len').map B, rfl, ⟨by simp, hl, .inr ⟨a, rfl, fun j v hj => ?_⟩⟩, by omega, by simp, fun j v b hj hb => ?_⟩
  ·obtain ⟨i, hi, rfl⟩ := List.getElem?_map .. ▸ hj |> Option.map_eq_some_iff.1
   obtain ⟨h1, rfl⟩ := List.getElem?_eq_some_iff.1 hi
   simp at h1
   simpa using (hx j (by omega)).1
  ·obtain ⟨i, hi, rfl⟩ := List.getElem?_map .. ▸ hj |> Option.map_eq_some_iff.1
   obtain ⟨i', hi', rfl⟩ := List.getElem?_map .. ▸ hb |> Option.map_eq_some_iff.1
   obtain ⟨h1, rfl⟩ := List.getElem?_eq_some_iff.1 hi
   obtain ⟨_, rfl⟩ := List.getElem?_eq_some_iff.1 hi'
   simp at h1
   simpa using hB j (by omega)
end
theorem law_lifted_sized {C : Checked} {os : Os} {f : FuncId} {fn : Func} {s : ChangeSpec} {tb : TypeId} {laid : List (String × DataW Unit)} (own : ownKnob C.prog.godebug = none) (started : os.Started) (noInit : C.prog.inits.idxOf? f = none) (hfn : C.prog.funcs[f]? = some fn)
  (hl : laidOutB C.prog = true) (hpar : parsOk C.prog fn = true) (hr : fn.resultTypes = #[tb]) (htb : C.prog.underlying tb = some .bool) (hv : s.vars = [])
  {H : Type} {enc : TypeId × Value → H} (hs : ∀ (ds : List (DataW H)), ds.length = fn.params.size → s.fn H ds = { results := [.lit (.bool true)], args := ds })
  (witness : ∃ (w : World) (tape : Tape) (i : Input), w.os = os ∧ (w.forCall tape i).Shaped C.prog ∧ i.vars = [] ∧ Input.okWide C.prog (w.forCall tape i) .any w.heap.size f i ∧
   ((s.pre enc C.prog fn [] false (w.forCall tape i).memory i.args ∧ laidMetH C.prog laid (w.forCall tape i).memory) ∧ sizedMet enc C.prog fn (OpenSpec.ofChange s) false (w.forCall tape i).memory i.args) ∧
   ({} : Assume).holds C.prog (lone (Frame.enter C.prog f i.args .normal) [] (w.forCall tape i)))
  (hcall : ∀ (W : World) (base : Nat) (args : Array Value) (ds : List (DataW H)) (ps : List MemPlace) (ts : List TypeId), (∀ (j : Nat) t v, fn.params[j]? = some t → args[j]? = some v → Value.okWide C.prog W .any base t v) →
   DataW.TrodAll enc C.prog W 0 (fun _ => true) true fn.params.toList args.toList ds ps → (∀ y ∈ DataW.weightsEach C.prog (fn.params.toList ++ ts) (ds ++ []), y ≤ reachBytes) → laidMetH C.prog laid W → Calls C.prog f args W (LawEnd W)) :
  ReturnsInHanded {} C os f .any (fun w args => (s.pre enc C.prog fn [] false w args ∧ laidMetH C.prog laid w) ∧ sizedMet enc C.prog fn (OpenSpec.ofChange s) false w args) (s.post enc C.prog fn false true false false) := by
 refine returnsInHanded_of_change_and (X := fun w _ => laidMetH C.prog laid w) (fun _ _ _ hh h => h.of_heap hh) own started noInit hfn witness ?_
 intro W base args ds gs before hval hW _ hsz hL _
 have hW' := hW
 obtain ⟨p, q, hA, hV, rfl, hz, _⟩ := hW
 have hV' := hV
 rw [hv] at hV'
 obtain ⟨rfl, rfl⟩ := trodVars_none hV'
 refine (hcall W base args ds p _ hval hA (fun y hy => by simpa using List.all_eq_true.1 hsz y hy) hL).mono fun e W' he => ?_
 exact ⟨_, he.1, law_post hl hpar hr htb hv hs hW' he.2⟩
end Go.Proofs.YtiajboiobjfcoaaGreatDoor
