/- Joined: Args. -/
import Derived.Test.YtjelehcnpocnoaaGreatDoorK26
import Derived.Test.YtjelehcnpocnoaaGreatDoorCards
import Derived.Test.YtjelehcnpocnoaaGreatDoorTie
import Derived.ProofKit
import Derived.OpenShut
import Derived.Carry
import Derived.Deep.SlicePairs
import Derived.Deep.DeepHandedRow
import Derived.Lib.LaidTab
/- An argument that is a slice of files, opened; the bound on what came in. -/
namespace Go.Proofs.YtjelehcnpocnoaaGreatDoor
set_option linter.unusedSimpArgs false
set_option linter.unusedVariables false
set_option linter.unnecessarySimpa false
open Go.ChangeShapes Go.WideShapes Go.ChangeAt Go.RowKit Go.Deep
set_option maxRecDepth 100000
set_option maxHeartbeats 4000000

theorem bulk_one {H : Type} (d : DataW H) : 1 ≤ Rows.uptoBulk d := by
  cases d with
  | lit l => cases l <;> simp [Rows.uptoBulk]
  | nil => simp [Rows.uptoBulk]
  | ptr d => simp [Rows.uptoBulk]
  | slice elems spare => simp [Rows.uptoBulk]
  | agg parts => simp [Rows.uptoBulk]
  | iface t d => simp [Rows.uptoBulk]
  | map entries => simp [Rows.uptoBulk]
  | held h => simp [Rows.uptoBulk]
theorem bulk_part {H : Type} {d : DataW H} {l : List (DataW H)} (h : d ∈ l) : Rows.uptoBulk d ≤ Rows.uptoBulkAll l := by
  induction l with
  | nil => cases h
  | cons x r ih =>
    simp only [Rows.uptoBulkAll]
    cases List.mem_cons.1 h with
    | inl e => subst e; omega
    | inr e => have := ih e; omega
theorem bulk_length {H : Type} (l : List (DataW H)) : l.length ≤ Rows.uptoBulkAll l := by
  induction l with
  | nil => simp [Rows.uptoBulkAll]
  | cons x r ih => have := bulk_one x; simp only [Rows.uptoBulkAll, List.length_cons]; omega
theorem u_fileS : ∃ f0 f1 : Field, Tryz.prog.underlying 39 = some (.struct #[f0, f1]) ∧ f0.offset = 0 ∧ f1.offset = 1 ∧ f0.type = 9 ∧ f1.type = 9 := ⟨_, _, Tryz.underlying39, rfl, rfl, rfl, rfl⟩
theorem c_fileS : Tryz.prog.cellsOf 39 = 2 := by kernel_rfl
theorem c_strS : Tryz.prog.cellsOf 9 = 1 := by kernel_rfl
theorem laidOut : laidOutB Tryz.prog = true := by kernel_rfl
/-- What a slice of files that came in reads as. -/
theorem open_files {H : Type} {enc : TypeId × Value → H} {W : World} {base : Nat} {r : Reach} {v : Value} {d : DataW H} {ps : List MemPlace} (hv : Value.okWide Tryz.prog W r base 22 v) (h : DataW.Trod enc Tryz.prog W 0 (fun _ => true) true 22 v d ps) (hb : Rows.uptoBulk d ≤ 1048576) :
    ∃ l : List Fl, Ar W v l ∧ l.length ≤ 1048576 ∧ ∀ f ∈ l, f.path.length ≤ 4000000 ∧ f.id.length ≤ 4000000 := by
  obtain ⟨a0, len0, cap0, rfl⟩ := okWide_slice u_filesR hv
  obtain ⟨fuel, hf⟩ := h
  obtain ⟨f0, f1, hs, o0, o1, t0, t1⟩ := u_fileS
  rcases open_slice_pairs u_filesR hs c_fileS o0 o1 (by rw [t0]; exact c_strS) (by rw [t1]; exact c_strS) hf with ⟨hcs, hx⟩ | ⟨a, len, cap, m, n, V0, V1, D0, D1, P0, P1, hcs, _, hl, hm, hmm, hx, hi⟩
  · simp [Value.cells] at hcs
    obtain ⟨rfl, rfl, rfl⟩ := hcs
    exact ⟨[], ⟨none, 0, rfl, Nat.le_refl _, Nat.zero_le _, fun h => absurd h (by simp)⟩, by simp, by simp⟩
  · simp [Value.cells] at hcs
    obtain ⟨rfl, rfl, rfl⟩ := hcs
    simp only [if_true] at hmm
    simp only [Prod.mk.injEq] at hx
    obtain ⟨rfl, rfl⟩ := hx
    simp only [Rows.uptoBulk] at hb
    have hlen := bulk_length ((List.range len0).map fun i => (DataW.agg [D0 i, D1 i] : DataW H))
    simp only [List.length_map, List.length_range] at hlen
    have each : ∀ i, i < len0 → ∃ f : Fl, V0 i = .string (mk f.path) ∧ V1 i = .string (mk f.id) ∧ f.path.length ≤ 1048576 ∧ f.id.length ≤ 1048576 := fun i hil => by
      obtain ⟨_, _, h3, h4⟩ := hi i (by rw [hmm]; omega)
      rw [t0] at h3
      rw [t1] at h4
      obtain ⟨s, e1, e2, _⟩ := DataW.trod_string u_string h3
      obtain ⟨s', e3, e4, _⟩ := DataW.trod_string u_string h4
      have hp := bulk_part (H := H) (d := .agg [D0 i, D1 i]) (l := (List.range len0).map fun i => (DataW.agg [D0 i, D1 i] : DataW H)) (List.mem_map.2 ⟨i, List.mem_range.2 hil, rfl⟩)
      simp only [Prod.mk.injEq] at e2 e4
      rw [e2.1, e4.1] at hp
      simp only [Rows.uptoBulk, Rows.uptoBulkAll] at hp
      refine ⟨⟨bl s, bl s'⟩, ?_, ?_, ?_, ?_⟩
      · rw [mk_bl]; simpa using e1
      · rw [mk_bl]; simpa using e3
      · show s.data.toList.length ≤ _; omega
      · show s'.data.toList.length ≤ _; omega
    have : ∃ F : Nat → Fl, ∀ i, i < len0 → V0 i = .string (mk (F i).path) ∧ V1 i = .string (mk (F i).id) ∧ (F i).path.length ≤ 1048576 ∧ (F i).id.length ≤ 1048576 := by
      classical
      exact ⟨fun i => if h : i < len0 then Classical.choose (each i h) else ⟨[], []⟩, fun i h => by
        simp only [dif_pos h]
        exact Classical.choose_spec (each i h)⟩
    obtain ⟨F, hF⟩ := this
    refine ⟨(List.range len0).map F, ⟨some a, _, by simp; rfl, by simpa using hl, by simp only [maxLen] at hm; omega, fun hn => ?_⟩, by simp; omega, fun f hf => ?_⟩
    · simp only [List.length_map, List.length_range] at hn
      have hc0 := (hi 0 (by rw [hmm]; omega)).1
      obtain ⟨b, o, sp⟩ := a
      obtain rfl : sp = none := by
        rw [Nat.zero_mul] at hc0
        simp only [Addr.add, if_true, World.cell?] at hc0
        cases sp with
        | none => rfl
        | some x => split at hc0 <;> simp at hc0
      refine ⟨b, o, rfl, fun j f hj => ?_⟩
      have hjl : j < len0 := by have := (List.getElem?_eq_some_iff.1 hj).1; simpa using this
      obtain rfl : F j = f := by simpa [hjl] using hj
      obtain ⟨g0, g1, _, _⟩ := hi j (by rw [hmm]; omega)
      obtain ⟨e0, e1, _, _⟩ := hF j hjl
      rw [e0] at g0
      rw [e1] at g1
      have hadd : ∀ k, (⟨b, o, none⟩ : Addr).add k = ⟨b, o + k, none⟩ := fun k => by unfold Addr.add; split <;> simp_all
      rw [hadd] at g0 g1
      exact ⟨g0, by rw [Nat.add_assoc]; exact g1⟩
    · obtain ⟨i, hil, rfl⟩ := List.mem_map.1 hf
      obtain ⟨_, _, k1, k2⟩ := hF i (List.mem_range.1 hil)
      exact ⟨by omega, by omega⟩
theorem max_cell {W : World} (h : W.ShapedOpen Tryz.prog) : ∃ m, W.cell? ⟨0, 0, none⟩ = some (.int .i64 m) :=
  Go.Proofs.cell_of_shapedOpen_int (zero := #[.int .i64 0]) (t := 3) h (of_decide_eq_true (by kernel_rfl)) (by kernel_rfl) rfl (by kernel_rfl) (by kernel_rfl) Tryz.underlying3

def withCells (cs : Array Value) : Obj → Obj
  | .cells _ t frozen => .cells cs t frozen
  | o => o
def firstCells : Array Value := (Go.Pinned.utf8FirstZ.map fun (n : Nat) => Value.int .u8 (n : Int)).toArray
def rangeCells : Array Value := (([128, 191, 160, 191, 128, 159, 144, 191, 128, 143, 0, 0, 0, 0, 0, 0, 0, 0, 0, 0, 0, 0, 0, 0, 0, 0, 0, 0, 0, 0, 0, 0] : List Nat).map fun (n : Nat) => Value.int .u8 (n : Int)).toArray
/-- A world for the witness: the settled one, the two listed tables as they are laid. -/
noncomputable def laidWorld (os : Os) : World :=
  { World.holding Tryz.prog os ⟨#[], #[], []⟩ with heap := ((World.holding Tryz.prog os ⟨#[], #[], []⟩).heap.modify 1 (withCells firstCells)).modify 2 (withCells rangeCells) }
theorem own : ownKnob Tryz.prog.godebug = none := by kernel_rfl
theorem laid_met2 (os : Os) : laidMet Tryz.prog Rows.treeBackUptoRow.laid ((laidWorld os).forCall (fun _ _ => 0) ⟨#[], #[.slice none 0 0, .slice none 0 0], []⟩).memory :=
  laidMet_of_run' 8 (by kernel_rfl) (by kernel_rfl)
end Go.Proofs.YtjelehcnpocnoaaGreatDoor
