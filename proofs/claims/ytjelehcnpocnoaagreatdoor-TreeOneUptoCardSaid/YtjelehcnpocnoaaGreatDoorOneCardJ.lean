/- TreeOne: a file that is given another id turns no other, and the root is another one: at every list of files, index and byte of bulk at most 1048576, whatever the memory; the two listed tables of unicode/utf8 hold what the program's text lays (the tie is given). -/
import Derived.Test.YtjelehcnpocnoaaGreatDoorK27
import Derived.Test.YtjelehcnpocnoaaGreatDoorOneJ
namespace Go.Proofs.YtjelehcnpocnoaaGreatDoor
set_option linter.unusedSimpArgs false
set_option linter.unusedVariables false
set_option linter.unnecessarySimpa false
open Go.ChangeShapes Go.WideShapes Go.ChangeAt Go.RowKit
set_option maxRecDepth 100000
set_option maxHeartbeats 4000000

theorem one_contract (H : Type) (enc : TypeId × Value → H) (W : World) (base : Nat) (args : Array Value) (ds gs : List (DataW H)) (before : List MemPlace)
    (hval : ∀ (j : Nat) t v, Tryz.f4.params[j]? = some t → args[j]? = some v → Value.okWide Tryz.prog W .any base t v)
    (hW : DataW.Whole enc Tryz.prog Tryz.f4.params.toList Rows.treeOneSpec.vars false W args.toList ds gs before) (hk : Rows.uptoSmall H (ds ++ gs) = true) (hsh : W.ShapedOpen Tryz.prog) :
    Calls Tryz.prog 4 args W fun e W' => ∃ v, e = .returned v ∧ Rows.treeOneSpec.post enc Tryz.prog Tryz.f4 false true false false W args v W' := by
  have hW' := hW
  obtain ⟨p, q, hA0, hV, rfl, _, _⟩ := hW
  have hA : DataW.TrodAll enc Tryz.prog W 0 (fun _ => true) true Tryz.f4.params.toList args.toList ds p := hA0
  rw [Tryz.params4] at hA hval
  obtain ⟨v0, v1, v2, d0, d1, d2, p0, p1, p2, rfl, rfl, rfl, h0, h1, h2⟩ := trodAll_three hA
  obtain ⟨rfl, rfl⟩ := trodVars_none hV
  clear hA0
  simp only [List.append_nil] at hW' hk
  have hb : Rows.uptoBulkAll [d0, d1, d2] ≤ 1048576 := of_decide_eq_true hk
  simp only [Rows.uptoBulkAll] at hb
  obtain ⟨m, hm⟩ := max_cell hsh
  obtain ⟨l, hl, hl1, hl2⟩ := open_files (hval 0 22 v0 rfl rfl) h0 (by omega)
  obtain ⟨i, rfl, hd1, hp1, _⟩ := open_int (k := .i64) Tryz.underlying3 (hval 1 3 v1 rfl rfl) h1
  obtain ⟨x, rfl, hd2, hp2, hxw⟩ := open_int (k := .u8) Tryz.underlying5 (hval 2 5 v2 rfl rfl) h2
  obtain ⟨c, hc⟩ : ∃ c : UInt8, Value.int .u8 x = bv c := by
    simp only [Lit.wf, Bool.and_eq_true, decide_eq_true_eq, IntKind.min, IntKind.max, IntKind.signed, IntKind.bits] at hxw
    refine ⟨UInt8.ofNat x.toNat, ?_⟩
    unfold bv
    congr 1
    rw [UInt8.toNat_ofNat']
    simp at hxw
    omega
  have hlt : ∀ y ∈ p0 ++ p1 ++ p2, y.block < W.heap.size := fun y hy => by simpa using hW'.lt y (by simpa using hy)
  rw [hc] at h2 hW' ⊢
  refine (TreeOne_calls m v0 l i c W hl hl1 hl2 hm).mono fun e W' ⟨he, hF⟩ => ?_
  subst he
  have hbe := hF.below
  have harg0 : DataW.Trod enc Tryz.prog W' 0 (fun b => decide (b < W.heap.size)) true 22 v0 d0 p0 :=
    Below.trod laidOut (by kernel_rfl) (of_decide_eq_true (by kernel_rfl)) h0 hbe (fun x hx => hlt x (by simp [hx]))
  have harg1 : DataW.Trod enc Tryz.prog W' 0 (fun b => decide (b < W.heap.size)) true 3 (.int .i64 i) d1 p1 :=
    Below.trod laidOut (by kernel_rfl) (of_decide_eq_true (by kernel_rfl)) h1 hbe (fun x hx => hlt x (by simp [hx]))
  have harg2 : DataW.Trod enc Tryz.prog W' 0 (fun b => decide (b < W.heap.size)) true 5 (bv c) d2 p2 :=
    Below.trod laidOut (by kernel_rfl) (of_decide_eq_true (by kernel_rfl)) h2 hbe (fun x hx => hlt x (by simp [hx]))
  refine ⟨_, rfl, _, _, _, [], _, [], hW', ?_, trodAll_mk3 harg0 harg1 harg2, rfl, ?_, fun h => by cases h⟩
  · show DataW.TrodAll enc Tryz.prog W' _ _ _ _ _ [.lit (.bool true)] []
    exact trodAll_mk1 (shut_bool Tryz.underlying4 _)
  · exact World.keptBut_mono (fun x hx => ⟨hx, by simpa using hx⟩) (hbe.frame (· ∈ _))

theorem one_laid (os : Os) : laidMet Tryz.prog Rows.treeOneUptoRow.laid ((laidWorld os).forCall (fun _ _ => 0) ⟨#[], #[.slice none 0 0, .int .i64 0, .int .u8 0], []⟩).memory :=
  laidMet_of_run' 8 (by kernel_rfl) (by kernel_rfl)
theorem one_reads (os : Os) {H : Type} (enc : TypeId × Value → H) : ∃ places, DataW.whole enc Tryz.prog ((laidWorld os).forCall (fun _ _ => 0) ⟨#[], #[.slice none 0 0, .int .i64 0, .int .u8 0], []⟩).memory Tryz.f4.params.toList Rows.treeOneSpec.vars false #[Value.slice none 0 0, Value.int .i64 0, Value.int .u8 0].toList 8 = some ([.nil, .lit (.int .i64 0), .lit (.int .u8 0)], [], places) :=
  ⟨[], by kernel_rfl⟩
theorem one_lifted (os : Os) (started : os.Started) (H : Type) (enc : TypeId × Value → H) (F : Stop.Interp) :
    ReturnsInHanded {} Tryz.checked os 4 .any ((Rows.OpenSpec.upto Rows.treeOneSpec).preRow enc Tryz.prog Tryz.f4 Rows.treeOneUptoRow.domain false Rows.treeOneUptoRow.laid) (((Rows.OpenSpec.upto Rows.treeOneSpec).at F).post enc Tryz.prog Tryz.f4 false true false false) := by
  obtain ⟨places, hx⟩ := one_reads os enc
  refine returnsInHanded_of_row (C := Tryz.checked) (s := Rows.OpenSpec.upto Rows.treeOneSpec) own started (by kernel_rfl) Tryz.func4
    (witness_row_at (enc := enc) (C := Tryz.checked) false (laidWorld os) #[.slice none 0 0, .int .i64 0, .int .u8 0] rfl (by kernel_rfl) (by kernel_rfl) (by kernel_rfl)
      (OpenSpec.preRow_of_cond 8 hx (by kernel_rfl) (fun k hk => by cases hk; kernel_rfl) (by kernel_rfl) (one_laid os))) ?_
  intro W base args ds gs before hval hW _ hcond _ hL hsh _
  exact one_contract H enc W base args ds gs before hval hW (hcond _ rfl) hsh
theorem one_said : Rows.TreeOneUptoSaid :=
  OpenClaim.holds_of_cond 4 Tryz.f4 rfl rfl rfl rfl rfl rfl rfl ⟨rfl, rfl, rfl, rfl, rfl⟩ rfl rfl rfl rfl rfl (by kernel_rfl) Tryz.func4 (by kernel_rfl)
    (of_decide_eq_true (by kernel_rfl)) (by unfold Func.isWrapper; first | (rw [if_pos (by decide +kernel)]; kernel_rfl) | (rw [if_neg (by decide +kernel)]; exact ⟨rfl, rfl⟩))
    (fun os started H enc _ F => by rw [OpenClaim.pre_eq_preRow]; exact one_lifted os started H enc F)
theorem one_plain (f : FuncId) (fn : Func) (hf : Tryz.pinned.checked.prog.funcNamed "dolmen/dolmenlaw13.TreeOne" = some f) (hfn : Tryz.pinned.checked.prog.funcs[f]? = some fn) :
    true = Tryz.pinned.checked.prog.looks [] ∧ ∀ (j : Nat) t, fn.params[j]? = some t → Tryz.pinned.checked.prog.wantsStandIn t = false := by
  obtain rfl : f = 4 := Option.some.inj ((show Tryz.prog.funcNamed "dolmen/dolmenlaw13.TreeOne" = some 4 by kernel_rfl).symm.trans hf) |>.symm
  obtain rfl : fn = Tryz.f4 := (Option.some.inj (Tryz.func4.symm.trans hfn)).symm
  refine ⟨by kernel_rfl, fun j t ht => ?_⟩
  rw [Tryz.params4] at ht
  have hmem : t = 22 ∨ t = 3 ∨ t = 5 := by
    have := Array.mem_of_getElem? ht
    simpa using this
  rcases hmem with rfl | rfl | rfl
  · exact (show Tryz.prog.wantsStandIn 22 = false by kernel_rfl)
  · exact (show Tryz.prog.wantsStandIn 3 = false by kernel_rfl)
  · exact (show Tryz.prog.wantsStandIn 5 = false by kernel_rfl)
theorem treeOne_card : Rows.TreeOneUptoCardSaid :=
  Claim7.holds_tied_plain_at .later [] _ _ _ _ one_said (fun _ h => by cases h) (by kernel_rfl) (fun _ h => by cases h) treeOneUpto_row_tie rfl ⟨rfl, rfl⟩ (by kernel_rfl) rfl one_plain (by kernel_rfl)
end Go.Proofs.YtjelehcnpocnoaaGreatDoor
