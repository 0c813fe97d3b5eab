/- Joined: Find Find2. -/
import Derived.Test.YtjelehcnpocnoaaGreatDoorK11
import Derived.Test.YtjelehcnpocnoaaGreatDoorK12
import Derived.Deep.RegionLaw
/- Layer 3, press: the finder. -/
namespace Go.Proofs.YtjelehcnpocnoaaGreatDoor
set_option linter.unusedSimpArgs false
set_option linter.unusedVariables false
set_option linter.unnecessarySimpa false
open Go.RowKit
set_option maxRecDepth 100000
set_option maxHeartbeats 4000000

theorem u_places : Tryz.prog.underlying 246 = some (.map 291 289) := by kernel_rfl
theorem u_ints : Tryz.prog.underlying 289 = some (.slice 3) := by kernel_rfl
theorem i_int : (Tryz.prog.info? 3).map (fun i => (i.zero, i.size, i.bytes)) = some (some (.int .i64 0), 1, 8) := by kernel_rfl
theorem z_ints (W : World) : (zeroValue 289).run Tryz.prog W = .ok (.slice none 0 0) W := by kernel_rfl
theorem u_four : Tryz.prog.underlying 291 = some (.array 4 5) := by kernel_rfl
theorem four_wide : (match Tryz.prog.underlying 291 with | some (.array _ _) | some (.struct _) => true | _ => false) = true := by rw [u_four]
theorem four_row : (291 : TypeId) < Tryz.prog.types.size := of_decide_eq_true (by kernel_rfl)
theorem four_laid : laidOutB Tryz.prog = true := by kernel_rfl
theorem k_four : WideMaps.KeyLaw Tryz.prog 291 := deep_law_laid four_laid (m := 2) (by omega) four_row (by kernel_rfl) four_wide
theorem four_cells : Tryz.prog.cellsOf 291 = 4 := by kernel_rfl
theorem byte_cells : Tryz.prog.cellsOf 5 = 1 := by kernel_rfl
theorem four_type : Tryz.prog.keyType 291 = true := by kernel_rfl
def fourV (a b c d : UInt8) : Value := .agg #[bv a, bv b, bv c, bv d]
theorem key_four (a b c d : UInt8) : ∃ s, keyOf Tryz.prog 291 (fourV a b c d) = some (.string s) := by
  have hform : (fourV a b c d).formed Tryz.prog 291 = true := by simp [fourV, Value.formed, u_four, four_cells]
  obtain ⟨m, hm⟩ : ∃ m, Tryz.prog.types.size = m + 1 := Nat.exists_eq_succ_of_ne_zero (Nat.ne_of_gt (Nat.lt_of_le_of_lt (Nat.zero_le _) four_row))
  have hl : ∀ x : UInt8, Tryz.prog.keyLits (m + 1) 5 [bv x] = some [.int .u8 (x.toNat : Int)] := fun x => by
    have hx := x.toNat_lt
    simp [Program.keyLits, u_byte, bv, Lit.wf, IntKind.min, IntKind.max, IntKind.signed, IntKind.bits]
    omega
  unfold keyOf
  rw [u_four, hform, four_type, hm]
  simp only [Bool.and_true, if_true]
  rw [Program.keyLits]
  rotate_right
  · exact u_four
  simp only [fourV, Value.cells, four_cells, byte_cells]
  simp [List.range, List.range.loop, hl, List.mapM_cons]
end Go.Proofs.YtjelehcnpocnoaaGreatDoor
/- Layer 3, press: the finder's walks. -/
namespace Go.Proofs.YtjelehcnpocnoaaGreatDoor
set_option linter.unusedSimpArgs false
set_option linter.unusedVariables false
set_option linter.unnecessarySimpa false
open Go.RowKit
set_option maxRecDepth 100000
set_option maxHeartbeats 4000000

/-- Bytes that are alike from two places on. -/
def Alike (b : Bs) (k i n : Nat) : Prop := ∀ j, j < n → b[k + j]? = b[i + j]?

theorem alike_calls (F : Nat) (vb : Value) (b : Bs) (k i : Nat) (w : World) (c0 : w.cell? ⟨F, 0, none⟩ = some vb) (hs : Sl w 5 1 vb b.length (b.map bv)) (hk : k < i) (hi : i ≤ b.length) (hb : b.length ≤ 70368744170000) :
    Calls Tryz.prog 224 #[.pointer (some ⟨F, 0, none⟩), .int .i64 k, .int .i64 i] w fun e w' => (∃ n : Nat, e = .returned (.int .i64 n) ∧ n ≤ 259 ∧ i + n ≤ b.length ∧ Alike b k i n) ∧ Fr [] w w' := by
  obtain ⟨a, c, rfl, h2, h3, hc⟩ := hs.open1
  go_enter Tryz.func224, Tryz.ntmps224
  go_wp2_with fail
  go_loopw [7] (fun u wr => ∃ n : Nat, u = .int .i64 n ∧ n ≤ 259 ∧ i + n ≤ b.length ∧ Hid (Alike b k i n) ∧ Fr [] w wr) (fun u _ => 1000 - (intOf u).toNat)
  case atStart => exact ⟨0, rfl, by omega, by omega, fun j hj => absurd hj (by omega), Fr.refl _ _⟩
  case round =>
    obtain ⟨n, rfl, hn, hin, hal, hF⟩ := hrel
    have c0' := hF.cell c0 (by simp)
    have e1 : IntKind.i64.wrap ((i : Int) + n) = (i : Int) + n := by rw [IntKind.wrap_i64]; omega
    have e2 : IntKind.i64.wrap ((k : Int) + n) = (k : Int) + n := by rw [IntKind.wrap_i64]; omega
    by_cases h259 : n < 259
    · have b1 : decide ((n : Int) < 259) = true := by simp; omega
      by_cases hlt : i + n < b.length
      · obtain ⟨g, o, rfl, hcell⟩ := hc (by omega)
        have x1 := hcell (i + n) hlt
        have x2 := hcell (k + n) (by omega)
        rw [List.getElem?_map, List.getElem?_eq_getElem hlt] at x1
        rw [List.getElem?_map, List.getElem?_eq_getElem (show k + n < b.length by omega)] at x2
        generalize hy1 : b[i + n] = y1 at x1
        generalize hy2 : b[k + n] = y2 at x2
        have HY1 := Lib.hid hy1
        have HY2 := Lib.hid hy2
        simp only [Option.map_some, bv] at x1 x2
        have x1' := hF.cell x1 (by simp)
        have x2' := hF.cell x2 (by simp)
        clear hcell hc x1 x2 hy1 hy2 c0
        have t1 : ((i : Int) + n).toNat = i + n := by omega
        have t2 : ((k : Int) + n).toNat = k + n := by omega
        rw [← t1] at x1'
        rw [← t2] at x2'
        clear t1 t2
        have b2 : decide ((i : Int) + n < b.length) = true := by simp; omega
        have i1 : (i : Int) + n < b.length := by omega
        have i2 : (k : Int) + n < b.length := by omega
        have i3 : (0 : Int) ≤ (i : Int) + n := by omega
        have i4 : (0 : Int) ≤ (k : Int) + n := by omega
        by_cases hy : y1 = y2
        · subst hy
          go_wp2_with fail
          go_region_held3 (fun w' => w'.cell? ⟨F, 0, none⟩ = some (.slice (some ⟨g, o, none⟩) b.length c) ∧ w'.cell? ⟨g, o + ((i : Int) + n).toNat, none⟩ = some (.int .u8 (y1.toNat : Int)) ∧ w'.cell? ⟨g, o + ((k : Int) + n).toNat, none⟩ = some (.int .u8 (y1.toNat : Int))) (go_keep) (fail)
          go_wp2_with fail
          refine ⟨⟨n + 1, by simp, by omega, by omega, fun j hj => ?_, hF.drew⟩, by simp [intOf]; omega⟩
          by_cases hjn : j < n
          · exact hal.out j hjn
          · obtain rfl : j = n := by omega
            rw [List.getElem?_eq_getElem hlt, List.getElem?_eq_getElem (show k + j < b.length by omega), HY1.out, HY2.out]
        · have hyn : ¬ ((y2.toNat : Int) = (y1.toNat : Int)) := fun h => hy (UInt8.toNat_inj.1 (by omega)).symm
          have hyb : ((y2.toNat : Int) == (y1.toNat : Int)) = false := by simpa using hyn
          have HYN := Lib.hid hyn
          clear hyn hy
          go_wp2_with fail
          go_region_held3 (fun w' => w'.cell? ⟨F, 0, none⟩ = some (.slice (some ⟨g, o, none⟩) b.length c) ∧ w'.cell? ⟨g, o + ((i : Int) + n).toNat, none⟩ = some (.int .u8 (y1.toNat : Int)) ∧ w'.cell? ⟨g, o + ((k : Int) + n).toNat, none⟩ = some (.int .u8 (y2.toNat : Int))) (go_keep) (fail)
          go_wp2_with fail
          go_ret
          exact ⟨⟨n, rfl, hn, hin, hal.out⟩, hF.drew⟩
      · have i1 : (b.length : Int) ≤ (i : Int) + n := by omega
        have b2 : decide ((i : Int) + n < b.length) = false := by simp; omega
        clear hc
        go_wp2_with fail
        go_quiet (fail)
        go_wp2_with fail
        go_ret
        exact ⟨⟨n, rfl, hn, hin, hal.out⟩, hF.drewN _⟩
    · have i1 : (259 : Int) ≤ n := by omega
      have b1 : decide ((n : Int) < 259) = false := by simp; omega
      clear hc
      go_wp2_with fail
      go_quiet (fail)
      go_wp2_with fail
      go_ret
      exact ⟨⟨n, rfl, hn, hin, hal.out⟩, hF.drewN _⟩
end Go.Proofs.YtjelehcnpocnoaaGreatDoor
