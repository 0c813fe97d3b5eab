/- Joined: Hex. -/
import Derived.Test.YtjelehcnpocnoaaGreatDoorK04
import Derived.Deep.RegionHeld3
import Derived.Deep.RegionLaw
/- Layer 1, sum: the digits of an id. -/
namespace Go.Proofs.YtjelehcnpocnoaaGreatDoor
set_option linter.unusedSimpArgs false
set_option linter.unusedVariables false
set_option linter.unnecessarySimpa false
open Go.RowKit
set_option maxRecDepth 100000
set_option maxHeartbeats 2000000

def digits : Bs := [48, 49, 50, 51, 52, 53, 54, 55, 56, 57, 97, 98, 99, 100, 101, 102]
def digit (n : Nat) : UInt8 := digits.getD n 0
def hexOf (l : Bs) : Bs := l.flatMap fun c => [digit (c.toNat / 16), digit (c.toNat % 16)]
theorem hexOf_len (l : Bs) : (hexOf l).length = 2 * l.length := by
  induction l with
  | nil => rfl
  | cons a l ih => simp only [hexOf, List.flatMap_cons, List.length_append] at *; simp [ih]; omega
theorem hexOf_succ (l : Bs) (k : Nat) (ch : UInt8) (h : k < l.length) (hc : l.getD k 0 = ch) : hexOf (l.take (k + 1)) = hexOf (l.take k) ++ [digit (ch.toNat / 16), digit (ch.toNat % 16)] := by
  have e : l[k] = ch := by rw [← hc]; simp [List.getD_eq_getElem?_getD, h]
  rw [hexOf, hexOf, List.take_succ_eq_append_getElem h, List.flatMap_append, e]
  simp
theorem run_digit (w : World) (k : Nat) (hk : k < 16) : (Instr.index 9 (.string { data := #[48, 49, 50, 51, 52, 53, 54, 55, 56, 57, 97, 98, 99, 100, 101, 102] }) (.int .u8 (k : Int))).run Tryz.prog w = .ok (.int .u8 ((digit k).toNat : Int)) w := by
  rcases (by omega : k = 0 ∨ k = 1 ∨ k = 2 ∨ k = 3 ∨ k = 4 ∨ k = 5 ∨ k = 6 ∨ k = 7 ∨ k = 8 ∨ k = 9 ∨ k = 10 ∨ k = 11 ∨ k = 12 ∨ k = 13 ∨ k = 14 ∨ k = 15) with rfl | rfl | rfl | rfl | rfl | rfl | rfl | rfl | rfl | rfl | rfl | rfl | rfl | rfl | rfl | rfl <;> rfl

theorem Hex_calls (l : Bs) (w : World) (hl : l.length ≤ 1000) :
    Calls Tryz.prog 118 #[.string (mk l)] w fun e w' => e = .returned (.string (mk (hexOf l))) ∧ Fr [] w w' := by
  go_enter Tryz.func118, Tryz.ntmps118
  obtain ⟨w1, c, hr1, hs1, hF1, hc1, hc2, hcell⟩ := conv_bytes (P := Tryz.prog) (src := 9) (dst := 60) u_string u_byte u_bytes w l (by omega)
  go_wp2_with fail
  clear hr1
  go_loopw [3, 9] (fun u i wr => ∃ (k : Nat), k ≤ l.length ∧ i = .int .i64 k ∧ wr.ownsRow w1.heap.size 5 1 u (hexOf (l.take k)).length ((hexOf (l.take k)).map bv) ∧ Fr [] w1 wr) (fun _ i _ => l.length - (intOf i).toNat)
  case atStart => exact ⟨0, by omega, rfl, World.ownsRow_nil _ _ _ _, Fr.refl _ _⟩
  case round =>
    obtain ⟨k, hk, rfl, ho, hF⟩ := hrel
    by_cases hkl : k < l.length
    · have hck := hF.cell (hcell k hkl) (by simp)
      clear hcell
      generalize hch : l.getD k 0 = ch at hck
      have hm : ch.toNat < 256 := ch.toNat_lt
      have q1 : IntKind.u8.wrap ((ch.toNat : Int) / 16) = ((ch.toNat / 16 : Nat) : Int) := by
        simp [IntKind.wrap_u8]; omega
      have q2 : (ch.toNat : Int).tmod 16 = ((ch.toNat % 16 : Nat) : Int) := by
        rw [Int.tmod_eq_emod_of_nonneg (by omega)]; omega
      have r1 := fun W => run_digit W (ch.toNat / 16) (by omega)
      have r2 := fun W => run_digit W (ch.toNat % 16) (by omega)
      unfold bv at hck
      have HE : Hid (hexOf (l.take (k + 1)) = hexOf (l.take k) ++ [digit (ch.toNat / 16), digit (ch.toNat % 16)]) := by
        exact hexOf_succ l k ch hkl hch
      clear hch
      generalize ch.toNat / 16 = d1 at *
      generalize ch.toNat % 16 = d2 at *
      go_wp2_with fail
      have hl2 : (hexOf (l.take k)).length ≤ 2000 := by rw [hexOf_len]; simp; omega
      go_region_law (refine step_app w1.heap.size rfl _ _ 60 5 (.int .u8 0) 1 1 rfl u_bytes i_byte rfl (by decide) u3 _ _ rfl (own_fr ho ((Fr.refl [] _).drew.alloc _) (off_nil _ _)) 2 [bv (digit d1), bv (digit d2)] (Sl.lit (w := wr.drew) #[bv (digit d1), bv (digit d2)] 2 rfl (by decide)) (by intro u hu; simp at hu; rcases hu with rfl | rfl <;> rfl) (by omega) (by omega) (by have := hF.size; simp only [World.size_alloc, World.drew]; omega) ?_; intro v2 w2 ho2 hg2 _)
      all_goals
        have hF2 : Fr [] w1 w2 := ((hF.alloc (.cells #[.int .u8 ((digit d1).toNat : Int), .int .u8 ((digit d2).toNat : Int)] 5)).drew).grown hg2 (fun j hj => .inr (own_block ho j hj))
        clear hg2 r1 r2 q1 q2
        go_wp2_with fail
        go_roundw
        case rel => exact ⟨k + 1, by omega, by simp, by rw [HE.out]; simpa using ho2, hF2⟩
        case measure => simp [intOf]; omega
    · obtain rfl : k = l.length := by omega
      have hcs := conv_string (P := Tryz.prog) (src := 60) (dst := 9) u_bytes u_byte u_string (Sl.of_own ho)
      clear hcell
      go_wp2_with fail
      refine bodyPost_ret (v := .string (mk _)) (by simp [results, Tryz.results118, go_sem]; rfl) rfl ⟨?_, hF1.trans0 hF⟩
      rfl
end Go.Proofs.YtjelehcnpocnoaaGreatDoor
