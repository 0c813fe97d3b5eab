/- Joined: Path2. -/
import Derived.Test.YtjelehcnpocnoaaGreatDoorK07
import Derived.Test.YtjelehcnpocnoaaGreatDoorK09
import Derived.Test.YtjelehcnpocnoaaGreatDoorK03
/- Layer 13, paths: Named, Under. -/
namespace Go.Proofs.YtjelehcnpocnoaaGreatDoor
set_option linter.unusedSimpArgs false
set_option linter.unusedVariables false
set_option linter.unnecessarySimpa false
open Go.RowKit
set_option maxRecDepth 100000
set_option maxHeartbeats 4000000

theorem split_value (s : Bs) : (Lib.splitB (⟨#[47]⟩ : ByteArray) 0 (Lib.countB (mk s) ⟨#[47]⟩) (mk s)).map Value.string = (splitP s).map sv ∧ Lib.countB (mk s) ⟨#[47]⟩ + 1 = (splitP s).length := by
  have hc : Lib.countB (mk s) ⟨#[47]⟩ = s.count 47 := Lib.count_one 47 s
  have h := Lib.splitB_data (⟨#[47]⟩ : ByteArray) 0 (s.count 47) (mk s)
  have h2 : (Lib.splitB (⟨#[47]⟩ : ByteArray) 0 (s.count 47) (mk s)).map (fun x => x.data.toList) = splitP s := h.trans (splitK_eq _ s (Nat.le_refl _))
  refine ⟨?_, by rw [hc, splitP_length]⟩
  rw [hc, ← h2, List.map_map]
  refine List.map_congr_left (fun x _ => ?_)
  show Value.string x = sv (x.data.toList)
  unfold sv
  rw [show x.data.toList = bl x from rfl, mk_bl]
theorem Split_calls (s : Bs) (m : Int) (w : World) (hs : s.length ≤ 4000000000) (hm : w.cell? ⟨0, 0, none⟩ = some (.int .i64 m)) :
    Calls Tryz.prog 49 #[.string (mk s), .string ⟨#[47]⟩] w fun e w' => ∃ v, e = .returned v ∧ Sl w' 9 1 v (splitP s).length ((splitP s).map sv) ∧ Fr [] w w' := by
  refine (Tryz.strings_Split (mk s) ⟨#[47]⟩ m w (by rw [mk_size]; omega) hm (by decide)).mono ?_
  obtain ⟨h1, h2⟩ := split_value s
  rw [h1, h2]
  rintro e w' ⟨rfl, rfl⟩
  have hl : (splitP s).length ≤ s.length + 1 := by rw [splitP_length]; have := List.count_le_length (a := (47 : UInt8)) (l := s); omega
  have := Sl.lit (w := w) (e := 9) (size := 1) ((splitP s).map sv).toArray (splitP s).length (by simp) (by omega)
  exact ⟨_, rfl, by simpa using this, (Fr.refl _ _).alloc _⟩
theorem Named_calls (s : Bs) (m : Int) (w : World) (hs : s.length ≤ 4000000000) (hm : w.cell? ⟨0, 0, none⟩ = some (.int .i64 m)) :
    Calls Tryz.prog 26 #[.string (mk s)] w fun e w' => e = .returned (.bool (namedOk s)) ∧ Fr [] w w' := by
  have hz := mk_size s
  have HS := Lib.hid (Split_calls s m w hs hm)
  have hpl : ∀ p ∈ splitP s, p.length ≤ s.length := by
    clear HS hz hs hm
    induction s with
    | nil => simp [splitP]
    | cons c s ih =>
      intro p hp
      unfold splitP at hp
      split at hp
      · rcases List.mem_cons.1 hp with rfl | hp
        · simp
        · have := ih p hp; simp; omega
      · obtain ⟨h, t, e⟩ := splitP_ne s
        rw [e] at hp ih
        rcases List.mem_cons.1 hp with rfl | hp
        · have := ih h (by simp); simp; omega
        · have := ih p (by simp [hp]); simp; omega
  have hlen : (splitP s).length ≤ s.length + 1 := by rw [splitP_length]; have := List.count_le_length (a := (47 : UInt8)) (l := s); omega
  have HNO := Lib.hid (namedOk_iff s)
  generalize hps : splitP s = ps at *
  clear hps
  go_enter Tryz.func26, Tryz.ntmps26
  go_wp2_with fail
  refine HS.out.mono ?_
  rintro e w1 ⟨v, rfl, hsl, hF1⟩
  obtain ⟨a, c, rfl, h3, h4, hc⟩ := hsl.open1
  clear HS
  go_wp2_with fail
  go_loopw [10] (fun i wr => ∃ k : Nat, i = .int .i64 k ∧ k ≤ ps.length ∧ Hid (∀ p ∈ ps.take k, partOk p = true) ∧ wr = w1) (fun i _ => ps.length - (intOf i).toNat)
  case atStart => exact ⟨0, rfl, by omega, by intro p hp; simp at hp, rfl⟩
  case round =>
    obtain ⟨k, rfl, hk, hall, rfl⟩ := hrel
    by_cases hlt : k < ps.length
    · obtain ⟨g, o, rfl, hcell⟩ := hc (by omega)
      have x1 := hcell k hlt
      have hg := List.getElem?_eq_getElem hlt
      have hpm := List.getElem_mem hlt
      rw [List.getElem?_map, hg] at x1
      have htk : ps.take (k + 1) = ps.take k ++ [ps[k]] := by rw [List.take_add_one, hg]; rfl
      have HTK := Lib.hid htk
      have hpl1 := hpl _ hpm
      have HPM := Lib.hid hpm
      generalize ps[k] = p at *
      simp only [Option.map_some, sv] at x1
      have HPt := Lib.hid (Part_calls p wr (by omega))
      have b1 : decide ((k : Int) < ps.length) = true := by simp; omega
      have i1 : (k : Int) < ps.length := by omega
      have e1 : IntKind.i64.wrap ((k : Int) + 1) = (k : Int) + 1 := by rw [IntKind.wrap_i64]; omega
      clear hcell hc hg htk hpm
      by_cases hp : partOk p = true
      · rw [hp] at HPt
        go_wp2_with fail
        refine HPt.out.mono ?_
        rintro e w2 ⟨rfl, rfl⟩
        go_wp2_with fail
        refine ⟨⟨k + 1, by simp, by omega, ?_, by simp⟩, by simp [intOf]; omega⟩
        rw [HTK.out]
        intro q hq
        rcases List.mem_append.1 hq with hq | hq
        · exact hall.out q hq
        · obtain rfl : q = p := by simpa using hq
          exact hp
      · have hp : partOk p = false := by simpa using hp
        rw [hp] at HPt
        have hno : namedOk s = false := by
          rw [Bool.eq_false_iff]
          intro h
          rw [(HNO.out.1 h).1 p HPM.out] at hp
          cases hp
        have HN2 := Lib.hid hno
        clear hp hno
        go_wp2_with fail
        refine HPt.out.mono ?_
        rintro e w2 ⟨rfl, rfl⟩
        go_wp2_with fail
        go_ret
        exact ⟨by rw [HN2.out]; rfl, hF1⟩
    · obtain rfl : k = ps.length := by omega
      rw [List.take_length] at hall
      have b1 : decide (((ps.length : Nat) : Int) < ps.length) = false := by simp
      by_cases h16 : ps.length ≤ 16
      · have b2 : decide ((ps.length : Int) ≤ 16) = true := by simp; omega
        have i2 : (ps.length : Int) ≤ 16 := by omega
        have hno : namedOk s = decide ((s.length : Int) ≤ 150) := by
          rw [Bool.eq_iff_iff, HNO.out]
          simp only [decide_eq_true_eq]
          constructor
          · intro h; omega
          · intro h; exact ⟨hall.out, h16, by omega⟩
        have HN2 := Lib.hid hno
        clear hno hc
        go_wp2_with fail
        go_ret
        exact ⟨by rw [HN2.out]; rfl, hF1⟩
      · have b2 : decide ((ps.length : Int) ≤ 16) = false := by simp; omega
        have i2 : (16 : Int) < ps.length := by omega
        have hno : namedOk s = false := by
          rw [Bool.eq_false_iff]
          intro h
          exact h16 (HNO.out.1 h).2.1
        have HN2 := Lib.hid hno
        clear hno hc
        go_wp2_with fail
        go_ret
        exact ⟨by rw [HN2.out]; rfl, hF1⟩
end Go.Proofs.YtjelehcnpocnoaaGreatDoor
