/- Joined: Types Code Code2 Sum SumT Sum2 Sum3. -/
import Derived.Test.YtjelehcnpocnoaaGreatDoorK01
import Derived.Test.YtjelehcnpocnoaaGreatDoorProg
import Derived.Handy
import Derived.StillTailTactics
/- Closed facts on the types of the program. -/
namespace Go.Proofs.YtjelehcnpocnoaaGreatDoor
set_option linter.unusedSimpArgs false
set_option linter.unusedVariables false
set_option linter.unnecessarySimpa false
open Go.RowKit
set_option maxRecDepth 100000
theorem u_bytes : Tryz.prog.underlying 60 = some (.slice 5) := by kernel_rfl
theorem u_byte : Tryz.prog.underlying 5 = some (.int .u8) := by kernel_rfl
theorem u_string : Tryz.prog.underlying 9 = some .string := by kernel_rfl
theorem u_strings : Tryz.prog.underlying 62 = some (.slice 9) := by kernel_rfl
theorem u_int : Tryz.prog.underlying 3 = some (.int .i64) := by kernel_rfl
theorem i_byte : (Tryz.prog.info? 5).map (fun i => (i.zero, i.size, i.bytes)) = some (some (.int .u8 0), 1, 1) := by kernel_rfl
theorem i_string : (Tryz.prog.info? 9).map (fun i => (i.zero, i.size, i.bytes)) = some (some (.string ByteArray.empty), 1, 16) := by kernel_rfl
end Go.Proofs.YtjelehcnpocnoaaGreatDoor
/- Layer 2, code: the walks. -/
namespace Go.Proofs.YtjelehcnpocnoaaGreatDoor
set_option linter.unusedSimpArgs false
set_option linter.unusedVariables false
set_option linter.unnecessarySimpa false
open Go.RowKit
set_option maxRecDepth 100000
set_option maxHeartbeats 400000

theorem strCells_bl (s : ByteArray) : Lib.strCells s = (bl s).map bv := rfl

/-- slices.Clone of bytes. -/
theorem clone_bytes (v : Value) (l : Bs) (w : World) (h : Sl w 5 1 v l.length (l.map bv)) (hl : l.length ≤ 140737488355328) :
    Calls Tryz.prog 61 #[v] w fun e w' => ∃ v', e = .returned v' ∧ w'.ownsRow w.heap.size 5 1 v' l.length (l.map bv) ∧ Fr [] w w' := by
  have hq : ∀ (w : World) a n c, (binOp .eql 60 (.slice a n c) (.slice none 0 0)).run Tryz.prog w = .ok (.bool a.isNone) w := fun w a n c => Lib.run_eql_slice_nil w _ _ _ _ _ _ _ u_bytes
  obtain ⟨hy, a, c, rfl, h2, h3, h4, h5⟩ := id h
  rcases a with _ | ad
  · obtain rfl := h4 rfl
    obtain rfl : l = [] := List.eq_nil_of_length_eq_zero (by omega)
    go_enter Tryz.func61, Tryz.ntmps61
    go_wp2_with fail
    go_ret
    exact ⟨_, rfl, World.ownsRow_nil _ _ _ _, Fr.refl _ _⟩
  · go_enter Tryz.func61, Tryz.ntmps61
    go_wp2_with (at_builtin; refine wpl_app w.heap.size rfl _ _ 60 5 (.int .u8 0) 1 1 rfl u_bytes i_byte rfl (by decide) _ 0 [] rfl (World.ownsRow_lit w #[] 0 (Nat.le_refl _) (Nat.zero_le _) rfl) _ _ (h.fr0 ((Fr.refl _ _).alloc _)) (bv_one l) (by omega) (by omega) (by simp) ?_)
    intro v' w' ho hg _
    go_wp2
    go_ret
    exact ⟨_, rfl, by simpa using ho, ((Fr.refl _ w).alloc _).grown hg (by simp [Value.ownBlock])⟩

theorem laid_bytes (v x : Value) (l m : Bs) (w : World) (h : Sl w 5 1 v l.length (l.map bv)) (hx : Sl w 5 1 x m.length (m.map bv)) (hl : l.length + m.length ≤ 140737488355328) :
    Calls Tryz.prog 221 #[v, x] w fun e w' => ∃ v', e = .returned v' ∧ w'.ownsRow w.heap.size 5 1 v' (l ++ m).length ((l ++ m).map bv) ∧ Fr [] w w' := by
  go_enter Tryz.func221, Tryz.ntmps221
  go_wp2_with fail
  refine (clone_bytes v l w h (by omega)).mono ?_
  rintro e w1 ⟨v1, rfl, ho, hF⟩
  go_wp2_with (at_builtin; refine wpl_app w.heap.size rfl _ _ 60 5 (.int .u8 0) 1 1 rfl u_bytes i_byte rfl (by decide) _ _ _ rfl ho _ _ (hx.fr0 hF) (bv_one m) (by omega) (by omega) hF.size ?_)
  intro v2 w2 ho2 hg _
  go_wp2
  go_ret
  exact ⟨_, rfl, by simpa using ho2, hF.grown hg (fun k hk => .inr (own_block ho k hk))⟩

theorem laid_string (v : Value) (s : ByteArray) (l : Bs) (w : World) (h : Sl w 5 1 v l.length (l.map bv)) (hl : l.length + s.size ≤ 140737488355328) :
    Calls Tryz.prog 287 #[v, .string s] w fun e w' => ∃ v', e = .returned v' ∧ w'.ownsRow w.heap.size 5 1 v' (l ++ bl s).length ((l ++ bl s).map bv) ∧ Fr [] w w' := by
  obtain ⟨i0, hi, hz0, hz1, hz2⟩ := info_parts i_byte
  go_enter Tryz.func287, Tryz.ntmps287
  go_wp2_with fail
  refine (clone_bytes v l w h (by omega)).mono ?_
  rintro e w1 ⟨v1, rfl, ho, hF⟩
  go_wp2_with (at_builtin; refine Lib.wpList_append_own_string _ rfl _ _ _ _ rfl w.heap.size 5 i0 u_bytes u_string hi hz0 hz1 hz2 _ _ _ rfl ho s rfl (by simp only [maxLen]; omega) (by omega) hF.size ?_)
  intro v2 w2 ho2 hg _
  go_wp2
  go_ret
  exact ⟨_, rfl, by simpa [bl_length, strCells_bl] using ho2, hF.grown hg (fun k hk => .inr (own_block ho k hk))⟩

theorem or128_all : ∀ r, r < 256 → (bits BinOp.or IntKind.u8 (r : Nat) 128) = ((r % 128 + 128 : Nat) : Int) := by decide +kernel
theorem or128 (k : Nat) : Value.int .u8 (bits BinOp.or IntKind.u8 ((k : Int) % 256) 128) = bv (UInt8.ofNat (k % 128 + 128)) := by
  have h := or128_all (k % 256) (by omega)
  rw [bv, toNat_ofNat_lt (by omega)]
  have e : ((k : Int) % 256) = ((k % 256 : Nat) : Int) := by omega
  rw [e, h]
  congr 2
  omega
theorem one_cell (x : Value) (h : x.oneCell' = true) : ∀ u ∈ #[x].toList, u.oneCell' = true := by
  intro u hu
  obtain rfl : u = x := by simpa using hu
  exact h

theorem PutNum_calls (v : Value) (l : Bs) (n : Int) (w : World) (h : Sl w 5 1 v l.length (l.map bv)) (hl : l.length ≤ 70368744177664) (hn1 : 0 ≤ n) (hn2 : n ≤ 4611686018427387903) :
    Calls Tryz.prog 157 #[v, .int .i64 n] w fun e w' => ∃ v', e = .returned v' ∧ w'.ownsRow w.heap.size 5 1 v' (l ++ putNum n.toNat).length ((l ++ putNum n.toNat).map bv) ∧ Fr [] w w' := by
  obtain ⟨m, rfl⟩ := Int.eq_ofNat_of_zero_le hn1
  rw [Int.toNat_natCast]
  have hla : ∀ (k : Nat) (acc : Bs), acc ++ putNum k = putNum m → acc.length + 1 ≤ 140737488355328 := by
    intro k acc hp
    have h1 := putNum_len9 (n := m) (by unfold mostNum; omega)
    have h2 := putNum_pos k
    rw [← hp, List.length_append] at h1
    omega
  go_enter Tryz.func157, Tryz.ntmps157
  go_wp2_with fail
  go_loopw [1, 5] (fun n v wr => ∃ (k : Nat) (acc : Bs), n = .int .i64 k ∧ k ≤ 4611686018427387903 ∧ wr.ownsRow w.heap.size 5 1 v acc.length (acc.map bv) ∧ acc ++ putNum k = putNum m ∧ Fr [] w wr) (fun n _ _ => (intOf n).toNat)
  case atStart => exact ⟨m, [], rfl, by omega, World.ownsRow_nil _ _ _ _, rfl, Fr.refl _ _⟩
  case round =>
    obtain ⟨k, acc, rfl, hk, ho, hp, hF⟩ := hrel
    by_cases hlt : 128 ≤ k
    · go_wp2_with (at_builtin; refine wpl_app w.heap.size rfl _ _ 60 5 (.int .u8 0) 1 1 rfl u_bytes i_byte rfl (by decide) _ _ _ rfl (ho.alloc _) _ _ (Sl.lit #[_] 1 rfl (by decide)) (one_cell _ rfl) (hla k acc hp) (by simpa using hla k acc hp) (by have := hF.size; simp; omega) ?_)
      intro v2 w2 ho2 hg _
      go_wp2
      go_roundw
      case rel => exact ⟨k / 128, acc ++ [UInt8.ofNat (k % 128 + 128)], by go_num, by omega, by simpa [or128 k] using ho2, by rw [← hp, putNum_ge hlt]; simp, (hF.alloc _).grown hg (fun j hj => .inr (own_block ho j hj))⟩
      case measure => simp [intOf]; omega
    · go_wp2_with (at_builtin; refine wpl_app w.heap.size rfl _ _ 60 5 (.int .u8 0) 1 1 rfl u_bytes i_byte rfl (by decide) _ _ _ rfl (ho.alloc _) _ _ (Sl.lit #[_] 1 rfl (by decide)) (one_cell _ rfl) (hla k acc hp) (by simpa using hla k acc hp) (by have := hF.size; simp; omega) ?_)
      intro v2 w2 ho2 hg _
      have hF2 := (hF.alloc (.cells #[.int .u8 (k : Int)] 5)).grown hg (fun j hj => .inr (own_block ho j hj))
      have he : (acc.map bv ++ #[Value.int .u8 (k : Int)].toList) = (putNum m).map bv := by
        rw [← hp, putNum_lt (by omega)]; simp [bv, toNat_ofNat_lt (show k < 256 by omega)]
      have hlen : acc.length + 1 = (putNum m).length := by rw [← hp, putNum_lt (by omega)]; simp
      rw [he, hlen] at ho2
      clear he hlen
      have hm9 := putNum_len9 (n := m) (by unfold mostNum; omega)
      go_wp2_with fail
      refine (laid_bytes v _ l (putNum m) _ (h.fr0 hF2) (Sl.of_own ho2) (by omega)).mono ?_
      rintro e w3 ⟨v3, rfl, ho3, hF3⟩
      go_wp2
      go_ret
      exact ⟨_, rfl, own_base ho3 hF2.size, hF2.trans0 hF3⟩
end Go.Proofs.YtjelehcnpocnoaaGreatDoor
/- Layer 2, code: the walks of what takes. -/
namespace Go.Proofs.YtjelehcnpocnoaaGreatDoor
set_option linter.unusedSimpArgs false
set_option linter.unusedVariables false
set_option linter.unnecessarySimpa false
open Go.RowKit
set_option maxRecDepth 100000
set_option maxHeartbeats 400000

theorem PutText_calls (v : Value) (s : ByteArray) (l : Bs) (w : World) (h : Sl w 5 1 v l.length (l.map bv)) (hl : l.length ≤ 35184372088832) (hs : s.size ≤ 35184372088832) :
    Calls Tryz.prog 286 #[v, .string s] w fun e w' => ∃ v', e = .returned v' ∧ w'.ownsRow w.heap.size 5 1 v' (l ++ putText (bl s)).length ((l ++ putText (bl s)).map bv) ∧ Fr [] w w' := by
  have h9 := putNum_len9 (n := s.size) (by unfold mostNum; omega)
  go_enter Tryz.func286, Tryz.ntmps286
  go_wp2_with fail
  refine (PutNum_calls v l s.size w h (by omega) (by omega) (by omega)).mono ?_
  rintro e w1 ⟨v1, rfl, ho, hF⟩
  rw [Int.toNat_natCast] at ho
  go_wp2_with fail
  refine (laid_string v1 s _ w1 (Sl.of_own ho) (by simp; omega)).mono ?_
  rintro e w2 ⟨v2, rfl, ho2, hF2⟩
  go_wp2_with fail
  go_ret
  refine ⟨_, rfl, own_base ?_ hF.size, hF.trans0 hF2⟩
  simpa [putText, bl_length] using ho2

/-- What TakeNum comes to. -/
def TakeNumPost (l : Bs) (w : World) (e : Ending) (w' : World) : Prop := Fr [] w w' ∧
  ((∃ n r v', takeNum l = some (n, r) ∧ e = .returned (.tuple #[.int .i64 (n : Nat), v', .int .i64 0]) ∧ w'.ownsRow w.heap.size 5 1 v' r.length (r.map bv)) ∨
   (takeNum l = none ∧ e = .returned (.tuple #[.int .i64 0, .slice none 0 0, .int .i64 2])))

theorem and127_all : ∀ r, r < 256 → (bits BinOp.and IntKind.u8 (r : Nat) 127) = ((r % 128 : Nat) : Int) := by decide +kernel
theorem group_or (acc k : Nat) (c : UInt8) (hacc : acc < 128 ^ k) (hk : k ≤ 8) :
    bits BinOp.or IntKind.u64 (acc : Int) (IntKind.u64.wrap (IntKind.u64.wrap (bits BinOp.and IntKind.u8 (c.toNat : Int) 127) * 2 ^ (7 * k))) = ((acc + c.toNat % 128 * 128 ^ k : Nat) : Int) := by
  rw [and127_all c.toNat c.toNat_lt]
  have hp : (2 : Int) ^ (7 * k) = ((128 ^ k : Nat) : Int) := by rw [Int.natCast_pow, Int.pow_mul]; rfl
  have hk8 : 128 ^ k ≤ 128 ^ 8 := Nat.pow_le_pow_right (by decide) hk
  have hr : c.toNat % 128 < 128 := Nat.mod_lt _ (by decide)
  generalize c.toNat % 128 = x at hr
  have hx : x * 128 ^ k < 18446744073709551616 := by
    have := Nat.mul_le_mul (Nat.le_of_lt hr) hk8
    omega
  rw [IntKind.wrap_u64, IntKind.wrap_u64, hp]
  have e1 : ((x : Int) % 18446744073709551616) = (x : Int) := by omega
  rw [e1, ← Int.natCast_mul]
  have e2 : (((x * 128 ^ k : Nat) : Int) % 18446744073709551616) = ((x * 128 ^ k : Nat) : Int) := by omega
  rw [e2, bits_or_u64_nat _ _ (by omega) hx]
  congr 1
  have h7 : 128 ^ k = 2 ^ (7 * k) := by rw [Nat.pow_mul]
  rw [h7] at hacc ⊢
  have := Nat.shiftLeft_add_eq_or_of_lt hacc x
  rw [Nat.shiftLeft_eq] at this
  rw [Nat.or_comm, ← this, Nat.add_comm]

theorem TakeNum_calls (v : Value) (l : Bs) (w : World) (h : Sl w 5 1 v l.length (l.map bv)) (hl : l.length ≤ 70368744177664) :
    Calls Tryz.prog 116 #[v] w (TakeNumPost l w) := by
  obtain ⟨a, c, rfl, h2, h3, hc⟩ := h.open1
  go_enter Tryz.func116, Tryz.ntmps116
  go_wp2_with fail
  go_step3
  go_wp2_with fail
  go_step3
  go_wp2_with fail
  go_loop [5, 6, 11] (fun n u i => ∃ (k acc : Nat), i = .int .i64 k ∧ k ≤ l.length ∧ k ≤ 9 ∧ n = .int .u64 acc ∧ acc < 128 ^ k ∧ u = .int .i64 0 ∧ takeGo k acc (l.drop k) = takeNum l) (fun _ _ i => l.length - (intOf i).toNat)
  case atStart => exact ⟨0, 0, rfl, by omega, by omega, rfl, by simp, rfl, rfl⟩
  case round =>
    obtain ⟨k, acc, rfl, hk, hk9, rfl, hacc, rfl, ht⟩ := hrel
    by_cases hlt : k < l.length
    · obtain ⟨b, o, rfl, hcell⟩ := hc (by omega)
      have hck := hcell k hlt
      rw [List.getElem?_map, List.getElem?_eq_getElem hlt, Option.map_some] at hck
      rw [List.drop_eq_getElem_cons hlt, takeGo] at ht
      generalize hcc : l[k] = cc at hck ht
      unfold bv at hck
      have hcl := cc.toNat_lt
      clear hcell hc hcc
      obtain ⟨vt, hvt, hrun⟩ := cut_from u_bytes i_byte (by decide) h (k + 1) (by omega) ((k : Int) + 1) (by omega)
      by_cases h9 : k = 9
      · rw [if_pos h9] at ht
        have HT := Lib.hid ht
        clear ht
        subst h9
        clear hrun hvt
        go_wp2_with fail
        go_ret3
        exact ⟨Fr.refl _ _, .inr ⟨HT.out.symm, rfl⟩⟩
      · rw [if_neg h9] at ht
        have h9' : ((k : Int) == 9) = false := by simp; omega
        have hbits := group_or acc k cc hacc (by omega)
        by_cases hsm : cc.toNat < 128
        · rw [if_pos hsm] at ht
          by_cases hz : cc.toNat = 0 ∧ 0 < k
          · obtain ⟨hz1, hz2⟩ := hz
            rw [if_pos ⟨hz1, hz2⟩] at ht
            have HT := Lib.hid ht
            clear ht hrun hvt hbits
            go_wp2_with fail
            go_ret3
            exact ⟨Fr.refl _ _, .inr ⟨HT.out.symm, rfl⟩⟩
          · rw [if_neg hz] at ht
            have hvt' : Sl w 5 1 vt (l.drop (k + 1)).length ((l.drop (k + 1)).map bv) := by simpa [List.map_drop] using hvt
            have hlen : (l.drop (k + 1)).length ≤ 140737488355328 := by rw [List.length_drop]; omega
            clear hvt
            by_cases hc0 : cc.toNat = 0
            · obtain rfl : k = 0 := by omega
              obtain rfl : acc = 0 := by simpa using hacc
              rw [hc0] at ht hck hbits
              have hb0 : bits BinOp.or IntKind.u64 0 (IntKind.u64.wrap (IntKind.u64.wrap (bits BinOp.and IntKind.u8 0 127))) = 0 := by decide +kernel
              have HT := Lib.hid ht
              have hck0 : w.cell? ⟨b, o, none⟩ = some (.int .u8 0) := hck
              have hrun0 : ∀ W : World, (Instr.slice 60 (.slice (some ⟨b, o, none⟩) l.length c) (some (.int .i64 1)) none none).run Tryz.prog W = .ok vt W := hrun
              clear ht hbits hz hc0 hsm hck hrun
              go_wp2_with fail
              refine (clone_bytes _ _ _ hvt' hlen).mono ?_
              rintro e w1 ⟨v1, rfl, ho, hF⟩
              go_wp2_with fail
              go_ret3
              refine ⟨hF, .inl ⟨0, l.drop 1, _, ?_, rfl, ho⟩⟩
              have := HT.out
              simpa [mostNum] using this.symm
            · have hmod : cc.toNat % 128 = cc.toNat := Nat.mod_eq_of_lt hsm
              rw [hmod] at hbits
              have hcb : ((cc.toNat : Int) == 0) = false := by simp; omega
              clear hz hmod
              by_cases hm : acc + cc.toNat * 128 ^ k > mostNum
              · rw [if_pos hm] at ht
                have HT := Lib.hid ht
                have hm' : ((4611686018427387903 : Int) < ((acc + cc.toNat * 128 ^ k : Nat) : Int)) := by unfold mostNum at hm; omega
                generalize acc + cc.toNat * 128 ^ k = q at *
                clear ht hrun hm hvt' hlen
                go_wp2_with fail
                go_ret3
                exact ⟨Fr.refl _ _, .inr ⟨HT.out.symm, rfl⟩⟩
              · rw [if_neg hm] at ht
                have HT := Lib.hid ht
                have hm' : (((acc + cc.toNat * 128 ^ k : Nat) : Int) ≤ 4611686018427387903) := by unfold mostNum at hm; omega
                generalize acc + cc.toNat * 128 ^ k = q at *
                have hk1 : ((k : Int) + 1 == 0) = false := by simp; omega
                have hq1 : decide ((4611686018427387903 : Int) < (q : Int)) = false := by simpa using hm'
                clear ht hm
                go_wp2_with fail
                refine (clone_bytes _ _ _ hvt' hlen).mono ?_
                rintro e w1 ⟨v1, rfl, ho, hF⟩
                go_wp2_with fail
                go_ret3
                exact ⟨hF, .inl ⟨_, _, _, HT.out.symm, rfl, ho⟩⟩
        · rw [if_neg hsm] at ht
          have HT := Lib.hid ht
          have hmod : cc.toNat % 128 = cc.toNat - 128 := by omega
          rw [hmod] at hbits
          have hbd : acc + (cc.toNat - 128) * 128 ^ k < 128 ^ (k + 1) := by
            have h1 : (cc.toNat - 128 + 1) * 128 ^ k ≤ 128 * 128 ^ k := Nat.mul_le_mul_right _ (by omega)
            rw [Nat.pow_succ, Nat.mul_comm (128 ^ k) 128]
            rw [Nat.add_mul] at h1
            omega
          generalize hq : acc + (cc.toNat - 128) * 128 ^ k = q at *
          clear ht hrun hvt hmod hq
          go_wp2_with fail
          go_round
          case rel => exact ⟨k + 1, q, by go_num, by omega, by omega, rfl, hbd, rfl, HT.out⟩
          case measure => simp [intOf]; omega
    · have HT := Lib.hid ht
      obtain rfl : k = l.length := by omega
      clear ht hc
      go_wp2_with fail
      go_ret3
      refine ⟨Fr.refl _ _, .inr ⟨?_, rfl⟩⟩
      rw [← HT.out, List.drop_length, takeGo]

/-- What TakeText comes to. -/
def TakeTextPost (l : Bs) (most : Int) (w : World) (e : Ending) (w' : World) : Prop := Fr [] w w' ∧
  ((∃ s r v', takeText l most = some (s, r) ∧ e = .returned (.tuple #[.string (mk s), v', .int .i64 0]) ∧ Sl w' 5 1 v' r.length (r.map bv)) ∨
   (takeText l most = none ∧ e = .returned (.tuple #[.string ByteArray.empty, .slice none 0 0, .int .i64 2])))

theorem TakeText_calls (v : Value) (l : Bs) (most : Int) (w : World) (h : Sl w 5 1 v l.length (l.map bv)) (hl : l.length ≤ 70368744177664) :
    Calls Tryz.prog 183 #[v, .int .i64 most] w (TakeTextPost l most w) := by
  go_enter Tryz.func183, Tryz.ntmps183
  go_wp2_with fail
  refine (TakeNum_calls v l w h hl).mono ?_
  rintro e w1 ⟨hF, ⟨n, r, v1, ht, rfl, ho⟩ | ⟨ht, rfl⟩⟩
  · have hs1 := Sl.of_own ho
    have hnb := (takeNum_back ht).2
    have hr1 := takeNum_len ht
    unfold mostNum at hnb
    obtain ⟨a1, c1, rfl, hc1, hc2⟩ := hs1.shape
    have HT := Lib.hid ht
    clear ht
    by_cases hc : (n : Int) ≤ most ∧ n ≤ r.length
    · obtain ⟨hc1, hc2⟩ := hc
      obtain ⟨vt, hvt, hr⟩ := cut_to u_bytes i_byte (by decide) hs1 n hc2 n rfl
      obtain ⟨vf, hvf, hf⟩ := cut_from u_bytes i_byte (by decide) hs1 n hc2 n rfl
      have hvt' : Sl w1 5 1 vt (r.take n).length ((r.take n).map bv) := by
        have e : (r.take n).length = n := by simp; omega
        rw [e, List.map_take]; simpa using hvt
      have hconv : ∀ k, (convert 60 9 vt).run Tryz.prog (w1.drewN k) = .ok (.string (mk (r.take n))) (w1.drewN k) := fun k => conv_string u_bytes u_byte u_string (hvt'.fr0 ((Fr.refl _ _).drewN k))
      go_wp2_with fail
      go_quiet (fail)
      go_wp2_with fail
      go_ret3
      refine ⟨hF.drewN _, .inl ⟨r.take n, r.drop n, _, ?_, rfl, ?_⟩⟩
      · unfold takeText; rw [HT.out]; simp [hc1, hc2]
      · rw [List.map_drop, List.length_drop]; simpa using hvf.fr0 ((Fr.refl _ _).drewN nq)
    · have hno : takeText l most = none := by unfold takeText; rw [HT.out]; simp only [if_neg hc]
      have HN := Lib.hid hno
      clear hno
      by_cases hm : (n : Int) ≤ most
      · have hc' : r.length < n := by omega
        clear hc
        go_wp2_with fail
        go_ret3
        exact ⟨hF, .inr ⟨HN.out, rfl⟩⟩
      · clear hc
        go_wp2_with fail
        go_ret3
        exact ⟨hF, .inr ⟨HN.out, rfl⟩⟩
  · have HT := Lib.hid ht
    clear ht
    go_wp2_with fail
    go_ret3
    exact ⟨hF, .inr ⟨by unfold takeText; rw [HT.out], rfl⟩⟩
end Go.Proofs.YtjelehcnpocnoaaGreatDoor
/- Layer 1, sum: the small walks. -/
namespace Go.Proofs.YtjelehcnpocnoaaGreatDoor
set_option linter.unusedSimpArgs false
set_option linter.unusedVariables false
set_option linter.unnecessarySimpa false
open Go.RowKit
set_option maxRecDepth 100000
set_option maxHeartbeats 400000

def rotl (x n : Nat) : Nat := (x * 2 ^ n % 4294967296) ||| (x / 2 ^ (32 - n))
/-- The number that bytes are, the least first. -/
def numOf : Bs → Nat
  | [] => 0
  | c :: r => c.toNat + 256 * numOf r
/-- A number as so many bytes, the least first. -/
def leBytes : Nat → Nat → Bs
  | 0, _ => []
  | n + 1, x => UInt8.ofNat (x % 256) :: leBytes n (x / 256)

theorem xor_u32 (a b : Nat) (ha : a < 4294967296) (hb : b < 4294967296) : bits .xor .u32 (a : Int) (b : Int) = ((a ^^^ b : Nat) : Int) := by
  have hx : a ^^^ b < 2 ^ 32 := Nat.xor_lt_two_pow (by omega) (by omega)
  have h1 : (BitVec.ofInt 32 (a : Int)).toNat = a := by rw [BitVec.ofInt_natCast, BitVec.toNat_ofNat]; exact Nat.mod_eq_of_lt (by omega)
  have h2 : (BitVec.ofInt 32 (b : Int)).toNat = b := by rw [BitVec.ofInt_natCast, BitVec.toNat_ofNat]; exact Nat.mod_eq_of_lt (by omega)
  show IntKind.u32.wrap ((BitVec.ofInt 32 (a : Int) ^^^ BitVec.ofInt 32 (b : Int)).toNat : Int) = _
  rw [BitVec.toNat_xor, h1, h2, IntKind.wrap_u32]
  omega
theorem or_u32 (a b : Nat) (ha : a < 4294967296) (hb : b < 4294967296) : bits .or .u32 (a : Int) (b : Int) = ((a ||| b : Nat) : Int) := by
  have hx : a ||| b < 2 ^ 32 := Nat.or_lt_two_pow (by omega) (by omega)
  have h1 : (BitVec.ofInt 32 (a : Int)).toNat = a := by rw [BitVec.ofInt_natCast, BitVec.toNat_ofNat]; exact Nat.mod_eq_of_lt (by omega)
  have h2 : (BitVec.ofInt 32 (b : Int)).toNat = b := by rw [BitVec.ofInt_natCast, BitVec.toNat_ofNat]; exact Nat.mod_eq_of_lt (by omega)
  show IntKind.u32.wrap ((BitVec.ofInt 32 (a : Int) ||| BitVec.ofInt 32 (b : Int)).toNat : Int) = _
  rw [BitVec.toNat_or, h1, h2, IntKind.wrap_u32]
  omega
theorem rotl_lt (x n : Nat) (hx : x < 4294967296) : rotl x n < 4294967296 := by
  have h1 : x * 2 ^ n % 4294967296 < 4294967296 := Nat.mod_lt _ (by decide)
  have h2 : x / 2 ^ (32 - n) < 4294967296 := Nat.lt_of_le_of_lt (Nat.div_le_self _ _) hx
  exact Nat.or_lt_two_pow (n := 32) h1 h2
theorem rotl_bits (x n : Nat) (hx : x < 4294967296) : bits BinOp.or IntKind.u32 ((x : Int) * 2 ^ n % 4294967296) ((x : Int) / 2 ^ (32 - n)) = ((rotl x n : Nat) : Int) := by
  have e1 : ((x : Int) * 2 ^ n % 4294967296) = ((x * 2 ^ n % 4294967296 : Nat) : Int) := by
    rw [Int.natCast_emod, Int.natCast_mul, Int.natCast_pow]; rfl
  have e2 : ((x : Int) / 2 ^ (32 - n)) = ((x / 2 ^ (32 - n) : Nat) : Int) := by
    rw [Int.natCast_ediv, Int.natCast_pow]; rfl
  rw [e1, e2, or_u32 _ _ (Nat.mod_lt _ (by decide)) (Nat.lt_of_le_of_lt (Nat.div_le_self _ _) hx)]
  rfl

theorem rotl_calls (x n : Nat) (hx : x < 4294967296) (hn : n < 32) (w : World) :
    Calls Tryz.prog 206 #[.int .u32 x, .int .i64 n] w fun e w' => e = .returned (.int .u32 (rotl x n : Nat)) ∧ w = w' := by
  have han : bits BinOp.and IntKind.u64 (n : Int) 31 = (n : Int) := by
    have := bits_and_u64_nat n 31 (by omega) (by omega)
    have e : n &&& 31 = n := by
      have := Nat.and_two_pow_sub_one_eq_mod n 5
      simpa [Nat.mod_eq_of_lt hn] using this
    rw [e] at this
    exact this
  have hb := rotl_bits x n hx
  go_enter Tryz.func206, Tryz.ntmps206
  go_wp2_with fail
  go_ret
  exact ⟨rfl, rfl⟩

theorem numOf_lt : ∀ l : Bs, numOf l < 256 ^ l.length := by
  intro l
  induction l with
  | nil => simp [numOf]
  | cons c r ih =>
    have := c.toNat_lt
    simp only [numOf, List.length_cons, Nat.pow_succ]
    omega
theorem numOf_snoc : ∀ (l : Bs) (c : UInt8), numOf (l ++ [c]) = numOf l + c.toNat * 256 ^ l.length := by
  intro l c
  induction l with
  | nil => simp [numOf]
  | cons d r ih =>
    simp only [List.cons_append, numOf, ih, List.length_cons, Nat.pow_succ, Nat.mul_add, Nat.add_assoc]
    congr 2
    rw [Nat.mul_left_comm, Nat.mul_comm 256]
theorem byte_or (acc k : Nat) (c : UInt8) (hacc : acc < 256 ^ k) (hk : k ≤ 7) :
    bits BinOp.or IntKind.u64 (acc : Int) (IntKind.u64.wrap ((c.toNat : Int) * 2 ^ (8 * k))) = ((acc + c.toNat * 256 ^ k : Nat) : Int) := by
  have hp : (2 : Int) ^ (8 * k) = ((256 ^ k : Nat) : Int) := by rw [Int.natCast_pow, Int.pow_mul]; rfl
  have hk8 : 256 ^ k ≤ 256 ^ 7 := Nat.pow_le_pow_right (by decide) hk
  have hr : c.toNat < 256 := c.toNat_lt
  generalize c.toNat = x at hr
  have hx : x * 256 ^ k < 18446744073709551616 := by
    have := Nat.mul_le_mul (Nat.le_of_lt_succ hr) hk8
    omega
  rw [IntKind.wrap_u64, hp, ← Int.natCast_mul]
  have e2 : (((x * 256 ^ k : Nat) : Int) % 18446744073709551616) = ((x * 256 ^ k : Nat) : Int) := by omega
  rw [e2, bits_or_u64_nat _ _ (by omega) hx]
  congr 1
  have h7 : 256 ^ k = 2 ^ (8 * k) := by rw [Nat.pow_mul]
  rw [h7] at hacc ⊢
  have := Nat.shiftLeft_add_eq_or_of_lt hacc x
  rw [Nat.shiftLeft_eq] at this
  rw [Nat.or_comm, ← this, Nat.add_comm]

theorem number_calls (v : Value) (l : Bs) (w : World) (n : Nat) (h : Sl w 5 1 v l.length (l.map bv)) (hn : n ≤ l.length) (hn7 : n ≤ 7) :
    Calls Tryz.prog 205 #[v, .int .i64 n] w fun e w' => e = .returned (.int .u64 (numOf (l.take n) : Nat)) ∧ w = w' := by
  obtain ⟨a, c, rfl, h2, h3, hc⟩ := h.open1
  go_enter Tryz.func205, Tryz.ntmps205
  go_wp2_with fail
  go_loop [5, 8] (fun x i => ∃ k : Nat, k ≤ n ∧ i = .int .i64 k ∧ x = .int .u64 (numOf (l.take k) : Nat)) (fun _ i => n - (intOf i).toNat)
  case atStart => exact ⟨0, Nat.zero_le _, rfl, rfl⟩
  case round =>
    obtain ⟨k, hk, rfl, rfl⟩ := hrel
    by_cases hlt : k < n
    · obtain ⟨b, o, rfl, hcell⟩ := hc (by omega)
      have hkl : k < l.length := by omega
      have hck := hcell k hkl
      rw [List.getElem?_map, List.getElem?_eq_getElem hkl, Option.map_some] at hck
      have hs : numOf (l.take (k + 1)) = numOf (l.take k) + l[k].toNat * 256 ^ k := by
        rw [List.take_succ_eq_append_getElem hkl, numOf_snoc, List.length_take, Nat.min_eq_left (by omega)]
      have hacc := numOf_lt (l.take k)
      rw [List.length_take, Nat.min_eq_left (by omega)] at hacc
      have hbits := byte_or (numOf (l.take k)) k l[k] hacc (by omega)
      have HS := Lib.hid hs
      unfold bv at hck
      generalize l[k] = cc at hck hbits HS
      generalize numOf (l.take k) = acc at *
      clear hcell hc hs
      have hcl := cc.toNat_lt
      go_wp2_with fail
      go_round
      case rel => exact ⟨k + 1, by omega, by go_num, by rw [HS.out]; simp⟩
      case measure => simp [intOf]; omega
    · obtain rfl : k = n := by omega
      clear hc
      go_wp2_with fail
      go_ret
      exact ⟨rfl, rfl⟩

theorem leBytes_len : ∀ n x, (leBytes n x).length = n := by
  intro n
  induction n with
  | zero => intro x; rfl
  | succ n ih => intro x; simp [leBytes, ih]

theorem sumlaid_calls (v : Value) (acc0 : Bs) (x0 n : Nat) (w : World) (base : Nat) (hb : base ≤ w.heap.size) (h : w.ownsRow base 5 1 v acc0.length (acc0.map bv)) (hx : x0 < 18446744073709551616) (hl : acc0.length + n ≤ 140737488355328) :
    Calls Tryz.prog 146 #[v, .int .u64 x0, .int .i64 n] w fun e w' => ∃ v', e = .returned v' ∧ w'.ownsRow base 5 1 v' (acc0 ++ leBytes n x0).length ((acc0 ++ leBytes n x0).map bv) ∧ Fr v.ownBlock.toList w w' ∧ (∀ k, v'.ownBlock = some k → v.ownBlock = some k ∨ w.heap.size ≤ k) := by
  go_enter Tryz.func146, Tryz.ntmps146
  go_wp2_with fail
  go_loopw [0, 1, 8] (fun u x i wr => ∃ (k y : Nat) (acc : Bs), k ≤ n ∧ i = .int .i64 k ∧ x = .int .u64 y ∧ y < 18446744073709551616 ∧ acc ++ leBytes (n - k) y = acc0 ++ leBytes n x0 ∧ acc.length = acc0.length + k ∧
      wr.ownsRow base 5 1 u acc.length (acc.map bv) ∧ Fr v.ownBlock.toList w wr ∧ (∀ k, u.ownBlock = some k → v.ownBlock = some k ∨ w.heap.size ≤ k)) (fun _ _ i _ => n - (intOf i).toNat)
  case atStart => exact ⟨0, x0, acc0, Nat.zero_le _, rfl, rfl, hx, rfl, rfl, h, Fr.refl _ _, fun k hk => .inl hk⟩
  case round =>
    obtain ⟨k, y, acc, hk, rfl, rfl, hy, hp, hlen, ho, hF, hbl⟩ := hrel
    have HP := Lib.hid hp
    have HL := Lib.hid hlen
    have HB := Lib.hid hbl
    have hla : acc.length + 1 ≤ 140737488355328 ∨ ¬ k < n := by omega
    clear hp hlen hbl
    by_cases hlt : k < n
    · have hla' := hla.resolve_right (fun h => h hlt)
      clear hla
      go_wp2_with (at_builtin; refine wpl_app base rfl _ _ 60 5 (.int .u8 0) 1 1 rfl u_bytes i_byte rfl (by decide) _ _ _ rfl (ho.alloc _) _ _ (Sl.lit #[_] 1 rfl (by decide)) (one_cell _ rfl) hla' (by simpa using hla') (by have := hF.size; simp; omega) ?_)
      intro v2 w2 ho2 hg hat
      have hF2 := (hF.alloc (.cells #[.int .u8 ((y : Int) % 256)] 5)).grown hg (fun j hj => by rcases HB.out j hj with h | h; exact .inl (by simp [h]); exact .inr h)
      have HA := Lib.hid hat
      clear hg hat
      go_wp2_with fail
      go_roundw
      case rel =>
        have hleq : leBytes (n - k) y = UInt8.ofNat (y % 256) :: leBytes (n - (k + 1)) (y / 256) := by
          have : n - k = (n - (k + 1)) + 1 := by omega
          rw [this]; rfl
        refine ⟨k + 1, y / 256, acc ++ [UInt8.ofNat (y % 256)], by omega, by go_num, by simp, by omega, by rw [← HP.out, hleq]; simp, by have := HL.out; simp; omega, ?_, hF2, ?_⟩
        · have e : (Value.int .u8 ((y : Int) % 256)) = bv (UInt8.ofNat (y % 256)) := by
            rw [bv, toNat_ofNat_lt (by omega)]; simp
          rw [e] at ho2
          simpa using ho2
        · intro j hj
          rcases HA.out with h | h
          · exact HB.out j (h ▸ hj)
          · rw [h] at hj; have hsz := hF.size; simp at hj; exact .inr (by omega)
      case measure => simp [intOf]; omega
    · obtain rfl : k = n := by omega
      clear hla
      go_wp2_with fail
      go_ret
      have e := HP.out
      simp only [Nat.sub_self, leBytes, List.append_nil] at e
      rw [← e]
      exact ⟨_, rfl, ho, hF, HB.out⟩
end Go.Proofs.YtjelehcnpocnoaaGreatDoor
/- Layer 1, sum: a block is taken. -/
namespace Go.Proofs.YtjelehcnpocnoaaGreatDoor
set_option linter.unusedSimpArgs false
set_option linter.unusedVariables false
set_option linter.unnecessarySimpa false
open Go.RowKit
set_option maxRecDepth 100000
set_option maxHeartbeats 1000000

def wordAt (l : Bs) (i : Nat) : Nat := numOf ((l.drop (4 * i)).take 4)
def mix1 (w : Nat → Nat) (r : Nat) (s : List Nat) (i : Nat) : List Nat :=
  s.set i ((rotl (s.getD i 0 ^^^ w ((i + r) % 8)) (5 + 3 * i) + s.getD ((i + 1) % 8) 0 * 2246822507 + (i + r)) % 4294967296)
def mixRow (w : Nat → Nat) (s : List Nat) (r : Nat) : List Nat := (List.range 8).foldl (mix1 w r) s
def takeS (s : List Nat) (l : Bs) : List Nat := (List.range 8).foldl (mixRow (wordAt l)) s
def firstS : List Nat := (List.range 8).map fun i => (i + 1) * 2654435769 % 4294967296

theorem first_calls (w : World) :
    Calls Tryz.prog 144 #[] w fun e w' => e = .returned (.agg #[.int .u32 2654435769, .int .u32 1013904242, .int .u32 3668340011, .int .u32 2027808484, .int .u32 387276957, .int .u32 3041712726, .int .u32 1401181199, .int .u32 4055616968]) ∧ Fr [] w w' := by
  go_enter Tryz.func144, Tryz.ntmps144
  go_wp2_with fail
  go_rounds 9
  refine bodyPost_ret (v := .agg #[.int .u32 2654435769, .int .u32 1013904242, .int .u32 3668340011, .int .u32 2027808484, .int .u32 387276957, .int .u32 3041712726, .int .u32 1401181199, .int .u32 4055616968]) (by simp [results, Tryz.results144, go_sem]) rfl ⟨rfl, ((Fr.refl _ _).alloc _).alloc _⟩

/-- Between two steps of the mixing: s is the state, X the words. -/
structure TakeInv (w : World) (bs os : Nat) (X : Nat → Nat) (s : List Nat) (wr : World) : Prop where
  len : s.length = 8
  lt : ∀ j, s.getD j 0 < 4294967296
  cell : ∀ j, j < 8 → wr.cell? ⟨bs, os + j, none⟩ = some (.int .u32 (s.getD j 0 : Nat))
  free : ∀ o, wr.frozen? ⟨bs, o, none⟩ = false
  out : ∀ o, o < os ∨ os + 8 ≤ o → wr.cell? ⟨bs, o, none⟩ = w.cell? ⟨bs, o, none⟩
  fr : Fr [bs] w wr
  words : ∀ j, j < 8 → wr.cell? ⟨w.heap.size, j, none⟩ = some (.int .u32 (X j : Nat))
  typ : ∀ cs e fr, w.heap[bs]? = some (.cells cs e fr) → ∃ cs', wr.heap[bs]? = some (.cells cs' e fr)

theorem TakeInv.step {w : World} {bs os : Nat} {X : Nat → Nat} {s : List Nat} {wz : World} (h : TakeInv w bs os X s wz) (k : Nat) (hk : k < 8) (hb : bs < w.heap.size) (V : Nat) (hV : V < 4294967296) :
    TakeInv w bs os X (s.set k V) (wz.setCell ⟨bs, os + k, none⟩ (.int .u32 (V : Nat))).drew := by
  have hne : ∀ (a : Addr), a ≠ ⟨bs, os + k, none⟩ → a.spot = none → (wz.setCell ⟨bs, os + k, none⟩ (.int .u32 (V : Nat))).cell? a = wz.cell? a := by
    intro a ha hs
    obtain ⟨ab, ao, asp⟩ := a
    simp only at hs
    subst hs
    by_cases hbb : ab = bs
    · subst hbb
      have : ao ≠ os + k := fun h => ha (by rw [h])
      simp only [World.cell?, World.setCell, Array.getElem?_modify, if_true]
      cases wz.heap[ab]? with
      | none => rfl
      | some o => cases o <;> simp [Array.getElem?_setIfInBounds, Ne.symm this]
    · exact World.cell?_of_block (Below.heap_setCell _ _ _ _ hbb)
  have hcell := h.cell k hk
  refine ⟨by simpa using h.len, fun j => ?_, fun j hj => ?_, fun o => ?_, fun o ho => ?_, (h.fr.setCell (.inl (by simp)) _).drew, fun j hj => ?_, fun cs e fr hcs => ?_⟩
  · rw [List.getD_eq_getElem?_getD, List.getElem?_set]
    split
    · split <;> simp [hV]
    · have := h.lt j
      rwa [List.getD_eq_getElem?_getD] at this
  · show (wz.setCell _ _).cell? _ = _
    by_cases hjk : j = k
    · subst hjk
      rw [World.cell?_setCell_same' _ _ _ (by rw [hcell]; rfl)]
      congr 3
      rw [List.getD_eq_getElem?_getD, List.getElem?_set]
      simp [h.len, hk]
    · rw [hne _ (by intro h; simp at h <;> omega) rfl, h.cell j hj]
      congr 3
      rw [List.getD_eq_getElem?_getD, List.getD_eq_getElem?_getD, List.getElem?_set, if_neg (Ne.symm hjk)]
  · show (wz.setCell _ _).frozen? _ = _
    rw [World.frozen?_setCell]; exact h.free o
  · show (wz.setCell _ _).cell? _ = _
    rw [hne _ (by intro h; simp at h <;> omega) rfl]; exact h.out o ho
  · show (wz.setCell _ _).cell? _ = _
    rw [hne _ (by intro h; simp at h <;> omega) rfl]; exact h.words j hj
  · obtain ⟨cs', h'⟩ := h.typ cs e fr hcs
    refine ⟨cs'.setIfInBounds (os + k) (.int .u32 (V : Nat)), ?_⟩
    show (wz.setCell _ _).heap[bs]? = _
    simp [World.setCell, Array.getElem?_modify, h']

theorem take_calls (bs os : Nat) (s0 : List Nat) (v : Value) (l : Bs) (w : World) (hs : s0.length = 8) (hlt : ∀ j, s0.getD j 0 < 4294967296)
    (hc : ∀ j, j < 8 → w.cell? ⟨bs, os + j, none⟩ = some (.int .u32 (s0.getD j 0 : Nat))) (hf : ∀ o, w.frozen? ⟨bs, o, none⟩ = false)
    (h : Sl w 5 1 v l.length (l.map bv)) (hl : 32 ≤ l.length) (hb : bs < w.heap.size) :
    Calls Tryz.prog 145 #[.pointer (some ⟨bs, os, none⟩), v] w fun e w' => e = .returned (.tuple #[]) ∧ Fr [bs] w w' ∧
      (∀ j, j < 8 → w'.cell? ⟨bs, os + j, none⟩ = some (.int .u32 ((takeS s0 l).getD j 0 : Nat))) ∧ (∀ o, w'.frozen? ⟨bs, o, none⟩ = false) ∧ (∀ o, o < os ∨ os + 8 ≤ o → w'.cell? ⟨bs, o, none⟩ = w.cell? ⟨bs, o, none⟩) ∧
      (∀ cs e fr, w.heap[bs]? = some (.cells cs e fr) → ∃ cs', w'.heap[bs]? = some (.cells cs' e fr)) := by
  obtain ⟨a, c, rfl, h2, h3⟩ := h.shape
  obtain ⟨v0, s0', r0⟩ := cut_from u_bytes i_byte (by decide) h 0 (by omega) 0 rfl
  obtain ⟨v1, s1, r1⟩ := cut_from u_bytes i_byte (by decide) h 4 (by omega) 4 rfl
  obtain ⟨v2, s2, r2⟩ := cut_from u_bytes i_byte (by decide) h 8 (by omega) 8 rfl
  obtain ⟨v3, s3, r3⟩ := cut_from u_bytes i_byte (by decide) h 12 (by omega) 12 rfl
  obtain ⟨v4, s4, r4⟩ := cut_from u_bytes i_byte (by decide) h 16 (by omega) 16 rfl
  obtain ⟨v5, s5, r5⟩ := cut_from u_bytes i_byte (by decide) h 20 (by omega) 20 rfl
  obtain ⟨v6, s6, r6⟩ := cut_from u_bytes i_byte (by decide) h 24 (by omega) 24 rfl
  obtain ⟨v7, s7, r7⟩ := cut_from u_bytes i_byte (by decide) h 28 (by omega) 28 rfl
  have hh : ∀ (k : Nat) (vk : Value), 4 * k ≤ 28 → Sl w 5 1 vk (l.length - 4 * k) ((l.map bv).drop (4 * k * 1)) → ∀ W, Fr [] w W →
      Calls Tryz.prog 205 #[vk, .int .i64 4] W fun e w' => e = .returned (.int .u64 (wordAt l k : Nat)) ∧ W = w' := by
    intro k vk hk hsl W hW
    have e : l.length - 4 * k = (l.drop (4 * k)).length := by simp
    have := number_calls vk (l.drop (4 * k)) W 4 (by rw [e] at hsl; simpa [List.map_drop] using hsl.fr0 hW) (by simp; omega) (by omega)
    exact this
  have hXl : ∀ k, 4 * k + 4 ≤ l.length → wordAt l k < 4294967296 := fun k hk => by
    have := numOf_lt ((l.drop (4 * k)).take 4)
    rw [List.length_take, List.length_drop, Nat.min_eq_left (by omega)] at this
    exact this
  have X0 := hXl 0 (by omega)
  have X1 := hXl 1 (by omega)
  have X2 := hXl 2 (by omega)
  have X3 := hXl 3 (by omega)
  have X4 := hXl 4 (by omega)
  have X5 := hXl 5 (by omega)
  have X6 := hXl 6 (by omega)
  have X7 := hXl 7 (by omega)
  clear hXl
  unfold takeS
  generalize wordAt l = X at *
  have H0 := hh 0 v0 (by omega) s0'
  have H1 := hh 1 v1 (by omega) s1
  have H2 := hh 2 v2 (by omega) s2
  have H3 := hh 3 v3 (by omega) s3
  have H4 := hh 4 v4 (by omega) s4
  have H5 := hh 5 v5 (by omega) s5
  have H6 := hh 6 v6 (by omega) s6
  have H7 := hh 7 v7 (by omega) s7
  clear hh s0' s1 s2 s3 s4 s5 s6 s7
  go_enter Tryz.func145, Tryz.ntmps145
  go_wp2_with fail
  refine wp_loop_rounds 9 ?_
  rw [rounds_succ]
  go_wp2_with fail
  refine (H0 _ ((Fr.refl _ _).alloc _)).mono ?_
  rintro e w1 ⟨rfl, rfl⟩
  go_wp2_with fail
  rw [rounds_succ]
  go_wp2_with fail
  refine (H1 _ ((Fr.refl _ _).alloc _)).mono ?_
  rintro e w1 ⟨rfl, rfl⟩
  go_wp2_with fail
  rw [rounds_succ]
  go_wp2_with fail
  refine (H2 _ ((Fr.refl _ _).alloc _)).mono ?_
  rintro e w1 ⟨rfl, rfl⟩
  go_wp2_with fail
  rw [rounds_succ]
  go_wp2_with fail
  refine (H3 _ ((Fr.refl _ _).alloc _)).mono ?_
  rintro e w1 ⟨rfl, rfl⟩
  go_wp2_with fail
  rw [rounds_succ]
  go_wp2_with fail
  refine (H4 _ ((Fr.refl _ _).alloc _)).mono ?_
  rintro e w1 ⟨rfl, rfl⟩
  go_wp2_with fail
  rw [rounds_succ]
  go_wp2_with fail
  refine (H5 _ ((Fr.refl _ _).alloc _)).mono ?_
  rintro e w1 ⟨rfl, rfl⟩
  go_wp2_with fail
  rw [rounds_succ]
  go_wp2_with fail
  refine (H6 _ ((Fr.refl _ _).alloc _)).mono ?_
  rintro e w1 ⟨rfl, rfl⟩
  go_wp2_with fail
  rw [rounds_succ]
  go_wp2_with fail
  refine (H7 _ ((Fr.refl _ _).alloc _)).mono ?_
  rintro e w1 ⟨rfl, rfl⟩
  go_wp2_with fail
  rw [rounds_succ]
  clear H0 H1 H2 H3 H4 H5 H6 H7 r0 r1 r2 r3 r4 r5 r6 r7
  go_wp2_with fail
  have hI0 : TakeInv w bs os X s0 (w.alloc (.cells #[.int .u32 (X 0 : Nat), .int .u32 (X 1 : Nat), .int .u32 (X 2 : Nat), .int .u32 (X 3 : Nat), .int .u32 (X 4 : Nat), .int .u32 (X 5 : Nat), .int .u32 (X 6 : Nat), .int .u32 (X 7 : Nat)] 233)) := by
    refine ⟨hs, hlt, fun j hj => ((Fr.refl [] w).alloc _).cell (hc j hj) (by simp), fun o => ?_, fun o _ => World.cell?_of_block (w := w) (Below.heap_alloc w _ _ hb), (Fr.refl _ _).alloc _, ?_, fun cs e fr h => ⟨cs, (Below.heap_alloc w _ _ hb).trans h⟩⟩
    · rw [World.frozen?_of_block (w := w) (Below.heap_alloc w _ _ hb)]; exact hf o
    · intro j hj
      simp only [World.cell?, heap_alloc_new]
      match j, hj with
      | 0, _ | 1, _ | 2, _ | 3, _ | 4, _ | 5, _ | 6, _ | 7, _ => rfl
  have hXX : ∀ j, j < 8 → X j < 4294967296 := by
    intro j hj
    match j, hj with
    | 0, _ | 1, _ | 2, _ | 3, _ | 4, _ | 5, _ | 6, _ | 7, _ => assumption
  generalize w.alloc (.cells #[.int .u32 (X 0 : Nat), .int .u32 (X 1 : Nat), .int .u32 (X 2 : Nat), .int .u32 (X 3 : Nat), .int .u32 (X 4 : Nat), .int .u32 (X 5 : Nat), .int .u32 (X 6 : Nat), .int .u32 (X 7 : Nat)] 233) = w1 at hI0 ⊢
  clear X0 X1 X2 X3 X4 X5 X6 X7 hc hf hs hlt
  have HXX := Lib.hid hXX
  clear hXX
  go_loopw [21] (fun i wr => ∃ r : Nat, r ≤ 8 ∧ i = .int .i64 r ∧ TakeInv w bs os X ((List.range r).foldl (mixRow X) s0) wr) (fun i _ => 8 - (intOf i).toNat)
  case atStart => exact ⟨0, by omega, rfl, hI0⟩
  case round =>
    obtain ⟨r, hr, rfl, hI⟩ := hrel
    clear hI0
    by_cases hr8 : r < 8
    · go_wp2_with fail
      generalize hsr : (List.range r).foldl (mixRow X) s0 = s at *
      go_loopw [24] (fun i wq => ∃ k : Nat, k ≤ 8 ∧ i = .int .i64 k ∧ TakeInv w bs os X ((List.range k).foldl (mix1 X r) s) wq) (fun i _ => 8 - (intOf i).toNat)
      case atStart => exact ⟨0, by omega, rfl, hI⟩
      case round =>
        obtain ⟨k, hk, rfl, hJ⟩ := hrel
        clear hI
        by_cases hk8 : k < 8
        · have hM : (List.range (k + 1)).foldl (mix1 X r) s = ((List.range k).foldl (mix1 X r) s).set k ((rotl (((List.range k).foldl (mix1 X r) s).getD k 0 ^^^ X ((k + r) % 8)) (5 + 3 * k) + ((List.range k).foldl (mix1 X r) s).getD ((k + 1) % 8) 0 * 2246822507 + (k + r)) % 4294967296) := by
            rw [List.range_succ, List.foldl_append]; rfl
          generalize hs1 : (List.range k).foldl (mix1 X r) s = s1 at *
          have hck := hJ.cell k hk8
          have hcx := hJ.words ((k + r) % 8) (by omega)
          have hcn := hJ.cell ((k + 1) % 8) (by omega)
          have hfk := hJ.free (os + k)
          have hA := hJ.lt k
          have hD := hJ.lt ((k + 1) % 8)
          have hB := HXX.out ((k + r) % 8) (by omega)
          generalize hAe : s1.getD k 0 = A at hck hA hM
          generalize hDe : s1.getD ((k + 1) % 8) 0 = D at hcn hD hM
          generalize hBe : X ((k + r) % 8) = B at hcx hB hM
          have HM := Lib.hid hM
          have hx := xor_u32 A B hA hB
          have hR : ∀ W : World, Calls Tryz.prog 206 #[.int .u32 ((A ^^^ B : Nat) : Int), .int .i64 (5 + 3 * (k : Int))] W fun e w' => e = .returned (.int .u32 (rotl (A ^^^ B) (5 + 3 * k) : Nat)) ∧ w' = W := fun W => by
            have := rotl_calls (A ^^^ B) (5 + 3 * k) (Nat.xor_lt_two_pow (n := 32) hA hB) (by omega) W
            rw [show ((5 + 3 * k : Nat) : Int) = 5 + 3 * (k : Int) from by omega] at this
            exact this.mono fun _ _ ⟨h1, h2⟩ => ⟨h1, h2.symm⟩
          have hRl := rotl_lt (A ^^^ B) (5 + 3 * k) (Nat.xor_lt_two_pow (n := 32) hA hB)
          generalize rotl (A ^^^ B) (5 + 3 * k) = R at hR hRl HM
          have HR := Lib.hid hR
          clear hM hs1 hR hAe hDe hBe
          go_wp2_with fail
          go_quiet ((go_at_call 206; exact Calls.quiet_of_same (HR.out _)))
          go_wp2_with fail
          have hw1 : IntKind.i64.wrap ((k : Int) + 1) = (k : Int) + 1 := IntWalk.i64_in _ (by omega)
          have hw2 : ((k : Int) + 1).tmod 8 = ((k : Int) + 1) % 8 := Int.tmod_eq_emod_of_nonneg (by omega)
          have hw3 : IntKind.i64.wrap (((k : Int) + 1) % 8) = ((k : Int) + 1) % 8 := IntWalk.i64_in _ (by omega)
          have hw4 : IntKind.i64.wrap ((k : Int) + (r : Int)) = (k : Int) + (r : Int) := IntWalk.i64_in _ (by omega)
          have hw5 : (0 : Int) ≤ ((k : Int) + 1) % 8 := by omega
          have hw7 : ((k : Int) + 1) % 8 < 8 := by omega
          have hw6 : (((k : Int) + 1) % 8).toNat = (k + 1) % 8 := by omega
          have hk8i : (k : Int) < 8 := by omega
          have hJz : TakeInv w bs os X s1 (wr.drewN nq) := ⟨hJ.len, hJ.lt, hJ.cell, hJ.free, hJ.out, hJ.fr.drewN nq, hJ.words, hJ.typ⟩
          have hck' : (wr.drewN nq).cell? ⟨bs, os + k, none⟩ = some (.int .u32 (A : Int)) := hck
          have hcn' : (wr.drewN nq).cell? ⟨bs, os + (k + 1) % 8, none⟩ = some (.int .u32 (D : Int)) := hcn
          have hfk' : (wr.drewN nq).frozen? ⟨bs, os + k, none⟩ = false := hfk
          clear hck hcn hfk hcx hJ
          generalize wr.drewN nq = wz at *
          go_region
          have hV : ((R : Int) + (D : Int) * 2246822507 + ((k : Int) + (r : Int))) % 4294967296 = (((R + D * 2246822507 + (k + r)) % 4294967296 : Nat) : Int) := by omega
          have HV := Lib.hid (hJz.step k hk8 hb _ (Nat.mod_lt (R + D * 2246822507 + (k + r)) (show 0 < 4294967296 by decide)))
          rw [hV]
          clear hV
          go_wp2_with fail
          go_roundw
          case rel => exact ⟨k + 1, by omega, by go_num, by rw [HM.out]; exact HV.out⟩
          case measure => simp [intOf]; omega
        · obtain rfl : k = 8 := by omega
          have hM : (List.range (r + 1)).foldl (mixRow X) s0 = (List.range 8).foldl (mix1 X r) s := by
            rw [List.range_succ, List.foldl_append, hsr]; rfl
          have HM := Lib.hid hM
          clear hM hsr
          go_wp2_with fail
          go_roundw
          case rel => exact ⟨r + 1, by omega, by go_num, by rw [HM.out]; exact hJ⟩
          case measure => simp [intOf]; omega
    · obtain rfl : r = 8 := by omega
      go_wp2_with fail
      go_end0
      exact ⟨rfl, hI.fr, hI.cell, hI.free, hI.out, hI.typ⟩
end Go.Proofs.YtjelehcnpocnoaaGreatDoor
/- Layer 1, sum: the whole hash. -/
namespace Go.Proofs.YtjelehcnpocnoaaGreatDoor
set_option linter.unusedSimpArgs false
set_option linter.unusedVariables false
set_option linter.unnecessarySimpa false
open Go.RowKit
set_option maxRecDepth 100000
set_option maxHeartbeats 1000000

/-- The state behind whole blocks. -/
def absorb (s : List Nat) (l : Bs) : List Nat := if l.length < 32 then s else absorb (takeS s l) (l.drop 32)
termination_by l.length
decreasing_by simp; omega
def padTail (n : Nat) : Bs := 1 :: List.replicate ((55 - n % 32) % 32) 0
/-- What is hashed of some bytes. -/
def padded (l : Bs) : Bs := l ++ padTail l.length ++ leBytes 8 (l.length) ++ List.replicate 32 0
def stateBytes (s : List Nat) : Bs := s.flatMap (leBytes 4)
def sumF (l : Bs) : Bs := stateBytes (absorb firstS (padded l))

theorem wordAt_cong (l m : Bs) (h : l.take 32 = m.take 32) (i : Nat) (hi : i < 8) : wordAt l i = wordAt m i := by
  unfold wordAt
  have e : ∀ x : Bs, (x.drop (4 * i)).take 4 = ((x.take 32).drop (4 * i)).take 4 := fun x => by
    apply List.ext_getElem?
    intro j
    simp only [List.getElem?_take, List.getElem?_drop]
    split
    · rw [if_pos (by omega)]
    · rfl
  rw [e l, e m, h]
theorem mix1_cong (u v : Nat → Nat) (h : ∀ i, i < 8 → u i = v i) (r : Nat) (s : List Nat) (i : Nat) : mix1 u r s i = mix1 v r s i := by
  unfold mix1
  rw [h ((i + r) % 8) (Nat.mod_lt _ (by decide))]
theorem mixRow_cong (u v : Nat → Nat) (h : ∀ i, i < 8 → u i = v i) : mixRow u = mixRow v := by
  funext s r
  unfold mixRow
  have : mix1 u r = mix1 v r := by funext s i; exact mix1_cong u v h r s i
  rw [this]
theorem takeS_cong (s : List Nat) (l m : Bs) (h : l.take 32 = m.take 32) : takeS s l = takeS s m := by
  unfold takeS
  rw [mixRow_cong _ _ (wordAt_cong l m h)]
theorem absorb_ge {s : List Nat} {l : Bs} (h : 32 ≤ l.length) : absorb s l = absorb (takeS s l) (l.drop 32) := by rw [absorb, if_neg (by omega)]
theorem absorb_lt {s : List Nat} {l : Bs} (h : l.length < 32) : absorb s l = s := by rw [absorb, if_pos h]
theorem absorb_step {s : List Nat} {l : Bs} (h : 32 ≤ l.length) (t : Bs) : absorb s (l ++ t) = absorb (takeS s (l.take 32)) (l.drop 32 ++ t) := by
  rw [absorb_ge (by simp; omega), takeS_cong s (l ++ t) (l.take 32) (by rw [List.take_append_of_le_length h, List.take_take, Nat.min_self]), List.drop_append_of_le_length h]
theorem mix1_len (w : Nat → Nat) (r : Nat) (s : List Nat) (i : Nat) : (mix1 w r s i).length = s.length := by simp [mix1]
theorem foldl_inv {α β : Type} (f : α → β → α) (p : α → Prop) (hf : ∀ a b, p a → p (f a b)) : ∀ (l : List β) (a : α), p a → p (l.foldl f a)
  | [], _, h => h
  | b :: l, a, h => foldl_inv f p hf l _ (hf a b h)
def GoodS (s : List Nat) : Prop := s.length = 8 ∧ ∀ j, s.getD j 0 < 4294967296
theorem set_good {s : List Nat} (h : GoodS s) (i V : Nat) (hV : V < 4294967296) : GoodS (s.set i V) := by
  refine ⟨by simpa using h.1, fun j => ?_⟩
  rw [List.getD_eq_getElem?_getD, List.getElem?_set]
  split
  · split <;> simp [hV]
  · have := h.2 j
    rwa [List.getD_eq_getElem?_getD] at this
theorem mix1_good (w : Nat → Nat) (r : Nat) (s : List Nat) (i : Nat) (h : GoodS s) : GoodS (mix1 w r s i) := by
  unfold mix1
  exact set_good h i _ (Nat.mod_lt _ (by decide))
theorem mixRow_good (w : Nat → Nat) (s : List Nat) (r : Nat) (h : GoodS s) : GoodS (mixRow w s r) := by
  unfold mixRow
  generalize List.range 8 = l
  exact foldl_inv (mix1 w r) GoodS (fun s i h => mix1_good w r s i h) l s h
theorem takeS_good (s : List Nat) (l : Bs) (h : GoodS s) : GoodS (takeS s l) := by
  unfold takeS
  generalize List.range 8 = q
  exact foldl_inv (mixRow (wordAt l)) GoodS (fun s r h => mixRow_good (wordAt l) s r h) q s h
theorem map_getD_lt (f : Nat → Nat) (M : Nat) (hM : 0 < M) (hf : ∀ a, f a < M) (q : List Nat) (j : Nat) : (q.map f).getD j 0 < M := by
  rw [List.getD_eq_getElem?_getD, List.getElem?_map]
  cases q[j]? with
  | none => exact hM
  | some a => exact hf a
theorem firstS_good : GoodS firstS :=
  ⟨by rw [firstS, List.length_map, List.length_range], fun j => map_getD_lt _ 4294967296 (by decide) (fun a => Nat.mod_lt _ (by decide)) (List.range 8) j⟩
theorem absorb_good : ∀ (n : Nat) (s : List Nat) (l : Bs), l.length ≤ n → GoodS s → GoodS (absorb s l) := by
  intro n
  induction n with
  | zero => intro s l hl h; rw [absorb_lt (by omega)]; exact h
  | succ n ih =>
    intro s l hl h
    by_cases h32 : l.length < 32
    · rw [absorb_lt h32]; exact h
    · rw [absorb_ge (by omega)]; exact ih _ _ (by simp; omega) (takeS_good _ _ h)
theorem stateBytes_len : ∀ (s : List Nat), (stateBytes s).length = 4 * s.length := by
  intro s
  induction s with
  | nil => rfl
  | cons a s ih =>
    have : stateBytes (a :: s) = leBytes 4 a ++ stateBytes s := by simp [stateBytes]
    rw [this, List.length_append, leBytes_len, ih, List.length_cons]; omega
theorem sumF_len (l : Bs) : (sumF l).length = 32 := by
  unfold sumF
  rw [stateBytes_len, (absorb_good _ _ _ (Nat.le_refl _) firstS_good).1]

/-- A run of the hash, in memory. -/
structure RunAt (w : World) (B : Nat) (s : List Nat) (v : Value) (n : Nat) : Prop where
  good : GoodS s
  cell : ∀ j, j < 8 → w.cell? ⟨B, j, none⟩ = some (.int .u32 (s.getD j 0 : Nat))
  rest : w.cell? ⟨B, 8, none⟩ = some v
  num : w.cell? ⟨B, 9, none⟩ = some (.int .u64 n)
  on : w.cell? ⟨B, 10, none⟩ = some (.bool true)
  free : ∀ o, w.frozen? ⟨B, o, none⟩ = false
  row : ∃ cs, w.heap[B]? = some (.cells cs 237 (0, 0))
theorem RunAt.lt {w : World} {B : Nat} {s : List Nat} {v : Value} {n : Nat} (h : RunAt w B s v n) : B < w.heap.size := by
  obtain ⟨cs, h⟩ := h.row
  exact (Array.getElem?_eq_some_iff.1 h).1
theorem RunAt.off {w : World} {B : Nat} {s : List Nat} {v : Value} {n : Nat} (h : RunAt w B s v n) : Off [B] w 5 := by
  obtain ⟨cs, h⟩ := h.row
  exact off_cons h (fun _ _ h => by simp at h) (off_nil _ _)

theorem RunAt.setNum {w : World} {B : Nat} {s : List Nat} {v : Value} {n : Nat} (h : RunAt w B s v n) (m : Nat) : RunAt (w.setCell ⟨B, 9, none⟩ (.int .u64 m)) B s v m :=
  ⟨h.good, fun j hj => by rw [cell_set_ne _ _ _ _ _ _ (.inr (by omega))]; exact h.cell j hj, by rw [cell_set_ne _ _ _ _ _ _ (.inr (by decide))]; exact h.rest, cell_set_same _ _ _ _ _ h.num,
    by rw [cell_set_ne _ _ _ _ _ _ (.inr (by decide))]; exact h.on, fun o => by rw [World.frozen?_setCell]; exact h.free o, row_set h.row _ _⟩
theorem RunAt.setRest {w : World} {B : Nat} {s : List Nat} {v : Value} {n : Nat} (h : RunAt w B s v n) (u : Value) : RunAt (w.setCell ⟨B, 8, none⟩ u) B s u n :=
  ⟨h.good, fun j hj => by rw [cell_set_ne _ _ _ _ _ _ (.inr (by omega))]; exact h.cell j hj, cell_set_same _ _ _ _ _ h.rest, by rw [cell_set_ne _ _ _ _ _ _ (.inr (by decide))]; exact h.num,
    by rw [cell_set_ne _ _ _ _ _ _ (.inr (by decide))]; exact h.on, fun o => by rw [World.frozen?_setCell]; exact h.free o, row_set h.row _ _⟩
theorem RunAt.fr {w w' : World} {B : Nat} {s : List Nat} {v : Value} {n : Nat} (h : RunAt w B s v n) {F : List Nat} (hF : Fr F w w') (hB : B ∉ F) : RunAt w' B s v n := by
  have hb := hF.blk B h.lt hB
  obtain ⟨cs, hr⟩ := h.row
  refine ⟨h.good, fun j hj => (World.cell?_of_block (w := w) hb).trans (h.cell j hj), (World.cell?_of_block (w := w) hb).trans h.rest, (World.cell?_of_block (w := w) hb).trans h.num,
    (World.cell?_of_block (w := w) hb).trans h.on, fun o => (World.frozen?_of_block (w := w) hb).trans (h.free o), cs, hb.trans hr⟩

theorem New_calls (w : World) :
    Calls Tryz.prog 84 #[] w fun e w' => ∃ B, e = .returned (.pointer (some ⟨B, 0, none⟩)) ∧ w.heap.size ≤ B ∧ RunAt w' B firstS (.slice none 0 0) 0 ∧ Fr [] w w' := by
  go_enter Tryz.func84, Tryz.ntmps84
  go_wp2_with fail
  refine (first_calls w).mono ?_
  rintro e w1 ⟨rfl, hF⟩
  go_wp2_with fail
  go_ret
  refine ⟨_, rfl, hF.size, ⟨firstS_good, ?_, ?_, ?_, ?_, fun o => ?_, _, heap_alloc_new _ _⟩, hF.alloc _⟩
  · have hfs : firstS = [2654435769, 1013904242, 3668340011, 2027808484, 387276957, 3041712726, 1401181199, 4055616968] := by kernel_rfl
    rw [hfs]
    intro j hj
    simp only [World.cell?, heap_alloc_new]
    match j, hj with
    | 0, _ | 1, _ | 2, _ | 3, _ | 4, _ | 5, _ | 6, _ | 7, _ => rfl
  · simp only [World.cell?, heap_alloc_new]; rfl
  · simp only [World.cell?, heap_alloc_new]; rfl
  · simp only [World.cell?, heap_alloc_new]; rfl
  · simp only [World.frozen?, heap_alloc_new]; simp

/-- The bytes of a run that was given nothing yet. -/
theorem Add_calls (B : Nat) (v : Value) (l : Bs) (w : World) (hR : RunAt w B firstS (.slice none 0 0) 0) (h : Sl w 5 1 v l.length (l.map bv)) (hl : l.length ≤ 70368744177664) :
    Calls Tryz.prog 85 #[.pointer (some ⟨B, 0, none⟩), v] w fun e w' => e = .returned (.tuple #[]) ∧ Fr [B] w w' ∧
      ∃ s r vr, RunAt w' B s vr l.length ∧ Sl w' 5 1 vr r.length (r.map bv) ∧ r.length ≤ l.length ∧ (∀ t, absorb firstS (l ++ t) = absorb s (r ++ t)) ∧ r.length = l.length % 32 := by
  obtain ⟨a, c, rfl, h2, h3⟩ := h.shape
  have c8 := hR.rest
  have c9 := hR.num
  have c10 := hR.on
  have f8 := hR.free 8
  have f9 := hR.free 9
  have hR1 := hR.setNum l.length
  have hF1 : Fr [B] w (w.setCell ⟨B, 9, none⟩ (.int .u64 l.length)) := (Fr.refl _ _).setCell (.inl (by simp)) _
  have h' := h.fr hF1 hR.off
  go_enter Tryz.func85, Tryz.ntmps85
  go_wp2_with (at_builtin; refine wpl_app w.heap.size rfl _ _ 60 5 (.int .u8 0) 1 1 rfl u_bytes i_byte rfl (by decide) _ 0 [] rfl (World.ownsRow_nil _ _ _ _) _ _ h' (bv_one l) (by omega) (by omega) (by simp) ?_)
  intro v1 w1 ho hg _
  have hF2 := hF1.grown hg (by simp [Value.ownBlock])
  have hg0 : Fr [] (w.setCell ⟨B, 9, none⟩ (.int .u64 l.length)) w1 := (Fr.refl [] _).grown hg (by simp [Value.ownBlock])
  have hR2 := hR1.fr hg0 (by simp)
  have hs1 : Sl w1 5 1 v1 l.length (l.map bv) := by simpa using Sl.of_own ho
  clear c8 c9 c10 f8 f9 hR1 hF1 hg ho hg0 h'
  have c8 := hR2.rest
  have f8 := hR2.free 8
  have hF3 : Fr [B] w (w1.setCell ⟨B, 8, none⟩ v1) := hF2.setCell (.inl (by simp)) _
  have hs3 := hs1.fr (F := [B]) ((Fr.refl [B] _).setCell (p := ⟨B, 8, none⟩) (.inl (by simp)) v1) hR2.off
  have hR3 := hR2.setRest v1
  obtain ⟨a1, c1, rfl, h4, h5⟩ := hs1.shape
  go_wp2_with fail
  clear c8 f8 hR2 hF2 hs1
  generalize w1.setCell ⟨B, 8, none⟩ (.slice a1 l.length c1) = w3 at *
  go_loopw [] (fun wr => ∃ s r vr, RunAt wr B s vr l.length ∧ Sl wr 5 1 vr r.length (r.map bv) ∧ r.length ≤ l.length ∧ (∀ t, absorb firstS (l ++ t) = absorb s (r ++ t)) ∧ r.length % 32 = l.length % 32 ∧ Fr [B] w wr)
    (fun wr => match wr.cell? ⟨B, 8, none⟩ with | some (.slice _ n _) => n | _ => 0)
  case atStart => exact ⟨firstS, l, _, hR3, hs3, Nat.le_refl _, fun _ => rfl, rfl, hF3⟩
  case round =>
    obtain ⟨s, r, vr, hRr, hsr, hrl, hab, hm, hFr⟩ := hrel
    have c8 := hRr.rest
    obtain ⟨a2, c2, rfl, h6, h7⟩ := hsr.shape
    clear hR3 hs3 hF3
    by_cases h32 : 32 ≤ r.length
    · obtain ⟨vt, hvt, rt⟩ := cut_to u_bytes i_byte (by decide) hsr 32 h32 32 rfl
      obtain ⟨vf, hvf, rf⟩ := cut_from u_bytes i_byte (by decide) hsr 32 h32 32 rfl
      have hvt' : Sl wr 5 1 vt (r.take 32).length ((r.take 32).map bv) := by
        have e : (r.take 32).length = 32 := by simp; omega
        rw [e, List.map_take]; simpa using hvt
      have hvf' : Sl wr 5 1 vf (r.drop 32).length ((r.drop 32).map bv) := by
        have e : (r.drop 32).length = r.length - 32 := by simp
        rw [e, List.map_drop]; simpa using hvf
      obtain ⟨a3, c3, rfl, h8, h9⟩ := hvf'.shape
      have HAB := Lib.hid hab
      have HM := Lib.hid hm
      have f8 := hRr.free 8
      clear hab hm hvt hvf
      go_wp2_with fail
      have hvd : Sl wr.drew 5 1 vt (r.take 32).length ((r.take 32).map bv) := hvt'.fr0 (Fr.refl _ _).drew
      have HC := take_calls B 0 s vt (r.take 32) wr.drew hRr.good.1 hRr.good.2 (fun j hj => by rw [Nat.zero_add]; exact hRr.cell j hj) hRr.free hvd (by simp; omega) hRr.lt
      have HC' := Lib.hid HC
      clear HC
      go_region_with (go_at_call 145; refine HC'.out.mono ?_; rintro e w4 ⟨rfl, hF4, hc4, hf4, ho4, ht4⟩)
      have hFd : Fr [B] wr w4 := ((Fr.refl [B] wr).drew).trans hF4 (by simp)
      have c84 : w4.cell? ⟨B, 8, none⟩ = some (.slice a2 r.length c2) := (ho4 8 (.inr (by decide))).trans c8
      have hR4 : RunAt w4 B (takeS s (r.take 32)) (.slice a2 r.length c2) l.length := by
        obtain ⟨cs, hcs⟩ := hRr.row
        exact ⟨takeS_good _ _ hRr.good, fun j hj => by have := hc4 j hj; rwa [Nat.zero_add] at this, c84, (ho4 9 (.inr (by decide))).trans hRr.num, (ho4 10 (.inr (by decide))).trans hRr.on, hf4, ht4 cs _ _ hcs⟩
      have f84 := hR4.free 8
      have hsf := hvf'.fr hFd hRr.off
      have hR5 := hR4.setRest (.slice a3 (r.drop 32).length c3)
      have hsf5 := hsf.fr (F := [B]) ((Fr.refl [B] w4).setCell (p := ⟨B, 8, none⟩) (.inl (by simp)) (.slice a3 (r.drop 32).length c3)) hR4.off
      have HR := Lib.hid ho4
      clear hc4 hf4 ho4 ht4 f8 c8
      go_wp2_with fail
      go_roundw
      all_goals simp only [List.length_drop] at hR5 hsf5
      case rel =>
        refine ⟨_, r.drop 32, _, hR5, by rw [List.length_drop]; exact hsf5, by simp; omega, fun t => ?_, ?_, (hFr.trans hFd (by simp)).setCell (.inl (by simp)) _⟩
        · rw [HAB.out t, absorb_step h32]
        · have := HM.out
          simp; omega
      case measure =>
        rw [hR5.rest, hRr.rest]
        simp; omega
    · have HAB := Lib.hid hab
      have HM := Lib.hid hm
      clear hab hm
      go_wp2_with fail
      go_end0
      exact ⟨rfl, hFr, s, r, _, hRr, hsr, hrl, HAB.out, by have := HM.out; omega⟩

end Go.Proofs.YtjelehcnpocnoaaGreatDoor
/- Layer 1, sum: the hash's end. -/
namespace Go.Proofs.YtjelehcnpocnoaaGreatDoor
set_option linter.unusedSimpArgs false
set_option linter.unusedVariables false
set_option linter.unnecessarySimpa false
open Go.RowKit
set_option maxRecDepth 100000
set_option maxHeartbeats 2000000

/-- A state, in memory. -/
structure StAt (w : World) (b : Nat) (s : List Nat) : Prop where
  good : GoodS s
  cell : ∀ j, j < 8 → w.cell? ⟨b, j, none⟩ = some (.int .u32 (s.getD j 0 : Nat))
  free : ∀ o, w.frozen? ⟨b, o, none⟩ = false
  row : ∃ cs, w.heap[b]? = some (.cells cs 234 (0, 0))
theorem StAt.lt {w : World} {b : Nat} {s : List Nat} (h : StAt w b s) : b < w.heap.size := by
  obtain ⟨cs, h⟩ := h.row
  exact (Array.getElem?_eq_some_iff.1 h).1
theorem StAt.off {w : World} {b : Nat} {s : List Nat} (h : StAt w b s) : Off [b] w 5 := by
  obtain ⟨cs, h⟩ := h.row
  exact off_cons h (fun _ _ h => by simp at h) (off_nil _ _)
theorem StAt.fr {w w' : World} {b : Nat} {s : List Nat} (h : StAt w b s) {F : List Nat} (hF : Fr F w w') (hb : b ∉ F) : StAt w' b s := by
  have hb := hF.blk b h.lt hb
  obtain ⟨cs, hr⟩ := h.row
  exact ⟨h.good, fun j hj => (World.cell?_of_block (w := w) hb).trans (h.cell j hj), fun o => (World.frozen?_of_block (w := w) hb).trans (h.free o), cs, hb.trans hr⟩

/-- What was laid since w. -/
def OutAt (w wr : World) (acc : Bs) (v : Value) : Prop := wr.ownsRow w.heap.size 5 1 v acc.length (acc.map bv) ∧ Fr [] w wr
theorem laid4 {w wr : World} {acc : Bs} {v : Value} (h : OutAt w wr acc v) (x : Nat) (hx : x < 4294967296) (hl : acc.length ≤ 28) :
    Calls Tryz.prog 146 #[v, .int .u64 x, .int .i64 4] wr fun e w' => ∃ v', e = .returned v' ∧ OutAt w w' (acc ++ leBytes 4 x) v' ∧ Hid ((acc ++ leBytes 4 x).length = acc.length + 4) := by
  refine (sumlaid_calls v acc x 4 wr w.heap.size h.2.size h.1 (by omega) (by omega)).mono ?_
  rintro e w5 ⟨v5, rfl, ho5, hF5, hb5⟩
  exact ⟨v5, rfl, ⟨ho5, h.2.trans hF5 (fun x hx => .inr (own_block h.1 x (by simpa using hx)))⟩, by simp [Hid, leBytes_len]⟩

theorem End_calls (B : Nat) (s : List Nat) (r : Bs) (v : Value) (n : Nat) (w : World) (hR : RunAt w B s v n) (h : Sl w 5 1 v r.length (r.map bv)) (hr : r.length = n % 32) (hn : n ≤ 70368744177664) :
    Calls Tryz.prog 86 #[.pointer (some ⟨B, 0, none⟩)] w fun e w' => ∃ o, e = .returned (.string (mk o)) ∧ o = stateBytes (absorb s (r ++ padTail n ++ leBytes 8 n ++ List.replicate 32 0)) ∧ Fr [] w w' := by
  obtain ⟨a, c, rfl, h2, h3⟩ := h.shape
  have HR0 := Lib.hid hr
  have hrb : r.length < 32 := by omega
  clear hr
  have hg := hR.good
  have k0 := hR.cell 0 (by omega)
  have k1 := hR.cell 1 (by omega)
  have k2 := hR.cell 2 (by omega)
  have k3 := hR.cell 3 (by omega)
  have k4 := hR.cell 4 (by omega)
  have k5 := hR.cell 5 (by omega)
  have k6 := hR.cell 6 (by omega)
  have k7 := hR.cell 7 (by omega)
  have c8 := hR.rest
  have c9 := hR.num
  have c10 := hR.on
  have hB := hR.lt
  have hX : ∀ j, s.getD j 0 = (fun j => s.getD j 0) j := fun _ => rfl
  rw [hX] at k0 k1 k2 k3 k4 k5 k6 k7
  generalize hXe : (fun j => s.getD j 0) = X at *
  clear hX
  have hl0 : ∀ A : Obj, ((w.alloc A).alloc (.cells #[] 5)).ownsRow w.heap.size 5 1 (.slice (some ⟨w.heap.size + 1, 0, none⟩) 0 0) 0 [] := fun A => by
    have := World.ownsRow_lit (base := w.heap.size) (e := 5) (size := 1) (w.alloc A) #[] 0 (by simp) (Nat.zero_le _) rfl
    simpa using this
  go_enter Tryz.func86, Tryz.ntmps86
  go_wp2_with (at_builtin; refine wpl_app w.heap.size rfl _ _ 60 5 (.int .u8 0) 1 1 rfl u_bytes i_byte rfl (by decide) _ 0 [] rfl (hl0 _) r.length (r.map bv) (h.fr0 (((Fr.refl _ _).alloc _).alloc _)) (bv_one r) (by omega) (by omega) (by simp only [World.size_alloc]; omega) ?_)
  intro v1 w1 ho1 hg1 _
  have hF1 : Fr [] w w1 := (((Fr.refl _ _).alloc _).alloc _).grown hg1 (by simp [Value.ownBlock])
  have hS1 : StAt w1 w.heap.size s := by
    have hS0 : StAt (w.alloc (.cells #[.int .u32 (X 0 : Nat), .int .u32 (X 1 : Nat), .int .u32 (X 2 : Nat), .int .u32 (X 3 : Nat), .int .u32 (X 4 : Nat), .int .u32 (X 5 : Nat), .int .u32 (X 6 : Nat), .int .u32 (X 7 : Nat)] 234)) w.heap.size s := by
      refine ⟨hg, fun j hj => ?_, fun o => ?_, _, heap_alloc_new _ _⟩
      · simp only [World.cell?, heap_alloc_new]
        rw [show s.getD j 0 = X j from by rw [← hXe]]
        match j, hj with
        | 0, _ | 1, _ | 2, _ | 3, _ | 4, _ | 5, _ | 6, _ | 7, _ => rfl
      · simp only [World.frozen?, heap_alloc_new]; simp
    exact hS0.fr (F := []) (((Fr.refl [] _).alloc _).grown hg1 (by simp [Value.ownBlock])) (by simp)
  have hb1 := own_block ho1
  have c9' : w1.cell? ⟨B, 9, none⟩ = some (.int .u64 n) := hF1.cell c9 (by simp)
  clear k0 k1 k2 k3 k4 k5 k6 k7 c8 c10 hg1 hXe
  go_wp2_with (at_builtin; refine wpl_app w.heap.size rfl _ _ 60 5 (.int .u8 0) 1 1 rfl u_bytes i_byte rfl (by decide) _ r.length (r.map bv) rfl (ho1.alloc _) 1 [.int .u8 1] (Sl.lit #[_] 1 rfl (by decide)) (one_cell _ rfl) (by omega) (by omega) (by have := hF1.size; simp only [World.size_alloc]; omega) ?_)
  intro v2 w2 ho2 hg2 hat2
  have hF2 : Fr [] w w2 := (hF1.alloc (.cells #[.int .u8 1] 5)).grown hg2 (fun k hk => .inr (hb1 k hk))
  have hS2 : StAt w2 w.heap.size s := hS1.fr (F := v1.ownBlock.toList) (((Fr.refl _ _).alloc (.cells #[.int .u8 1] 5)).grown hg2 (fun k hk => .inl (by simp [hk]))) (own_ne ho1 hS1.row (by decide))
  have c92 : w2.cell? ⟨B, 9, none⟩ = some (.int .u64 n) := hF2.cell c9 (by simp)
  have ho2' : w2.ownsRow w.heap.size 5 1 v2 (r ++ [1]).length ((r ++ [1]).map bv) := by simpa [bv] using ho2
  clear hg2 hat2 c9' hS1 hb1 ho1 ho2 hF1
  go_wp2_with fail
  clear c9 hg
  generalize hK : (55 - r.length) % 32 = K
  have HK := Lib.hid hK
  have hK32 : K < 32 := by omega
  clear hK
  go_loopw [4] (fun v wr => ∃ (k m : Nat), k ≤ K ∧ Hid (m = r.length + 1 + k) ∧ m ≤ 64 ∧ wr.ownsRow w.heap.size 5 1 v m ((r ++ 1 :: List.replicate k 0).map bv) ∧ StAt wr w.heap.size s ∧ Fr [] w wr) (fun v _ => 1000 - lenV v)
  case atStart => exact ⟨0, (r ++ [1]).length, Nat.zero_le _, by simp [Hid], by simp; omega, ho2', hS2, hF2⟩
  case round =>
    obtain ⟨k, m, hk, hm, hm64, ho, hS, hF⟩ := hrel
    obtain ⟨a1, c1, hv1, h4, h5⟩ := (Sl.of_own ho).shape
    clear hS2 hF2 ho2' c92
    by_cases hkK : k < K
    · have hne : ((m : Int) % 32 != 24) = true := by
        have h1 := hm.out
        have h2 := HK.out
        rw [bne_iff_ne]; omega
      subst hv1
      go_wp2_with (at_builtin; refine wpl_app w.heap.size rfl _ _ 60 5 (.int .u8 0) 1 1 rfl u_bytes i_byte rfl (by decide) _ m ((r ++ 1 :: List.replicate k 0).map bv) rfl (ho.alloc _) 1 [.int .u8 0] (Sl.lit #[_] 1 rfl (by decide)) (one_cell _ rfl) (by omega) (by omega) (by have := hF.size; simp only [World.size_alloc]; omega) ?_)
      intro v2' w2' ho2 hg2 hat2
      have hF' : Fr [] w w2' := (hF.alloc (.cells #[.int .u8 0] 5)).grown hg2 (fun k hk => .inr (own_block ho k hk))
      have hS' : StAt w2' w.heap.size s := hS.fr (F := (Value.slice a1 m c1).ownBlock.toList) (((Fr.refl _ _).alloc (.cells #[.int .u8 0] 5)).grown hg2 (fun k hk => .inl (by simp [hk]))) (own_ne ho hS.row (by decide))
      obtain ⟨a2, c2, rfl, h6, h7⟩ := (Sl.of_own ho2).shape
      clear hg2 hat2
      go_wp2_with fail
      go_roundw
      case rel =>
        refine ⟨k + 1, m + 1, by omega, by have := hm.out; simp [Hid]; omega, by have := hm.out; omega, ?_, hS', hF'⟩
        have e : (r ++ 1 :: List.replicate (k + 1) 0).map bv = (r ++ 1 :: List.replicate k 0).map bv ++ [Value.int .u8 0] := by
          rw [List.replicate_succ']; simp [bv]
        rw [e]; simpa [bv] using ho2
      case measure => simp [lenV]; omega
    · obtain rfl : k = K := by omega
      have hm40 : (m : Int) % 32 = 24 := by
        have h1 := hm.out
        have h2 := HK.out
        omega
      have hne : ((m : Int) % 32 != 24) = false := by rw [hm40]; rfl
      clear hm40
      subst hv1
      have c9r : wr.cell? ⟨B, 9, none⟩ = some (.int .u64 n) := hF.cell hR.num (by simp)
      have HS := Lib.hid hS
      clear hS
      go_wp2_with fail
      clear hne
      have hm24 : m % 32 = 24 := by
        have h1 := hm.out
        have h2 := HK.out
        omega
      have ho' : wr.ownsRow w.heap.size 5 1 (.slice a1 m c1) (r ++ 1 :: List.replicate k 0).length ((r ++ 1 :: List.replicate k 0).map bv) := by
        have e : (r ++ 1 :: List.replicate k 0).length = m := by rw [hm.out]; simp; omega
        rw [e]; exact ho
      refine (sumlaid_calls _ _ n 8 wr w.heap.size (by have := hF.size; omega) ho' (by omega) (by have := hm.out; simp; omega)).mono ?_
      rintro e w5 ⟨v5, rfl, ho5, hF5, hb5⟩
      have hS5 : StAt w5 w.heap.size s := HS.out.fr hF5 (own_ne ho' HS.out.row (by decide))
      have hFr5 : Fr [] w w5 := hF.trans hF5 (fun x hx => .inr (own_block ho' x (by simpa using hx)))
      generalize hL : r ++ 1 :: List.replicate k 0 ++ leBytes 8 n = L at ho5
      have hLl : L.length ≤ 72 ∧ (L.length + 32) % 32 = 0 := by
        have h1 := hm.out
        rw [← hL]; simp [leBytes_len]; omega
      obtain ⟨hL1, hL2⟩ := hLl
      have HL := Lib.hid hL
      have HL2 := Lib.hid hL2
      clear hF5 hb5 c9r hL hL2 hF HS ho' ho h4 h5 hm24 hm64 hm hkK
      obtain ⟨v6, w6, hr6, ho6, hg6, -⟩ := run_app_zeros (P := Tryz.prog) w5 w.heap.size 60 3 60 5 .i64 .i64 u_bytes u_int i_byte v5 _ _ ho5 32 (by decide) (by omega) hFr5.size
      have hS6 : StAt w6 w.heap.size s := hS5.fr (F := v5.ownBlock.toList) ((Fr.refl _ _).grown hg6 (fun k hk => .inl (by simp [hk]))) (own_ne ho5 hS5.row (by decide))
      have hF6 : Fr [] w w6 := hFr5.grown hg6 (fun k hk => .inr (own_block ho5 k hk))
      have hs6 : Sl w6 5 1 v6 (L ++ List.replicate 32 0).length ((L ++ List.replicate 32 0).map bv) := by
        have := Sl.of_own ho6
        simpa [bv] using this
      clear hS5 hFr5 hg6 ho5 ho6
      go_wp2_with (at_builtin; refine Lib.wpList_append_run _ rfl _ _ 60 3 rfl v5 (.int .i64 32) rfl rfl v6 w6 hr6 ?_)
      clear hr6
      have hL0l : (L ++ List.replicate 32 0).length ≤ 104 ∧ Hid ((L ++ List.replicate 32 0).length % 32 = 0) := ⟨by simp; omega, by have := HL2.out; simp [Hid]; omega⟩
      have HL0 : Hid (L ++ List.replicate 32 0 = r ++ padTail n ++ leBytes 8 n ++ List.replicate 32 0) := by
        have e : padTail n = 1 :: List.replicate k 0 := by
          unfold padTail
          have h1 := HK.out
          have h2 := HR0.out
          rw [← h2, h1]
        rw [e, ← HL.out]; simp [Hid]
      clear HL HL2 hL1
      generalize L ++ List.replicate 32 0 = L0 at *
      obtain ⟨hL0l, HL3⟩ := hL0l
      go_loopw [4] (fun v wr => ∃ (st : List Nat) (l : Bs), Hid (absorb s L0 = absorb st l) ∧ Hid (l.length % 32 = 0) ∧ l.length ≤ 104 ∧ Sl wr 5 1 v l.length (l.map bv) ∧ StAt wr w.heap.size st ∧ Fr [] w wr) (fun v _ => lenV v)
      case atStart => exact ⟨s, L0, rfl, HL3, hL0l, hs6, hS6, hF6⟩
      case round =>
        obtain ⟨st, l, hab, hl, hll, hs, hS, hF⟩ := hrel
        obtain ⟨a2, c2, rfl, h4, h5⟩ := hs.shape
        clear hS6 hF6 hs6
        by_cases h32 : 32 ≤ l.length
        · obtain ⟨vt, hvt, rt⟩ := cut_to u_bytes i_byte (by decide) hs 32 h32 32 rfl
          obtain ⟨vf, hvf, rf⟩ := cut_from u_bytes i_byte (by decide) hs 32 h32 32 rfl
          have hvt' : Sl wr 5 1 vt (l.take 32).length ((l.take 32).map bv) := by
            have e : (l.take 32).length = 32 := by simp; omega
            rw [e, List.map_take]; simpa using hvt
          have hvf' : Sl wr 5 1 vf (l.drop 32).length ((l.drop 32).map bv) := by
            have e : (l.drop 32).length = l.length - 32 := by simp
            rw [e, List.map_drop]; simpa using hvf
          obtain ⟨a3, c3, rfl, h8, h9⟩ := hvf'.shape
          go_wp2_with fail
          refine (take_calls w.heap.size 0 st vt (l.take 32) wr hS.good.1 hS.good.2 (fun j hj => by rw [Nat.zero_add]; exact hS.cell j hj) hS.free hvt' (by simp; omega) hS.lt).mono ?_
          rintro e w4 ⟨rfl, hF4, hc4, hf4, ho4, ht4⟩
          have hS4 : StAt w4 w.heap.size (takeS st (l.take 32)) := by
            obtain ⟨cs, hcs⟩ := hS.row
            exact ⟨takeS_good _ _ hS.good, fun j hj => by have := hc4 j hj; rwa [Nat.zero_add] at this, hf4, ht4 cs _ _ hcs⟩
          have hF' : Fr [] w w4 := hF.trans hF4 (fun x hx => .inr (by simp at hx; omega))
          have hs4 := hvf'.fr hF4 hS.off
          clear hc4 hf4 ho4 ht4 hF hF4 hvt hvf hvf' hs
          go_wp2_with fail
          go_roundw
          case rel =>
            refine ⟨_, l.drop 32, ?_, ?_, by simp; omega, by simpa only [List.length_drop] using hs4, hS4, hF'⟩
            · have e := absorb_ge (s := st) h32
              rw [takeS_cong st l (l.take 32) (by rw [List.take_take, Nat.min_self])] at e
              exact hab.out.trans e
            · have := hl.out
              simp [Hid]; omega
          case measure => simp [lenV]; omega
        · have h0 : l = [] := by
            have := hl.out
            exact List.eq_nil_of_length_eq_zero (by omega)
          subst h0
          have hg8 := hS.good.1
          have hlt := hS.good.2
          match st, hg8 with
          | [s0, s1, s2, s3, s4, s5, s6, s7], _ =>
          have k0 : wr.cell? ⟨w.heap.size, 0, none⟩ = some (.int .u32 s0) := hS.cell 0 (by decide)
          have k1 : wr.cell? ⟨w.heap.size, 1, none⟩ = some (.int .u32 s1) := hS.cell 1 (by decide)
          have k2 : wr.cell? ⟨w.heap.size, 2, none⟩ = some (.int .u32 s2) := hS.cell 2 (by decide)
          have k3 : wr.cell? ⟨w.heap.size, 3, none⟩ = some (.int .u32 s3) := hS.cell 3 (by decide)
          have k4 : wr.cell? ⟨w.heap.size, 4, none⟩ = some (.int .u32 s4) := hS.cell 4 (by decide)
          have k5 : wr.cell? ⟨w.heap.size, 5, none⟩ = some (.int .u32 s5) := hS.cell 5 (by decide)
          have k6 : wr.cell? ⟨w.heap.size, 6, none⟩ = some (.int .u32 s6) := hS.cell 6 (by decide)
          have k7 : wr.cell? ⟨w.heap.size, 7, none⟩ = some (.int .u32 s7) := hS.cell 7 (by decide)
          have b0 : s0 < 4294967296 := hlt 0
          have b1 : s1 < 4294967296 := hlt 1
          have b2 : s2 < 4294967296 := hlt 2
          have b3 : s3 < 4294967296 := hlt 3
          have b4 : s4 < 4294967296 := hlt 4
          have b5 : s5 < 4294967296 := hlt 5
          have b6 : s6 < 4294967296 := hlt 6
          have b7 : s7 < 4294967296 := hlt 7
          clear hlt hS
          go_wp2_with fail
          have hO0 : OutAt w wr [] (.slice none 0 0) := ⟨World.ownsRow_nil _ _ _ _, hF⟩
          clear k0 k1 k2 k3 k4 k5 k6 k7 hF hs h4 hg8
          have i0 : ∀ w, (Instr.index 234 (.agg #[.int .u32 (s0 : Nat), .int .u32 (s1 : Nat), .int .u32 (s2 : Nat), .int .u32 (s3 : Nat), .int .u32 (s4 : Nat), .int .u32 (s5 : Nat), .int .u32 (s6 : Nat), .int .u32 (s7 : Nat)]) (.int .i64 0)).run Tryz.prog w = .ok (.int .u32 (s0 : Nat)) w := fun _ => rfl
          have i1 : ∀ w, (Instr.index 234 (.agg #[.int .u32 (s0 : Nat), .int .u32 (s1 : Nat), .int .u32 (s2 : Nat), .int .u32 (s3 : Nat), .int .u32 (s4 : Nat), .int .u32 (s5 : Nat), .int .u32 (s6 : Nat), .int .u32 (s7 : Nat)]) (.int .i64 1)).run Tryz.prog w = .ok (.int .u32 (s1 : Nat)) w := fun _ => rfl
          have i2 : ∀ w, (Instr.index 234 (.agg #[.int .u32 (s0 : Nat), .int .u32 (s1 : Nat), .int .u32 (s2 : Nat), .int .u32 (s3 : Nat), .int .u32 (s4 : Nat), .int .u32 (s5 : Nat), .int .u32 (s6 : Nat), .int .u32 (s7 : Nat)]) (.int .i64 2)).run Tryz.prog w = .ok (.int .u32 (s2 : Nat)) w := fun _ => rfl
          have i3 : ∀ w, (Instr.index 234 (.agg #[.int .u32 (s0 : Nat), .int .u32 (s1 : Nat), .int .u32 (s2 : Nat), .int .u32 (s3 : Nat), .int .u32 (s4 : Nat), .int .u32 (s5 : Nat), .int .u32 (s6 : Nat), .int .u32 (s7 : Nat)]) (.int .i64 3)).run Tryz.prog w = .ok (.int .u32 (s3 : Nat)) w := fun _ => rfl
          have i4 : ∀ w, (Instr.index 234 (.agg #[.int .u32 (s0 : Nat), .int .u32 (s1 : Nat), .int .u32 (s2 : Nat), .int .u32 (s3 : Nat), .int .u32 (s4 : Nat), .int .u32 (s5 : Nat), .int .u32 (s6 : Nat), .int .u32 (s7 : Nat)]) (.int .i64 4)).run Tryz.prog w = .ok (.int .u32 (s4 : Nat)) w := fun _ => rfl
          have i5 : ∀ w, (Instr.index 234 (.agg #[.int .u32 (s0 : Nat), .int .u32 (s1 : Nat), .int .u32 (s2 : Nat), .int .u32 (s3 : Nat), .int .u32 (s4 : Nat), .int .u32 (s5 : Nat), .int .u32 (s6 : Nat), .int .u32 (s7 : Nat)]) (.int .i64 5)).run Tryz.prog w = .ok (.int .u32 (s5 : Nat)) w := fun _ => rfl
          have i6 : ∀ w, (Instr.index 234 (.agg #[.int .u32 (s0 : Nat), .int .u32 (s1 : Nat), .int .u32 (s2 : Nat), .int .u32 (s3 : Nat), .int .u32 (s4 : Nat), .int .u32 (s5 : Nat), .int .u32 (s6 : Nat), .int .u32 (s7 : Nat)]) (.int .i64 6)).run Tryz.prog w = .ok (.int .u32 (s6 : Nat)) w := fun _ => rfl
          have i7 : ∀ w, (Instr.index 234 (.agg #[.int .u32 (s0 : Nat), .int .u32 (s1 : Nat), .int .u32 (s2 : Nat), .int .u32 (s3 : Nat), .int .u32 (s4 : Nat), .int .u32 (s5 : Nat), .int .u32 (s6 : Nat), .int .u32 (s7 : Nat)]) (.int .i64 7)).run Tryz.prog w = .ok (.int .u32 (s7 : Nat)) w := fun _ => rfl
          refine wp_loop_rounds 9 ?_
          rw [rounds_succ]
          go_wp2_with fail
          refine (laid4 hO0 s0 b0 (by decide)).mono ?_
          rintro e w10 ⟨v0', rfl, hO1, HA1⟩
          have HA1 : Hid (([] ++ leBytes 4 s0).length = 4) := HA1
          clear hO0
          go_wp2_with fail
          rw [rounds_succ]
          go_wp2_with fail
          refine (laid4 hO1 s1 b1 (by have := HA1.out; omega)).mono ?_
          rintro e w11 ⟨v1', rfl, hO2, HA2⟩
          have HA2 : Hid ((_ : Bs).length = 8) := HA2.out.trans (by rw [HA1.out])
          clear hO1
          go_wp2_with fail
          rw [rounds_succ]
          go_wp2_with fail
          refine (laid4 hO2 s2 b2 (by have := HA2.out; omega)).mono ?_
          rintro e w12 ⟨v2', rfl, hO3, HA3⟩
          have HA3 : Hid ((_ : Bs).length = 12) := HA3.out.trans (by rw [HA2.out])
          clear hO2
          go_wp2_with fail
          rw [rounds_succ]
          go_wp2_with fail
          refine (laid4 hO3 s3 b3 (by have := HA3.out; omega)).mono ?_
          rintro e w13 ⟨v3', rfl, hO4, HA4⟩
          have HA4 : Hid ((_ : Bs).length = 16) := HA4.out.trans (by rw [HA3.out])
          clear hO3
          go_wp2_with fail
          rw [rounds_succ]
          go_wp2_with fail
          refine (laid4 hO4 s4 b4 (by have := HA4.out; omega)).mono ?_
          rintro e w14 ⟨v4', rfl, hO5, HA5⟩
          have HA5 : Hid ((_ : Bs).length = 20) := HA5.out.trans (by rw [HA4.out])
          clear hO4
          go_wp2_with fail
          rw [rounds_succ]
          go_wp2_with fail
          refine (laid4 hO5 s5 b5 (by have := HA5.out; omega)).mono ?_
          rintro e w15 ⟨v5', rfl, hO6, HA6⟩
          have HA6 : Hid ((_ : Bs).length = 24) := HA6.out.trans (by rw [HA5.out])
          clear hO5
          go_wp2_with fail
          rw [rounds_succ]
          go_wp2_with fail
          refine (laid4 hO6 s6 b6 (by have := HA6.out; omega)).mono ?_
          rintro e w16 ⟨v6', rfl, hO7, HA7⟩
          have HA7 : Hid ((_ : Bs).length = 28) := HA7.out.trans (by rw [HA6.out])
          clear hO6
          go_wp2_with fail
          rw [rounds_succ]
          go_wp2_with fail
          refine (laid4 hO7 s7 b7 (by have := HA7.out; omega)).mono ?_
          rintro e w17 ⟨v7', rfl, hO8, HA8⟩
          have HA8 : Hid ((_ : Bs).length = 32) := HA8.out.trans (by rw [HA7.out])
          clear hO7
          have hcs := conv_string (P := Tryz.prog) (src := 60) (dst := 9) u_bytes u_byte u_string (Sl.of_own hO8.1)
          go_wp2_with fail
          rw [rounds_succ]
          go_wp2_with fail
          refine bodyPost_ret (v := .string (mk _)) (by simp [results, Tryz.results86, go_sem]; rfl) rfl ⟨_, rfl, ?_, hO8.2⟩
          rw [← HL0.out, hab.out, absorb_lt (by decide)]
          simp [stateBytes]

theorem Sum_calls (v : Value) (l : Bs) (w : World) (h : Sl w 5 1 v l.length (l.map bv)) (hl : l.length ≤ 70368744177664) :
    Calls Tryz.prog 45 #[v] w fun e w' => e = .returned (.string (mk (sumF l))) ∧ Fr [] w w' := by
  obtain ⟨a, c, rfl, h2, h3⟩ := h.shape
  go_enter Tryz.func45, Tryz.ntmps45
  go_wp2_with fail
  refine (New_calls w).mono ?_
  rintro e w1 ⟨B, rfl, hB, hR, hF1⟩
  go_wp2_with fail
  refine (Add_calls B _ l w1 hR (h.fr0 hF1) hl).mono ?_
  rintro e w2 ⟨rfl, hF2, s, r, vr, hR2, hs2, hrl, hab, hrm⟩
  have HAB := Lib.hid hab
  have HRM := Lib.hid hrm
  clear hab hrm
  go_wp2_with fail
  refine (End_calls B s r vr l.length w2 hR2 hs2 HRM.out hl).mono ?_
  rintro e w3 ⟨o, rfl, ho, hF3⟩
  have HO := Lib.hid ho
  clear ho
  go_wp2_with fail
  refine bodyPost_ret (v := .string (mk o)) (by simp [results, Tryz.results45, go_sem]) rfl ⟨?_, ?_⟩
  · have e : o = sumF l := by
      rw [HO.out, sumF, padded]
      simp only [List.append_assoc]
      rw [HAB.out]
    rw [e]
  · exact (hF1.trans hF2 (by simp; omega)).trans0 hF3

end Go.Proofs.YtjelehcnpocnoaaGreatDoor
