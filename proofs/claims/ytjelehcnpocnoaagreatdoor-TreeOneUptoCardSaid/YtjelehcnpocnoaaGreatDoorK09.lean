/- Joined: Safe Safe2. -/
import Derived.Test.YtjelehcnpocnoaaGreatDoorK08
import Derived.Test.YtjelehcnpocnoaaGreatDoorK06
/- Layer 5, safe: what a Save must have free; the chunks. -/
namespace Go.Proofs.YtjelehcnpocnoaaGreatDoor
set_option linter.unusedSimpArgs false
set_option linter.unusedVariables false
set_option linter.unnecessarySimpa false
open Go.RowKit
set_option maxRecDepth 100000
set_option maxHeartbeats 4000000

theorem mk_app (a b : Bs) : mk a ++ mk b = mk (a ++ b) := by
  rw [← mk_bl (mk a ++ mk b)]
  congr 1
theorem mk_lit (a : Array UInt8) : (⟨a⟩ : ByteArray) = mk a.toList := by simp [mk]
theorem Need_calls (name : Bs) (n : Nat) (w : World) (h1 : name.length ≤ 1048576) (h2 : n ≤ 1152921504606846976) :
    Calls Tryz.prog 152 #[.string (mk name), .int .i64 n] w fun e w' => e = .returned (.int .i64 (17 + name.length + n : Nat)) ∧ w' = w := by
  have hz := mk_size name
  have hz2 : (mk name ++ mk [126]).size = name.length + 1 := by rw [mk_app, mk_size]; simp
  have hm : mk [126] = ⟨#[126]⟩ := rfl
  rw [hm] at hz2
  have e1 : IntKind.i64.wrap (16 + ((name.length + 1 : Nat) : Int)) = 16 + ((name.length + 1 : Nat) : Int) := by rw [IntKind.wrap_i64]; omega
  have e2 : IntKind.i64.wrap (16 + ((name.length + 1 : Nat) : Int) + n) = 16 + ((name.length + 1 : Nat) : Int) + n := by rw [IntKind.wrap_i64]; omega
  have e3 : max (n : Int) 0 = n := by omega
  go_enter Tryz.func152, Tryz.ntmps152
  go_wp2_with fail
  go_ret
  exact ⟨by rw [show ((17 + name.length + n : Nat) : Int) = 16 + ((name.length : Int) + 1) + n by omega]; rfl, rfl⟩
theorem chunks_calls (a : Option Addr) (n c : Nat) (w : World) :
    Calls Tryz.prog 153 #[.slice a n c] w fun e w' => e = .returned (.func (.func 215) #[] #[.pointer (some ⟨w.heap.size, 0, none⟩)]) ∧ w' = w.alloc (.cells #[.slice a n c] 60) := by
  go_enter Tryz.func153, Tryz.ntmps153
  go_wp2_with fail
  go_ret
  exact ⟨rfl, rfl⟩

/-- Rows of bytes, and one block more, are as they were. -/
def KeepC (c : Nat) (w w' : World) : Prop := (∀ k, IsRow w 5 k → w'.heap[k]? = w.heap[k]?) ∧ w'.heap[c]? = w.heap[c]?

open Go.Shelf in
attribute [local go_sem] Oper.semAt_some in
/-- The chunks, one by one: J is told of those that have come. -/
theorem chunks1_in (F : Fence) (n : Nat) (hF : F.fn 215) (hro : F.round = none) (hn : 1 ≤ n) (l c : Nat) (b : Bs) (hb : b.length ≤ 35184372080000) (J : List Bs → World → Prop)
    (hJ : ∀ ls W u, J ls W → J ls (W.setCell ⟨c, 0, none⟩ u))
    (hY : ∀ ls x W vx, J ls W → ls.length ≤ b.length → ls.flatten.length + x.length ≤ b.length → x.length ≤ 64 → Sl W 5 1 vx x.length (x.map bv) → YieldAt F (n - 1) Tryz.prog l #[vx] W fun e W' => e = .returned (.bool true) ∧ J (ls ++ [x]) W' ∧ KeepC c W W')
    (v0 : Value) (W : World) (c0 : W.cell? ⟨c, 0, none⟩ = some v0) (cf : W.frozen? ⟨c, 0, none⟩ = false) (crow : ∃ cs, W.heap[c]? = some (.cells cs 60 (0, 0))) (hs : Sl W 5 1 v0 b.length (b.map bv)) (h0 : J [] W) :
    CallsIn F n Tryz.prog 215 #[.func (.yield l) #[] #[], .pointer (some ⟨c, 0, none⟩)] W fun e W' => (∃ v, e = .returned v) ∧ ∃ ls, ls ≠ [] ∧ ls.flatten = b ∧ ls.length ≤ b.length + 1 ∧ J ls W' := by
  refine callsIn_of_wp Tryz.func215 rfl hF ?_ hro
  simp only [Tryz.ntmps215, List.size_toArray, List.length_cons, List.length_nil, Nat.reduceAdd, Nat.reduceSub, Array.replicate_succ, Array.replicate_zero, List.push_toArray, List.append_toArray, List.nil_append, List.cons_append]
  gi_wp2
  gi_loopw [3] (fun u wr => ∃ (fst : Bool) (ls : List Bs) (rest : Bs) (v : Value), u = .bool fst ∧ ls.flatten ++ rest = b ∧ ((fst = true ∧ ls = []) ∨ (fst = false ∧ ls ≠ [] ∧ ls.length ≤ ls.flatten.length + 1)) ∧ wr.cell? ⟨c, 0, none⟩ = some v ∧ wr.frozen? ⟨c, 0, none⟩ = false ∧ (∃ cs, wr.heap[c]? = some (.cells cs 60 (0, 0))) ∧ Sl wr 5 1 v rest.length (rest.map bv) ∧ J ls wr)
    (fun u wr => (match wr.cell? ⟨c, 0, none⟩ with | some v => lenV v | _ => 0) + (match u with | .bool true => 1 | _ => 0))
  case atStart => exact ⟨true, [], b, v0, rfl, rfl, .inl ⟨rfl, rfl⟩, c0, cf, crow, hs, h0⟩
  case round =>
    obtain ⟨fst, ls, rest, v, rfl, hpre, hfst, k0, kf, krow, hsl, hJs⟩ := hrel
    obtain ⟨ra, rc, rfl, h3, h4⟩ := hsl.shape
    have hlen : ls.flatten.length + rest.length = b.length := by rw [← hpre]; simp
    by_cases hgo : fst = true ∨ 0 < rest.length
    · obtain ⟨k, hk⟩ : ∃ k, min rest.length 64 = k := ⟨_, rfl⟩
      have hmin : min (rest.length : Int) 64 = (k : Int) := by omega
      obtain ⟨vc, hvc, hcut1⟩ := cut_to (P := Tryz.prog) u_bytes i_byte (by decide) hsl k (by omega) _ rfl
      obtain ⟨vd, hvd, hcut2⟩ := cut_from (P := Tryz.prog) u_bytes i_byte (by decide) hsl k (by omega) _ rfl
      simp only [Nat.mul_one] at hvc hvd
      rw [← List.map_take] at hvc
      rw [← List.map_drop] at hvd
      obtain ⟨x, hx⟩ : ∃ x, x = rest.take k := ⟨_, rfl⟩
      obtain ⟨r2, hr2⟩ : ∃ r2, r2 = rest.drop k := ⟨_, rfl⟩
      have hxr : x ++ r2 = rest := by rw [hx, hr2, List.take_append_drop]
      rw [← hx] at hvc
      rw [← hr2] at hvd
      have hxl : x.length = k := by rw [hx]; simp; omega
      have hrl : r2.length = rest.length - k := by rw [hr2]; simp
      rw [← hxl] at hvc
      rw [← hrl] at hvd
      have hll : ls.length ≤ b.length := by
        rcases hfst with ⟨_, rfl⟩ | ⟨h, _, h2⟩
        · simp
        · rcases hgo with hg | hg
          · rw [h] at hg; cases hg
          · omega
      obtain ⟨fn, tmps, assign, body, hy, hR⟩ := hY ls x wr vc hJs hll (by omega) (by omega) hvc
      have HFST := Lib.hid hfst
      have HPRE := Lib.hid hpre
      have HXR := Lib.hid hxr
      clear hfst hpre hx hr2 hxr
      have hgo2 : (fst = true ∧ (True)) ∨ (fst = false ∧ decide ((0 : Int) < rest.length) = true ∧ (0 : Int) < rest.length) := by
        cases fst
        · have h0 : 0 < rest.length := hgo.resolve_left (by simp)
          right; exact ⟨rfl, by simp; omega, by omega⟩
        · left; exact ⟨rfl, trivial⟩
      rcases hgo2 with ⟨rfl, _⟩ | ⟨rfl, q1, q2⟩
      all_goals
        gi_wp2
        refine hR.mono ?_
        rintro e W3 ⟨rfl, hJ3, hkp, hkc⟩
        have k3 : W3.cell? ⟨c, 0, none⟩ = some (.slice ra rest.length rc) := (World.cell?_of_block (w := wr) hkc).trans k0
        have kf3 : W3.frozen? ⟨c, 0, none⟩ = false := (World.frozen?_of_block (w := wr) hkc).trans kf
        have krow3 : ∃ cs, W3.heap[c]? = some (.cells cs 60 (0, 0)) := by obtain ⟨cs, h⟩ := krow; exact ⟨cs, hkc.trans h⟩
        have hFF : Fr [c] W3 (W3.setCell ⟨c, 0, none⟩ vd) := (Fr.refl _ _).setCell (.inl (by simp)) _
        have hoff : Off [c] W3 5 := by
          intro y hy ⟨cs, fr, hc⟩
          obtain rfl : y = c := by simpa using hy
          obtain ⟨cs', h'⟩ := krow3
          rw [h'] at hc
          simp at hc
        have hvd3 : Sl (W3.setCell ⟨c, 0, none⟩ vd) 5 1 vd r2.length (r2.map bv) := by
          refine Sl.fr ?_ hFF hoff
          obtain ⟨y1, a', c', rfl, y2, y3, y4, y5⟩ := hvd
          refine ⟨y1, a', c', rfl, y2, y3, y4, fun hn => ?_⟩
          obtain ⟨b', o', cs, fr, rfl, hb', hc'⟩ := y5 hn
          exact ⟨b', o', cs, fr, rfl, (hkp b' ⟨cs, fr, hb'⟩).trans hb', hc'⟩
        have hJ4 := hJ _ _ vd hJ3
        obtain ⟨da, dc, rfl, h5, h6⟩ := hvd.shape
        have HK := Lib.hid k0
        gi_wp2
        rw [← hrl]
        have hkn : k ≤ 64 := by omega
        have hls : (ls ++ [x]).flatten = ls.flatten ++ x := by simp
        have hpre2 : (ls ++ [x]).flatten ++ r2 = b := by rw [hls, List.append_assoc, HXR.out, HPRE.out]
        refine ⟨⟨false, ls ++ [x], r2, _, rfl, hpre2, .inr ⟨rfl, by simp, ?_⟩, World.cell?_setCell_same' _ _ _ (by rw [k3]; rfl), by rw [World.frozen?_setCell]; exact kf3, row_set krow3 0 _, hvd3, hJ4⟩, ?_⟩
        · rw [hls, List.length_append, List.length_append]
          rcases HFST.out with ⟨_, rfl⟩ | ⟨h, h2, h3⟩
          · simp
          · first
              | (cases h; done)
              | (simp only [List.length_cons, List.length_nil]; omega)
        · rw [World.cell?_setCell_same' _ _ _ (by rw [k3]; rfl), HK.out]
          simp only [lenV]
          omega
    · have hf0 : fst = false := by simpa using fun h => hgo (.inl h)
      have hr0 : rest = [] := List.eq_nil_of_length_eq_zero (by have := fun h => hgo (.inr h); omega)
      subst hf0 hr0
      have hls : ls ≠ [] := by
        rcases hfst with ⟨h, _⟩ | ⟨_, h, _⟩
        · cases h
        · exact h
      have hlb : ls.length ≤ b.length + 1 := by
        rcases hfst with ⟨h, _⟩ | ⟨_, _, h⟩
        · cases h
        · simp only [List.length_nil, Nat.add_zero] at hlen; omega
      have hfl : ls.flatten = b := by simpa using hpre
      have HLS := Lib.hid hls
      have HFL := Lib.hid hfl
      clear hls hfl hpre hfst
      gi_wp2
      go_end0
      exact ⟨⟨_, rfl⟩, ls, HLS.out, HFL.out, hlb, hJs⟩
end Go.Proofs.YtjelehcnpocnoaaGreatDoor
/- Layer 5, safe: Save, where there is room and the power stays. -/
namespace Go.Proofs.YtjelehcnpocnoaaGreatDoor
set_option linter.unusedSimpArgs false
set_option linter.unusedVariables false
set_option linter.unnecessarySimpa false
open Go.RowKit
set_option maxRecDepth 100000
set_option maxHeartbeats 4000000

/-- The disk when chunks have been laid. -/
def stepDk (d : Dk) (s : Bs) (ls : List Bs) : Dk := if ls = [] then d else { d with files := updF d.files s (some ls.flatten), free := d.free - (16 + s.length : Nat) - (ls.flatten.length : Nat), puts := d.puts + ls.length }
theorem stepDk_off (d : Dk) (s : Bs) (ls : List Bs) : (stepDk d s ls).off = d.off := by unfold stepDk; split <;> rfl
theorem stepDk_left (d : Dk) (s : Bs) (ls : List Bs) : (stepDk d s ls).left = d.left := by unfold stepDk; split <;> rfl
theorem stepDk_old (d : Dk) (s : Bs) (ls : List Bs) (h : d.files s = none) : oldOf (stepDk d s ls) s = ls.flatten := by
  unfold stepDk oldOf
  split
  · rename_i h'; rw [h, h']; rfl
  · simp [updF]
theorem stepDk_more (d : Dk) (s : Bs) (ls : List Bs) (c : Bs) (h : d.files s = none) : moreOf (stepDk d s ls) s c = c.length + (if ls = [] then 16 + s.length else 0) := by
  unfold stepDk moreOf
  split
  · rename_i h'; simp [h]
  · simp [updF]
theorem updF_updF (f : Bs → Option Bs) (s : Bs) (a b : Option Bs) : updF (updF f s a) s b = updF f s b := by
  funext x; unfold updF; split <;> rfl
theorem stepDk_next (d : Dk) (s : Bs) (ls : List Bs) (c : Bs) (h : d.files s = none) (hl : d.left = -1) :
    { spent (stepDk d s ls) (moreOf (stepDk d s ls) s c) with files := updF (stepDk d s ls).files s (some (oldOf (stepDk d s ls) s ++ c)), puts := (stepDk d s ls).puts + 1 } = stepDk d s (ls ++ [c]) := by
  rw [stepDk_more d s ls c h, stepDk_old d s ls h]
  unfold spent
  by_cases h0 : ls = []
  · subst h0
    simp [stepDk, hl]
    omega
  · simp [stepDk, h0, hl, updF_updF]
    omega
theorem append_room (d : Dk) (s : Bs) (ls : List Bs) (x : Bs) (tot : Nat) (h : d.files s = none) (hf : ((16 + s.length + tot : Nat) : Int) ≤ d.free) (hx : ls.flatten.length + x.length ≤ tot) : ¬ (0 < (moreOf (stepDk d s ls) s x : Int) ∧ (stepDk d s ls).free < (moreOf (stepDk d s ls) s x : Int)) := by
  rw [stepDk_more d s ls x h]
  unfold stepDk
  by_cases h0 : ls = []
  · subst h0
    simp at hx ⊢
    omega
  · simp only [h0, if_false]
    omega
theorem stepDk_sane (d : Dk) (s : Bs) (ls : List Bs) (tot : Nat) (hS : Sane d) (hf : ((16 + s.length + tot : Nat) : Int) ≤ d.free) (hx : ls.flatten.length ≤ tot) (hl : ls.length ≤ tot + 1) (hp : d.puts ≤ 1000000000000) (ht : tot ≤ 1000000000) : Sane (stepDk d s ls) := by
  have h2 := hS.f2
  have h3 := hS.l1
  have h4 := hS.l2
  have h5 := hS.n
  unfold stepDk
  split
  · exact hS
  · refine ⟨?_, ?_, h3, h4, ?_⟩ <;> simp only <;> omega
theorem frozen_fresh (w : World) (c : Array Value) (t : TypeId) (j : Nat) : (w.alloc (.cells c t)).frozen? ⟨w.heap.size, j, none⟩ = false := by
  simp only [World.frozen?, heap_alloc_new]; simp

open Go.Shelf in
attribute [local go_sem] Oper.semAt_some in
theorem Save_calls (p mb : Nat) (d : Dk) (name b : Bs) (vb : Value) (w : World) (hd : DiskAt w p mb d) (hS : Sane d) (hv : Sl w 5 1 vb b.length (b.map bv)) (hb : b.length ≤ 1000000000) (hn : nameOk (name ++ [126]) = true) (hn0 : name ≠ []) (hlast : Lib.hasSuffix name [126] = false)
    (hoff : d.off = false) (hleft : d.left = -1) (hsh : d.files (name ++ [126]) = none) (hnew : d.files name = none) (hfree : ((17 + name.length + b.length : Nat) : Int) ≤ d.free) (hputs : d.puts ≤ 1000000000000) :
    Calls Tryz.prog 91 #[.pointer (some ⟨p, 0, none⟩), .string (mk name), vb] w fun e w' => e = .returned (.int .i64 0) ∧ ∃ k, k ≤ b.length + 2 ∧ DiskAt w' p mb { d with files := updF d.files name (some b), free := d.free - (16 + name.length + b.length : Nat), puts := d.puts + k } ∧ Fr [p, mb] w w' := by
  obtain ⟨a, c, rfl, h3, h4⟩ := hv.shape
  have hnl := ((nameOk_iff _).1 hn).2.1
  have hnl2 : (name ++ [126]).length = name.length + 1 := by simp
  have hz := mk_size name
  obtain ⟨sh, hshd⟩ : ∃ sh, name ++ [126] = sh := ⟨_, rfl⟩
  rw [hshd] at hn hsh hnl hnl2
  have happ : mk name ++ ⟨#[126]⟩ = mk sh := by rw [← hshd]; exact mk_app name [126]
  have q1 := mk_toList name
  have q2 : (⟨#[]⟩ : ByteArray).toList = [] := mk_toList []
  have hneq : (name == []) = false := by simpa using hn0
  have hsuf : Lib.hasSuffix (mk name).data.toList (⟨#[126]⟩ : ByteArray).data.toList = false := by simpa [mk] using hlast
  have HN := Lib.hid hn
  have HS := Lib.hid hsh
  have HE := Lib.hid hnew
  have HO := Lib.hid hoff
  have HL := Lib.hid hleft
  clear hn hsh hnew hoff hleft
  refine (callsIn_wide (n := 10)).1 (callsIn_of_wp_marks Tryz.func91 rfl trivial ?_ rfl)
  simp only [Tryz.ntmps91, List.size_toArray, List.length_cons, List.length_nil, Nat.reduceAdd, Nat.reduceSub, Array.replicate_succ, Array.replicate_zero, List.push_toArray, List.append_toArray, List.nil_append, List.cons_append]
  gi_wp2_with fail
  obtain ⟨WA, hWA⟩ : ∃ WA, ((w.alloc (.cells #[.pointer (some ⟨p, 0, none⟩)] 45)).alloc (.cells #[.int .i64 0] 28)).alloc (.cells #[.string (mk sh)] 9) = WA := ⟨_, rfl⟩
  rw [hWA]
  have hFA : Fr [] w WA := by rw [← hWA]; exact (((Fr.refl _ _).alloc _).alloc _).alloc _
  have ka : WA.cell? ⟨w.heap.size, 0, none⟩ = some (.pointer (some ⟨p, 0, none⟩)) := by rw [← hWA]; exact (((Fr.refl [] _).alloc _).alloc _).cell (World.cell?_alloc_new w #[_] _ 0) (by simp)
  have k6 : WA.cell? ⟨w.heap.size + 1, 0, none⟩ = some (.int .i64 0) := by
    have h := World.cell?_alloc_new (w.alloc (.cells #[.pointer (some ⟨p, 0, none⟩)] 45)) #[.int .i64 0] 28 0
    rw [World.size_alloc] at h
    rw [← hWA]; exact ((Fr.refl [] _).alloc _).cell h (by simp)
  have f6 : WA.frozen? ⟨w.heap.size + 1, 0, none⟩ = false := by
    rw [← hWA]
    refine (World.frozen?_of_block (w := (w.alloc (.cells #[.pointer (some ⟨p, 0, none⟩)] 45)).alloc (.cells #[.int .i64 0] 28)) (Below.heap_alloc _ _ _ (by simp))).trans ?_
    have h := frozen_fresh (w.alloc (.cells #[.pointer (some ⟨p, 0, none⟩)] 45)) #[.int .i64 0] 28 0
    rw [World.size_alloc] at h
    exact h
  have k7 : WA.cell? ⟨w.heap.size + 1 + 1, 0, none⟩ = some (.string (mk sh)) := by
    have h := World.cell?_alloc_new ((w.alloc (.cells #[.pointer (some ⟨p, 0, none⟩)] 45)).alloc (.cells #[.int .i64 0] 28)) #[.string (mk sh)] 9 0
    rw [World.size_alloc, World.size_alloc] at h
    rw [← hWA]; exact h
  have hr6 : WA.heap[w.heap.size + 1]? = some (.cells #[.int .i64 0] 28 (0, 0)) := by
    have h := heap_alloc_new (w.alloc (.cells #[.pointer (some ⟨p, 0, none⟩)] 45)) (.cells #[.int .i64 0] 28 (0, 0))
    rw [World.size_alloc] at h
    rw [← hWA]; exact ((Fr.refl [] _).alloc _).block h (by simp)
  have hsA : WA.heap.size = w.heap.size + 3 := by rw [← hWA]; simp
  have hdA := hd.fr0 hFA
  refine ⟨trivial, (callsIn_wide.2 (Read_calls p mb d sh WA hdA (by omega))).mono ?_⟩
  rintro e w1 ⟨vr, er, rfl, hF1, _, hr⟩
  have hr2 := hr HN.out
  rw [HS.out] at hr2
  obtain ⟨rfl, rfl⟩ := hr2
  have hd1 := hdA.fr0 hF1
  have k6_1 := hF1.cell k6 (by simp)
  have k7_1 := hF1.cell k7 (by simp)
  have ka_1 := hF1.cell ka (by simp)
  clear hr
  gi_wp2_with fail
  refine ⟨trivial, (callsIn_wide.2 (Tryz.strings_HasSuffix (mk name) ⟨#[126]⟩ w1 (by rw [hz]; omega))).mono ?_⟩
  rintro e w2 ⟨rfl, rfl⟩
  rw [hsuf]
  gi_wp2_with fail
  refine ⟨trivial, (callsIn_wide.2 (Off_calls p mb d w2 hd1)).mono ?_⟩
  rintro e w3 ⟨rfl, rfl⟩
  rw [HO.out]
  gi_wp2_with fail
  refine ⟨trivial, (callsIn_wide.2 (Has_calls p mb d sh w3 hd1 (by omega))).mono ?_⟩
  rintro e w4 ⟨rfl, rfl⟩
  rw [HS.out]
  gi_wp2_with fail
  refine ⟨trivial, (callsIn_wide.2 (Free_calls p mb d w4 hd1)).mono ?_⟩
  rintro e w5 ⟨rfl, rfl⟩
  gi_wp2_with fail
  refine ⟨trivial, (callsIn_wide.2 (Need_calls name b.length w5 (by omega) (by omega))).mono ?_⟩
  rintro e w6 ⟨rfl, rfl⟩
  have b1 : decide (d.free < ((17 + name.length + b.length : Nat) : Int)) = false := by simp only [decide_eq_false_iff_not, Int.not_lt]; exact hfree
  have hd6 := hd1
  generalize hnd : 17 + name.length + b.length = need at *
  gi_wp2_with fail
  refine ⟨trivial, (callsIn_wide.2 (chunks_calls a b.length c w6)).mono ?_⟩
  rintro e w7 ⟨rfl, hw7⟩
  have hF7 : Fr [] w6 w7 := by rw [hw7]; exact (Fr.refl _ _).alloc _
  have hs7 : w7.heap.size = w6.heap.size + 1 := by rw [hw7]; simp
  have kc : w7.cell? ⟨w6.heap.size, 0, none⟩ = some (.slice a b.length c) := by rw [hw7]; exact World.cell?_alloc_new _ #[_] _ 0
  have kcf : w7.frozen? ⟨w6.heap.size, 0, none⟩ = false := by rw [hw7]; exact frozen_fresh _ _ _ _
  have kcr : w7.heap[w6.heap.size]? = some (.cells #[.slice a b.length c] 60 (0, 0)) := by rw [hw7]; exact heap_alloc_new _ _
  have hd7 := hd6.fr0 hF7
  have hv7 : Sl w7 5 1 (.slice a b.length c) b.length (b.map bv) := hv.fr0 ((hFA.trans0 hF1).trans0 hF7)
  have hF17 : Fr [] WA w7 := hF1.trans0 hF7
  have hp6 : p < w6.heap.size := hd6.lt
  have hm6 : mb < w6.heap.size := hd6.mlt
  have hpw := hd.lt
  have hmw := hd.mlt
  have hsz6 : w.heap.size + 3 ≤ w6.heap.size := by have := hF1.size; omega
  obtain ⟨c7, hc7⟩ : ∃ c7, w6.heap.size = c7 := ⟨_, rfl⟩
  rw [hc7] at kc kcf kcr hs7 hsz6 hp6 hm6 ⊢
  clear hw7 hWA
  gi_wp2_with fail
  refine wpIn_rangeF rfl (by decide) (gf := 215) (lb := #[.pointer (some ⟨c7, 0, none⟩)]) rfl trivial (enters_of Tryz.func215 (by kernel_rfl) rfl) ?_
  intro fn REC _ hREC
  obtain ⟨D, hD⟩ : ∃ D, w7.heap.size = D := ⟨_, rfl⟩
  rw [hD] at hREC hs7 ⊢
  have hs7' : c7 < D := by omega
  clear hs7
  have hW1 : Fr [] w7 ((w7.alloc (.deferred (some []))).alloc (REC .ready)) := ((Fr.refl _ _).alloc _).alloc _
  have r0 : ((w7.alloc (.deferred (some []))).alloc (REC .ready)).heap[D + 1]? = some (REC .ready) := by
    have := heap_alloc_new (w7.alloc (.deferred (some []))) (REC .ready)
    rwa [World.size_alloc, hD] at this
  have r1 : ((w7.alloc (.deferred (some []))).alloc (REC .ready)).heap[D]? = some (.deferred (some [])) := by
    have := heap_alloc_new w7 (.deferred (some []))
    rw [hD] at this
    exact (Below.heap_alloc _ _ _ (by simp; omega)).trans this
  have kc1 := hW1.cell kc (by simp)
  have kcf1 : ((w7.alloc (.deferred (some []))).alloc (REC .ready)).frozen? ⟨c7, 0, none⟩ = false := (World.frozen?_of_block (w := w7) (hW1.blk c7 (by omega) (by simp))).trans kcf
  have kcr1 := hW1.block kcr (by simp)
  have hd8 := hd7.fr0 hW1
  have hv8 := hv7.fr0 hW1
  refine (chunks1_in Fence.wide _ trivial rfl (by decide) (D + 1) c7 b (by omega)
    (fun ls W => DiskAt W p mb (stepDk d sh ls) ∧ Fr [p, mb, c7] w7 W ∧ (∃ cs, W.heap[c7]? = some (.cells cs 60 (0, 0))) ∧ W.heap[D + 1]? = some (REC .ready) ∧ W.heap[D]? = some (.deferred (some [])))
    ?hJ ?hY (.slice a b.length c) _ kc1 kcf1 ⟨_, kcr1⟩ hv8 ⟨by simpa [stepDk] using hd8, hW1.weaken (by simp), ⟨_, kcr1⟩, r0, r1⟩).mono ?_
  case hJ =>
    rintro ls W u ⟨j1, j2, ⟨cs, j3⟩, j4, j5⟩
    have hFF : Fr [c7] W (W.setCell ⟨c7, 0, none⟩ u) := (Fr.refl _ _).setCell (.inl (by simp)) _
    refine ⟨j1.fr hFF (by simp; omega) (by simp; omega) ?_, j2.setCell (.inl (by simp)) _, row_set ⟨cs, j3⟩ 0 u, hFF.block j4 (by simp; omega), hFF.block j5 (by simp; omega)⟩
    intro y hy ⟨cs', fr, hc⟩
    obtain rfl : y = c7 := by simpa using hy
    rw [j3] at hc
    simp at hc
  case hY =>
    rintro ls x W vx ⟨j1, j2, j3, j4, j5⟩ hll hlx hx64 hvx
    obtain ⟨xa, xc, rfl, hx3, hx4⟩ := hvx.shape
    refine yield_on hREC j4 rfl trivial ?_
    have hoffl : Off [D + 1] W 5 := off_cons j4 (by rw [hREC]; intros; simp [loopRec]) (off_nil _ _)
    have HREC := Lib.hid hREC
    clear hREC
    obtain ⟨W2, hW2⟩ : ∃ W2, W.putObj (D + 1) (REC .busy) = W2 := ⟨_, rfl⟩
    have hFb : Fr [D + 1] W W2 := by rw [← hW2]; exact (Fr.refl _ _).putObj _ (.inl (by simp))
    have hlW : D + 1 < W.heap.size := (Array.getElem?_eq_some_iff.1 j4).1
    have l2 : W2.heap[D + 1]? = some (REC .busy) := by rw [← hW2]; exact World.putObj_heap_same hlW
    have hd2 : DiskAt W2 p mb (stepDk d sh ls) := j1.fr hFb (by simp; omega) (by simp; omega) hoffl
    have hvx2 := hvx.fr hFb hoffl
    have hF72 : Fr [p, mb, c7] w7 W2 := j2.trans (hFb.weaken (by simp)) (G := [D + 1]) (by simp; omega)
    have ka2 : W2.cell? ⟨w.heap.size, 0, none⟩ = some (.pointer (some ⟨p, 0, none⟩)) := hF72.cell (hF7.cell ka_1 (by simp)) (by simp; omega)
    have k72 : W2.cell? ⟨w.heap.size + 1 + 1, 0, none⟩ = some (.string (mk sh)) := hF72.cell (hF7.cell k7_1 (by simp)) (by simp; omega)
    gi_wp2_with fail
    refine ⟨j4, ?_⟩
    rw [hW2]
    have hfl1 : ls.flatten.length ≤ b.length := by omega
    have hroom := append_room d sh ls x b.length HS.out (by omega) hlx
    have HSane := Lib.hid (stepDk_sane d sh ls b.length hS (by omega) hfl1 (by omega) hputs hb)
    have HAp := Lib.hid (Append_calls p mb (stepDk d sh ls) W2 hd2 HSane.out sh x _ hvx2 hx64 HN.out ((stepDk_off d sh ls).trans HO.out) (by rw [stepDk_old d sh ls HS.out]; omega))
    rw [stepDk_next d sh ls x HS.out HL.out] at HAp
    have HR := Lib.hid hroom
    clear hroom
    gi_wp2_with fail
    refine ⟨trivial, (CallsIn.inRound _ (callsIn_wide.2 HAp.out)).mono ?_⟩
    rintro e W3 hw3
    have hw4 := hw3.resolve_left (fun h => HR.out ⟨h.1, h.2.1⟩)
    have hw5 := hw4.resolve_left (fun h => by have := h.2.1; rw [stepDk_left, HL.out] at this; omega)
    obtain ⟨_, _, rfl, hd3, hF3⟩ := hw5
    clear hw3 hw4 HAp HR
    gi_wp2_with fail
    have l3 : W3.heap[D + 1]? = some (REC .busy) := hF3.block l2 (by simp; omega)
    have hFc : Fr [D + 1] W3 (W3.putObj (D + 1) (REC .ready)) := (Fr.refl _ _).putObj _ (.inl (by simp))
    have hoff3 : Off [D + 1] W3 5 := off_cons l3 (by rw [HREC.out]; intros; simp [loopRec]) (off_nil _ _)
    have hF73 : Fr [p, mb, c7] w7 (W3.putObj (D + 1) (REC .ready)) := (hF72.trans hF3 (by simp)).trans hFc (by simp; omega)
    have hFW3 : Fr [D + 1, p, mb] W (W3.putObj (D + 1) (REC .ready)) := ((hFb.weaken (by simp)).trans hF3 (by simp)).trans hFc (by simp)
    obtain ⟨cs, hcs⟩ := j3
    refine ⟨l3, ⟨hd3.fr hFc (by simp; omega) (by simp; omega) hoff3, hF73, ⟨cs, hFW3.block hcs (by simp; omega)⟩, World.putObj_heap_same (Array.getElem?_eq_some_iff.1 l3).1, hFW3.block j5 (by simp; omega)⟩, fun k hk => ?_, hFW3.blk c7 (Array.getElem?_eq_some_iff.1 hcs).1 (by simp; omega)⟩
    refine hFW3.blk k (by obtain ⟨cs, fr, h⟩ := hk; exact (Array.getElem?_eq_some_iff.1 h).1) (fun hx => ?_)
    rcases List.mem_cons.1 hx with rfl | hx
    · exact hoffl _ (by simp) hk
    · exact j1.off_ _ (by decide) k hx hk
  · rintro e W' ⟨⟨v, rfl⟩, ls, hls, hfl, hlen, j1, j2, j3, j4, j5⟩
    have hoffl : Off [D + 1] W' 5 := off_cons j4 (by rw [hREC]; intros; simp [loopRec]) (off_nil _ _)
    have HREC := Lib.hid hREC
    clear hREC
    refine ⟨⟨v, rfl⟩, j4, ?_⟩
    obtain ⟨W2, hW2⟩ : ∃ W2, W'.putObj (D + 1) (REC .exhausted) = W2 := ⟨_, rfl⟩
    have hFb : Fr [D + 1] W' W2 := by rw [← hW2]; exact (Fr.refl _ _).putObj _ (.inl (by simp))
    have hd2 : DiskAt W2 p mb (stepDk d sh ls) := j1.fr hFb (by simp; omega) (by simp; omega) hoffl
    have hF72 : Fr [p, mb, c7] w7 W2 := j2.trans (hFb.weaken (by simp)) (G := [D + 1]) (by simp; omega)
    have ka2 : W2.cell? ⟨w.heap.size, 0, none⟩ = some (.pointer (some ⟨p, 0, none⟩)) := hF72.cell (hF7.cell ka_1 (by simp)) (by simp; omega)
    have k72 : W2.cell? ⟨w.heap.size + 1 + 1, 0, none⟩ = some (.string (mk sh)) := hF72.cell (hF7.cell k7_1 (by simp)) (by simp; omega)
    rw [hW2]
    have hls0 : ls.length ≤ b.length + 1 := hlen
    have HSane := Lib.hid (stepDk_sane d sh ls b.length hS (by omega) (by rw [hfl]; exact Nat.le_refl _) hls0 hputs hb)
    have hfs : (stepDk d sh ls).files sh = some b := by simp [stepDk, hls, updF, hfl]
    have HFS := Lib.hid hfs
    clear hfs
    gi_wp2_with fail
    refine ⟨trivial, (callsIn_wide.2 (Sync_calls p mb (stepDk d sh ls) W2 hd2 HSane.out sh HN.out ((stepDk_off d sh ls).trans HO.out) (by rw [HFS.out]; rfl))).mono ?_⟩
    rintro e W3 hw3
    have hw4 := hw3.resolve_left (fun h => by have := h.1; omega)
    have hw5 := hw4.resolve_left (fun h => by have := h.2.1; rw [stepDk_left, HL.out] at this; omega)
    obtain ⟨_, _, rfl, hd3, hF3⟩ := hw5
    clear hw3 hw4
    have hne : sh ≠ name := fun h => by have := congrArg List.length h; omega
    have hnn : nameOk name = true := by
      have h1 := (nameOk_iff sh).1 HN.out
      refine (nameOk_iff name).2 ⟨?_, by omega, fun hx => h1.2.2 (by rw [← hshd]; simp [hx])⟩
      rcases Nat.eq_zero_or_pos name.length with h | h
      · exact absurd (List.eq_nil_of_length_eq_zero h) hn0
      · exact h
    have HNN := Lib.hid hnn
    have HNE := Lib.hid hne
    clear hne hnn
    have hd2l : (spent (stepDk d sh ls) 0).left = -1 := by simp only [spent, stepDk_left]; rw [HL.out]; simp
    have HL2 := Lib.hid hd2l
    have hd2n : (spent (stepDk d sh ls) 0).files name = none := by simp [spent, stepDk, hls, updF, Ne.symm HNE.out, HE.out]
    have HN2 := Lib.hid hd2n
    have hmr : renameMore (spent (stepDk d sh ls) 0) sh name = -1 := by
      unfold renameMore costOf
      rw [hd2n]
      simp only
      omega
    have hsp : Sane (spent (stepDk d sh ls) 0) := by
      have h := HSane.out
      exact ⟨by have := h.f1; simp only [spent]; omega, by have := h.f2; simp only [spent]; omega, by rw [hd2l]; omega, by rw [hd2l]; omega, h.n⟩
    have HRn := Lib.hid (Rename_calls p mb (spent (stepDk d sh ls) 0) W3 hd3 hsp sh name b HN.out HNN.out HNE.out ((stepDk_off d sh ls).trans HO.out) HFS.out)
    rw [hmr] at HRn
    have hfin : { spent (spent (stepDk d sh ls) 0) (-1) with files := updF (updF (spent (stepDk d sh ls) 0).files sh none) name (some b), puts := (spent (stepDk d sh ls) 0).puts + 1 } = { d with files := updF d.files name (some b), free := d.free - (16 + name.length + b.length : Nat), puts := d.puts + (ls.length + 1) } := by
      have e1 : updF (updF (spent (stepDk d sh ls) 0).files sh none) name (some b) = updF d.files name (some b) := by
        funext x
        simp only [spent, stepDk, hls, if_false, updF]
        split
        · rfl
        · split
          · rename_i h; rw [h, HS.out]
          · rfl
      rw [e1]
      have hL := HL.out
      simp only [spent, stepDk, hls, if_false, hfl, Dk.mk.injEq, true_and]
      refine ⟨by omega, ?_, by omega⟩
      rw [hL]
      simp
    have HFIN := Lib.hid hfin
    clear hfin hmr hd2l hd2n
    have ka3 := hF3.cell ka2 (by simp; omega)
    have k73 := hF3.cell k72 (by simp; omega)
    gi_wp2_with fail
    refine ⟨trivial, (callsIn_wide.2 HRn.out).mono ?_⟩
    rintro e W4 hw3
    have hw4 := hw3.resolve_left (fun h => by have := h.1; omega)
    have hw5 := hw4.resolve_left (fun h => by have := h.2.1; rw [HL2.out] at this; omega)
    obtain ⟨_, _, rfl, hd4, hF4⟩ := hw5
    rw [HFIN.out] at hd4
    clear hw3 hw4 HRn HFIN
    have hF74 : Fr [p, mb, c7] w7 W4 := (hF72.trans hF3 (by simp)).trans hF4 (by simp)
    have k64 : W4.cell? ⟨w.heap.size + 1, 0, none⟩ = some (.int .i64 0) := hF74.cell (hF7.cell k6_1 (by simp)) (by simp; omega)
    have f64 : W4.frozen? ⟨w.heap.size + 1, 0, none⟩ = false := (World.frozen?_of_block (w := WA) (((hF17.weaken (G := [p, mb, c7]) (by simp)).trans hF74 (fun x hx => .inl hx)).blk _ (by rw [hsA]; simp only; omega) (by simp; omega))).trans f6
    have r4 : W4.heap[D]? = some (.deferred (some [])) := hF4.block (hF3.block (hFb.block j5 (by simp)) (by simp; omega)) (by simp; omega)
    gi_wp2_with fail
    have hoffD : Off [w.heap.size + 1, D] W4 5 := by
      intro y hy
      simp only [List.mem_cons, List.not_mem_nil, or_false] at hy
      rintro ⟨cs, fr, h⟩
      rcases hy with rfl | rfl
      · have h6 : W4.heap[w.heap.size + 1]? = some (.cells #[.int .i64 0] 28 (0, 0)) := (hF74.block (hF17.block hr6 (by simp)) (by simp; omega))
        rw [h6] at h
        simp at h
      · rw [r4] at h
        cases h
    have hFe : Fr [w.heap.size + 1, D] W4 ((W4.setCell ⟨w.heap.size + 1, 0, none⟩ (.int .i64 0)).putObj D (.deferred none)) := ((Fr.refl _ _).setCell (.inl (by simp)) _).putObj _ (.inl (by simp))
    have hK : (W4.setCell ⟨w.heap.size + 1, 0, none⟩ (.int .i64 0)).heap[D]? = some (.deferred (some [])) := ((Fr.refl [w.heap.size + 1] W4).setCell (.inl (by simp)) _).block r4 (by simp; omega)
    refine ⟨by simp, .inl ⟨_, _, rfl, run_takeDeferred hK, ?_⟩⟩
    have k6e : ((W4.setCell ⟨w.heap.size + 1, 0, none⟩ (.int .i64 0)).putObj D (.deferred none)).cell? ⟨w.heap.size + 1, 0, none⟩ = some (.int .i64 0) := ((Fr.refl [D] (W4.setCell ⟨w.heap.size + 1, 0, none⟩ (.int .i64 0))).putObj (.deferred none) (.inl (by simp))).cell (cell_set_same _ _ _ _ _ k64) (by simp; omega)
    refine ⟨.int .i64 0, ?_, ?_⟩
    · simp [results, Tryz.results91, go_sem, k6e]
    · have h1 : Fr [p, mb, c7] w W4 := (((hFA.trans0 hF1).trans0 hF7).weaken (G := [p, mb, c7]) (by simp)).trans hF74 (fun x hx => .inl hx)
      refine ⟨rfl, ls.length + 1, by omega, hd4.fr hFe (by simp; omega) (by simp; omega) hoffD, (h1.trans hFe (fun x hx => .inr ?_)).weaken (fun x hx => ?_)⟩
      · simp at hx
        rcases hx with rfl | rfl <;> omega
      · simp at hx
        rcases hx with rfl | rfl | rfl
        · simp
        · simp
        · right; omega
end Go.Proofs.YtjelehcnpocnoaaGreatDoor
