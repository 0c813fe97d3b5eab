/- Joined: Read Read2 Read3 Obj3 Obj4 Obj5 Obj6. -/
import Derived.Test.YtjelehcnpocnoaaGreatDoorK06
import Derived.Test.YtjelehcnpocnoaaGreatDoorK14
import Derived.Test.YtjelehcnpocnoaaGreatDoorK01
import Derived.Test.YtjelehcnpocnoaaGreatDoorK03
/- Layer 6, objects: the reader, on bytes that are right. -/
namespace Go.Proofs.YtjelehcnpocnoaaGreatDoor
set_option linter.unusedSimpArgs false
set_option linter.unusedVariables false
set_option linter.unnecessarySimpa false
open Go.RowKit
set_option maxRecDepth 100000
set_option maxHeartbeats 4000000

/-- The reader in memory, with what is left. -/
structure RdAt (w : World) (B : Nat) (vb : Value) (r : Bs) : Prop where
  c0 : w.cell? ⟨B, 0, none⟩ = some vb
  c1 : w.cell? ⟨B, 1, none⟩ = some (.int .i64 0)
  free : ∀ o, w.frozen? ⟨B, o, none⟩ = false
  row : ∃ cs, w.heap[B]? = some (.cells cs 167 (0, 0))
  sb : Sl w 5 1 vb r.length (r.map bv)
theorem RdAt.lt {w : World} {B : Nat} {vb : Value} {r : Bs} (h : RdAt w B vb r) : B < w.heap.size := by
  obtain ⟨cs, h⟩ := h.row
  exact (Array.getElem?_eq_some_iff.1 h).1
theorem off_row {w : World} {b : Nat} {e e' : TypeId} {fr : Nat × Nat} (h : ∃ cs, w.heap[b]? = some (.cells cs e fr)) (he : e' ≠ e) : Off [b] w e' := by
  intro x hx
  obtain rfl : x = b := by simpa using hx
  rintro ⟨cs', fr', h'⟩
  obtain ⟨cs, h⟩ := h
  rw [h] at h'
  cases h'
  exact he rfl
theorem RdAt.off {w : World} {B : Nat} {vb : Value} {r : Bs} (h : RdAt w B vb r) (e : TypeId) (he : e ≠ 167) : Off [B] w e := off_row h.row he
theorem RdAt.fr {w w' : World} {B : Nat} {vb : Value} {r : Bs} (h : RdAt w B vb r) {F : List Nat} (hF : Fr F w w') (hB : B ∉ F) (ho : Off F w 5) : RdAt w' B vb r := by
  have hb := hF.blk B h.lt hB
  obtain ⟨cs, hr⟩ := h.row
  exact ⟨hF.cell h.c0 hB, hF.cell h.c1 hB, fun o => (World.frozen?_of_block (w := w) hb).trans (h.free o), ⟨cs, hb.trans hr⟩, h.sb.fr hF ho⟩
theorem RdAt.fr0 {w w' : World} {B : Nat} {vb : Value} {r : Bs} (h : RdAt w B vb r) (hF : Fr [] w w') : RdAt w' B vb r := h.fr hF (by simp) (off_nil _ _)
/-- The rest is set. -/
theorem RdAt.set {w : World} {B : Nat} {vb : Value} {r : Bs} (h : RdAt w B vb r) (v : Value) (r' : Bs) (hv : Sl w 5 1 v r'.length (r'.map bv)) : RdAt (w.setCell ⟨B, 0, none⟩ v) B v r' ∧ Fr [B] w (w.setCell ⟨B, 0, none⟩ v) := by
  have hF : Fr [B] w (w.setCell ⟨B, 0, none⟩ v) := (Fr.refl _ _).setCell (.inl (by simp)) _
  refine ⟨⟨cell_set_same _ _ _ _ _ h.c0, (cell_set_ne _ _ _ _ _ _ (.inr (by decide))).trans h.c1, fun o => by rw [World.frozen?_setCell]; exact h.free o, row_set h.row 0 v, hv.fr hF (h.off _ (by decide))⟩, hF⟩
theorem RdAt.set1 {w : World} {B : Nat} {vb : Value} {r : Bs} (h : RdAt w B vb r) : RdAt (w.setCell ⟨B, 1, none⟩ (.int .i64 0)) B vb r ∧ Fr [B] w (w.setCell ⟨B, 1, none⟩ (.int .i64 0)) := by
  have hF : Fr [B] w (w.setCell ⟨B, 1, none⟩ (.int .i64 0)) := (Fr.refl _ _).setCell (.inl (by simp)) _
  refine ⟨⟨(cell_set_ne _ _ _ _ _ _ (.inr (by decide))).trans h.c0, cell_set_same _ _ _ _ _ h.c1, fun o => by rw [World.frozen?_setCell]; exact h.free o, row_set h.row 1 _, h.sb.fr hF (h.off _ (by decide))⟩, hF⟩

theorem rbytes_calls (B : Nat) (vb : Value) (s r : Bs) (k : Int) (w : World) (hk : k = s.length) (h : RdAt w B vb (s ++ r)) (hl : (s ++ r).length ≤ 1152921504606846976) :
    Calls Tryz.prog 138 #[.pointer (some ⟨B, 0, none⟩), .int .i64 k] w fun e w' => e = .returned (.string (mk s)) ∧ ∃ vb', RdAt w' B vb' r ∧ Fr [B] w w' := by
  subst hk
  have c0 := h.c0
  have f0 := h.free 0
  have hle : s.length ≤ (s ++ r).length := by simp
  obtain ⟨v1, hv1, hcut1⟩ := cut_to (P := Tryz.prog) u_bytes i_byte (by decide) h.sb s.length hle _ rfl
  obtain ⟨v2, hv2, hcut2⟩ := cut_from (P := Tryz.prog) u_bytes i_byte (by decide) h.sb s.length hle _ rfl
  simp only [Nat.mul_one] at hv1 hv2
  rw [← List.map_take, List.take_left'] at hv1
  rw [← List.map_drop, List.drop_left'] at hv2
  have hrl : (s ++ r).length - s.length = r.length := by simp
  rw [hrl] at hv2
  have hcv := conv_string (P := Tryz.prog) u_bytes u_byte u_string hv1
  have hset := Lib.hid (h.set v2 r hv2)
  obtain ⟨a, c, rfl, h3, h4⟩ := h.sb.shape
  have b1 : decide (((s ++ r).length : Int) < s.length) = false := by simp; omega
  have i1 : (s.length : Int) ≤ (s ++ r).length := by omega
  generalize (s ++ r).length = n at *
  clear h hrl
  obtain ⟨a1, k1, rfl, _⟩ := hv1.shape
  obtain ⟨a2, k2, rfl, _⟩ := hv2.shape
  go_enter Tryz.func138, Tryz.ntmps138
  go_wp2_with fail
  go_ret
  exact ⟨rfl, _, hset.out.1, hset.out.2⟩
  all_goals rfl
theorem rnum_calls (B : Nat) (vb : Value) (n : Nat) (r : Bs) (w : World) (h : RdAt w B vb (putNum n ++ r)) (hn : n ≤ mostNum) (hl : r.length ≤ 70368744177000) :
    Calls Tryz.prog 204 #[.pointer (some ⟨B, 0, none⟩)] w fun e w' => e = .returned (.int .i64 n) ∧ ∃ vb', RdAt w' B vb' r ∧ Fr [B] w w' := by
  have hT : takeNum (putNum n ++ r) = some (n, r) := takeNum_put hn r
  have hpl : (putNum n ++ r).length ≤ 70368744177664 := by have := putNum_len9 hn; simp; omega
  generalize putNum n ++ r = L at h hT hpl
  have HT := Lib.hid hT
  clear hT
  have c0 := h.c0
  obtain ⟨a, c, rfl, h2, h3⟩ := h.sb.shape
  go_enter Tryz.func204, Tryz.ntmps204
  go_wp2_with fail
  refine (TakeNum_calls _ L w h.sb hpl).mono ?_
  rintro e w1 ⟨hF1, ⟨n', r', v', ht, rfl, ho⟩ | ⟨ht, rfl⟩⟩
  · obtain ⟨rfl, rfl⟩ : n = n' ∧ r = r' := by
      have := HT.out.symm.trans ht
      simpa using this
    clear ht
    have h1 := h.fr0 hF1
    have k0 := h1.c0
    have k1 := h1.c1
    have f0 := h1.free 0
    have f1 := h1.free 1
    have e1 : max (0 : Int) 0 = 0 := rfl
    have hset := Lib.hid (h1.set v' r (Sl.of_own ho))
    have hset1 := Lib.hid hset.out.1.set1
    obtain ⟨a', k', rfl, h4, h5⟩ := (Sl.of_own ho).shape
    have s1 := (cell_set_ne w1 B 0 B 1 (.slice a' r.length k') (.inr (by decide))).trans k1
    have sf1 : (w1.setCell ⟨B, 0, none⟩ (.slice a' r.length k')).frozen? ⟨B, 1, none⟩ = false := by rw [World.frozen?_setCell]; exact f1
    clear c0
    go_wp2_with fail
    go_ret
    exact ⟨rfl, _, hset1.out.1, (hF1.weaken (by simp)).trans (hset.out.2.trans hset1.out.2 (by simp)) (by simp)⟩
  · exact absurd (HT.out.symm.trans ht) (by simp)
theorem rtext_calls (B : Nat) (vb : Value) (s r : Bs) (w : World) (h : RdAt w B vb (putText s ++ r)) (hs : s.length ≤ 1048576) (hl : r.length ≤ 70368740000000) :
    Calls Tryz.prog 141 #[.pointer (some ⟨B, 0, none⟩)] w fun e w' => e = .returned (.string (mk s)) ∧ ∃ vb', RdAt w' B vb' r ∧ Fr [B] w w' := by
  have hT : takeText (putText s ++ r) 1048576 = some (s, r) := takeText_put (by unfold mostNum; omega) (by omega) r
  have hpl : (putText s ++ r).length ≤ 70368744177664 := by have := putNum_len9 (n := s.length) (by unfold mostNum; omega); simp [putText]; omega
  generalize putText s ++ r = L at h hT hpl
  have HT := Lib.hid hT
  clear hT
  have c0 := h.c0
  obtain ⟨a, c, rfl, h2, h3⟩ := h.sb.shape
  go_enter Tryz.func141, Tryz.ntmps141
  go_wp2_with fail
  refine (TakeText_calls _ L 1048576 w h.sb hpl).mono ?_
  rintro e w1 ⟨hF1, ⟨s', r', v', ht, rfl, ho⟩ | ⟨ht, rfl⟩⟩
  · obtain ⟨rfl, rfl⟩ : s = s' ∧ r = r' := by
      have := HT.out.symm.trans ht
      simpa using this
    clear ht
    have h1 := h.fr0 hF1
    have k0 := h1.c0
    have k1 := h1.c1
    have f0 := h1.free 0
    have f1 := h1.free 1
    have e1 : max (0 : Int) 0 = 0 := rfl
    have hset := Lib.hid (h1.set v' r ho)
    have hset1 := Lib.hid hset.out.1.set1
    obtain ⟨a', k', rfl, h4, h5⟩ := ho.shape
    have s1 := (cell_set_ne w1 B 0 B 1 (.slice a' r.length k') (.inr (by decide))).trans k1
    have sf1 : (w1.setCell ⟨B, 0, none⟩ (.slice a' r.length k')).frozen? ⟨B, 1, none⟩ = false := by rw [World.frozen?_setCell]; exact f1
    clear c0
    go_wp2_with fail
    go_ret
    exact ⟨rfl, _, hset1.out.1, (hF1.weaken (by simp)).trans (hset.out.2.trans hset1.out.2 (by simp)) (by simp)⟩
  · exact absurd (HT.out.symm.trans ht) (by simp)
end Go.Proofs.YtjelehcnpocnoaaGreatDoor
/- Layer 6, objects: an entry is read, all are. -/
namespace Go.Proofs.YtjelehcnpocnoaaGreatDoor
set_option linter.unusedSimpArgs false
set_option linter.unusedVariables false
set_option linter.unnecessarySimpa false
open Go.RowKit
set_option maxRecDepth 100000
set_option maxHeartbeats 4000000

theorem u_entries : Tryz.prog.underlying 61 = some (.slice 70) := by kernel_rfl
theorem i_entry : (Tryz.prog.info? 70).map (fun i => (i.zero, i.size, i.bytes)) = some (some (.agg #[.string ⟨#[]⟩, .bool false, .string ⟨#[]⟩]), 3, 40) := by kernel_rfl
/-- What a cell holds. -/
def cellD (X : Nat) (w : World) : Value := (w.cell? ⟨X, 0, none⟩).getD undef
theorem cellD_of {X : Nat} {w : World} {v : Value} (h : w.cell? ⟨X, 0, none⟩ = some v) : w.cell? ⟨X, 0, none⟩ = some (cellD X w) := by unfold cellD; rw [h]; rfl
theorem cellD_eq {X : Nat} {w : World} {v : Value} (h : w.cell? ⟨X, 0, none⟩ = some v) : cellD X w = v := by unfold cellD; rw [h]; rfl
theorem evs_app (l k : List Ent) : evs (l ++ k) = evs l ++ evs k := by simp [evs]
theorem ev_one (l : List Ent) : ∀ u ∈ evs l, u.oneCell' = true := by
  intro u hu
  simp only [evs, List.mem_flatMap, ev, List.mem_cons, List.not_mem_nil, or_false] at hu
  obtain ⟨e, _, rfl | rfl | rfl⟩ := hu <;> rfl

/-- A tree that is read: X its cell, Rc the one that holds the reader's pointer. -/
structure TrAt (base : Nat) (w : World) (X Rc B : Nat) (vb : Value) (r : Bs) (ve : Value) (l : List Ent) : Prop where
  rd : RdAt w B vb r
  rc : w.cell? ⟨Rc, 0, none⟩ = some (.pointer (some ⟨B, 0, none⟩))
  x0 : w.cell? ⟨X, 0, none⟩ = some ve
  xf : w.frozen? ⟨X, 0, none⟩ = false
  xrow : ∃ cs, w.heap[X]? = some (.cells cs 219 (0, 0))
  rrow : ∃ cs, w.heap[Rc]? = some (.cells cs 165 (0, 0))
  own : w.ownsRow base 70 3 ve l.length (evs l)
  hbase : base ≤ w.heap.size
theorem row_ne {w : World} {a b : Nat} {e e' : TypeId} {fr fr' : Nat × Nat} (h : ∃ cs, w.heap[a]? = some (.cells cs e fr)) (h' : ∃ cs, w.heap[b]? = some (.cells cs e' fr')) (he : e ≠ e') : a ≠ b := by
  rintro rfl
  obtain ⟨cs, h⟩ := h
  obtain ⟨cs', h'⟩ := h'
  rw [h] at h'
  cases h'
  exact he rfl

theorem body1_calls (base X Rc B : Nat) (vb ve : Value) (e : Ent) (r : Bs) (l : List Ent) (w : World) (h : TrAt base w X Rc B vb (encEnt e ++ r) ve l) (he : entLe e) (hl : l.length ≤ 1000000) (hr : r.length ≤ 1000000000) :
    Calls Tryz.prog 140 #[.pointer (some ⟨X, 0, none⟩), .pointer (some ⟨Rc, 0, none⟩)] w fun en w' => en = .returned (.tuple #[]) ∧ ∃ vb' ve', TrAt base w' X Rc B vb' r ve' (l ++ [e]) ∧ Fr (X :: B :: ve.ownBlock.toList) w w' := by
  obtain ⟨nm, dr, idn⟩ := e
  have hnl : nm.length ≤ 100 := he.1
  have hil : idn.length = 32 := he.2
  obtain ⟨d, hd⟩ : ∃ d : UInt8, d = if dr then 1 else 0 := ⟨_, rfl⟩
  have henc : encEnt ⟨nm, dr, idn⟩ ++ r = putText nm ++ ([d] ++ (idn ++ r)) := by rw [hd]; simp [encEnt]
  rw [henc] at h
  have hcmp : ([d] == [(1 : UInt8)]) = dr := by rw [hd]; cases dr <;> rfl
  have q1 := mk_toList [d]
  have q2 : (⟨#[1]⟩ : ByteArray).toList = [1] := mk_toList [1]
  have x0 := h.x0
  have rc0 := h.rc
  have xf := h.xf
  have hXR := row_ne h.xrow h.rrow (by decide)
  have hXB := row_ne h.xrow h.rd.row (by decide)
  have hRB := row_ne h.rrow h.rd.row (by decide)
  obtain ⟨ea, ec, rfl, h3, h4⟩ := (Sl.of_own h.own).shape
  have hXe : X ∉ (Value.slice ea l.length ec).ownBlock.toList := own_ne h.own h.xrow (by decide)
  have hRe : Rc ∉ (Value.slice ea l.length ec).ownBlock.toList := own_ne h.own h.rrow (by decide)
  have hBe : B ∉ (Value.slice ea l.length ec).ownBlock.toList := own_ne h.own h.rd.row (by decide)
  have HT := Lib.hid (fun W (hW : Fr [] w W) => rtext_calls B vb nm ([d] ++ (idn ++ r)) W (h.rd.fr0 hW) (by omega) (by simp; omega))
  clear henc hd
  go_enter Tryz.func140, Tryz.ntmps140
  go_wp2_with fail
  refine wp_region_noPanic ?_
  refine wp_region_Z (fun w' => w'.cell? ⟨Rc, 0, none⟩ = some (.pointer (some ⟨B, 0, none⟩)) ∧ w'.cell? ⟨X, 0, none⟩ = some (.slice ea l.length ec)) 13 (by kernel_rfl) ?_
  have hS : (fun w' : World => w'.cell? ⟨Rc, 0, none⟩ = some (.pointer (some ⟨B, 0, none⟩)) ∧ w'.cell? ⟨X, 0, none⟩ = some (.slice ea l.length ec)) w.drew := ⟨rc0, x0⟩
  refine wpAnyZ_take (i := 0) (oi := _) (v := ?_) rfl (by kernel_rfl) (by kernel_rfl) (by kernel_rfl) (by kernel_rfl) (fun _ _ _ h => h) (Or.inl ⟨by rfl, ?_⟩) (by first | assumption | exact hS) ?_
  rotate_left
  · (intro w hSw; (try dsimp only at hSw); go_simp); try with_reducible rfl
  simp only [Act.put, List.setIfInBounds_toArray, List.set_cons_zero, List.set_cons_succ]
  refine wpAnyZ_take (i := 1) (oi := _) (v := ?_) rfl (by kernel_rfl) (by kernel_rfl) (by kernel_rfl) (by kernel_rfl) (fun _ _ _ h => h) (Or.inl ⟨by rfl, ?_⟩) (by first | assumption | exact hS) ?_
  rotate_left
  · (intro w hSw; (try dsimp only at hSw); go_simp); try with_reducible rfl
  simp only [Act.put, List.setIfInBounds_toArray, List.set_cons_zero, List.set_cons_succ]
  refine wpAnyZ_take (i := 2) (oi := _) (v := ?_) rfl (by kernel_rfl) (by kernel_rfl) (by kernel_rfl) (by kernel_rfl) (fun _ _ _ h => h) (Or.inl ⟨by rfl, ?_⟩) (by first | assumption | exact hS) ?_
  rotate_left
  · (intro w hSw; (try dsimp only at hSw); go_simp); try with_reducible rfl
  simp only [Act.put, List.setIfInBounds_toArray, List.set_cons_zero, List.set_cons_succ]
  refine wpAnyZ_take (i := 4) (oi := _) (v := ?_) rfl (by kernel_rfl) (by kernel_rfl) (by kernel_rfl) (by kernel_rfl) (fun _ _ _ h => h) (Or.inl ⟨by rfl, ?_⟩) (by first | assumption | exact hS) ?_
  rotate_left
  · (intro w hSw; (try dsimp only at hSw); go_simp); try with_reducible rfl
  simp only [Act.put, List.setIfInBounds_toArray, List.set_cons_zero, List.set_cons_succ]
  refine wpAnyZ_take (i := 7) (oi := _) (v := ?_) rfl (by kernel_rfl) (by kernel_rfl) (by kernel_rfl) (by kernel_rfl) (fun _ _ _ h => h) (Or.inl ⟨by rfl, ?_⟩) (by first | assumption | exact hS) ?_
  rotate_left
  · (intro w hSw; (try dsimp only at hSw); go_simp); try with_reducible rfl
  simp only [Act.put, List.setIfInBounds_toArray, List.set_cons_zero, List.set_cons_succ]
  refine wpAnyZ_one (i := 3) (by kernel_rfl) rfl (fun K hK => ?_)
  go_simp
  go_at_call 141
  refine (HT.out _ ((Fr.refl _ _).drew)).mono ?_
  rintro e w1 ⟨rfl, vb1, hr1, hF1⟩
  clear HT
  have hF1' : Fr [B] w w1 := hF1.of_drew
  have hS1 : w1.cell? ⟨Rc, 0, none⟩ = some (.pointer (some ⟨B, 0, none⟩)) ∧ w1.cell? ⟨X, 0, none⟩ = some (.slice ea l.length ec) := ⟨hF1'.cell rc0 (by simpa using hRB), hF1'.cell x0 (by simpa using hXB)⟩
  have HB1 := Lib.hid (rbytes_calls B vb1 [d] (idn ++ r) 1 w1 rfl hr1 (by simp; omega))
  refine hK.out _ _ (fun _ => hS1) (fun hHeld => ?_)
  clear hK K
  try simp only [Act.put, List.setIfInBounds_toArray, List.set_cons_zero, List.set_cons_succ]
  refine wpAnyZ_one (i := 5) (by kernel_rfl) rfl (fun K hK => ?_)
  go_simp
  go_at_call 138
  refine HB1.out.mono ?_
  rintro e w2 ⟨rfl, vb2, hr2, hF2⟩
  clear HB1
  have hF2' : Fr [B] w w2 := hF1'.trans hF2 (by simp)
  have hS2 : w2.cell? ⟨Rc, 0, none⟩ = some (.pointer (some ⟨B, 0, none⟩)) ∧ w2.cell? ⟨X, 0, none⟩ = some (.slice ea l.length ec) := ⟨hF2'.cell rc0 (by simpa using hRB), hF2'.cell x0 (by simpa using hXB)⟩
  have HB2 := Lib.hid (rbytes_calls B vb2 idn r 32 w2 (by omega) hr2 (by simp; omega))
  refine hK.out _ _ (fun _ => hS2) (fun hHeld => ?_)
  clear hK K
  try simp only [Act.put, List.setIfInBounds_toArray, List.set_cons_zero, List.set_cons_succ]
  refine wpAnyZ_take (i := 6) (oi := _) (v := ?_) rfl (by kernel_rfl) (by kernel_rfl) (by kernel_rfl) (by kernel_rfl) (fun _ _ _ h => h) (Or.inl ⟨by rfl, ?_⟩) (by first | assumption | exact hHeld) ?_
  rotate_left
  · (intro w hSw; (try dsimp only at hSw); go_simp); try with_reducible rfl
  simp only [Act.put, List.setIfInBounds_toArray, List.set_cons_zero, List.set_cons_succ]
  refine wpAnyZ_one (i := 8) (by kernel_rfl) rfl (fun K hK => ?_)
  go_simp
  go_at_call 138
  refine HB2.out.mono ?_
  rintro e w3 ⟨rfl, vb3, hr3, hF3⟩
  clear HB2
  have hF3' : Fr [B] w w3 := hF2'.trans hF3 (by simp)
  have hS3 : w3.cell? ⟨Rc, 0, none⟩ = some (.pointer (some ⟨B, 0, none⟩)) ∧ w3.cell? ⟨X, 0, none⟩ = some (.slice ea l.length ec) := ⟨hF3'.cell rc0 (by simpa using hRB), hF3'.cell x0 (by simpa using hXB)⟩
  refine hK.out _ _ (fun _ => hS3) (fun hHeld => ?_)
  clear hK K
  try simp only [Act.put, List.setIfInBounds_toArray, List.set_cons_zero, List.set_cons_succ]
  refine wpAnyZ_take (i := 9) (oi := _) (v := ?_) rfl (by kernel_rfl) (by kernel_rfl) (by kernel_rfl) (by kernel_rfl) (fun _ _ _ h => h) (Or.inl ⟨by rfl, ?_⟩) (by first | assumption | exact hHeld) ?_
  rotate_left
  · (intro w hSw; (try dsimp only at hSw); go_simp); try with_reducible rfl
  simp only [Act.put, List.setIfInBounds_toArray, List.set_cons_zero, List.set_cons_succ]
  refine wpAnyZ_one (i := 10) (by kernel_rfl) rfl (fun K hK => ?_)
  go_simp
  have hFl : Fr [] w3 (w3.alloc (.cells #[.string (mk nm), .bool dr, .string (mk idn)] 70)) := (Fr.refl _ _).alloc _
  refine hK.out _ _ (fun _ => ⟨hFl.cell hS3.1 (by simp), hFl.cell hS3.2 (by simp)⟩) (fun hHeld => ?_)
  clear hK K
  try simp only [Act.put, List.setIfInBounds_toArray, List.set_cons_zero, List.set_cons_succ]
  have hFw3 : Fr [B] w (w3.alloc (.cells #[.string (mk nm), .bool dr, .string (mk idn)] 70)) := hF3'.alloc _
  have hownL := own_fr h.own hFw3 (h.rd.off _ (by decide))
  refine wpAnyZ_one (i := 11) (by kernel_rfl) rfl (fun K hK => ?_)
  refine step_app base rfl _ _ 61 70 _ 3 40 rfl u_entries i_entry rfl (by decide) (.slice ea l.length ec) l.length (evs l) rfl hownL 1 (evs [⟨nm, dr, idn⟩]) (Sl.lit (w := w3) #[.string (mk nm), .bool dr, .string (mk idn)] 1 rfl (by decide)) (ev_one _) (by omega) (by omega) (Nat.le_trans h.hbase hFw3.size) ?_
  intro v5 w5 ho5 hg5 hat5
  have hF5 : Fr (B :: (Value.slice ea l.length ec).ownBlock.toList) w w5 := (hFw3.weaken (by simp)).grown hg5 (fun k hk => .inl (by simp [hk]))
  have hRn : Rc ∉ B :: (Value.slice ea l.length ec).ownBlock.toList := fun hx => (List.mem_cons.1 hx).elim hRB hRe
  have hXn : X ∉ B :: (Value.slice ea l.length ec).ownBlock.toList := fun hx => (List.mem_cons.1 hx).elim hXB hXe
  refine hK.out _ _ (fun _ => ⟨hF5.cell rc0 hRn, hF5.cell x0 hXn⟩) (fun hHeld => ?_)
  clear hK K
  try simp only [Act.put, List.setIfInBounds_toArray, List.set_cons_zero, List.set_cons_succ]
  refine wpAnyZ_take (i := 12) (oi := _) (v := ?_) rfl (by kernel_rfl) (by kernel_rfl) (by kernel_rfl) (by kernel_rfl) (fun _ _ _ h => h) (Or.inl ⟨by rfl, ?_⟩) (hHeld (by decide)) ?_
  rotate_left
  · (intro w hSw; (try dsimp only at hSw); go_simp); try with_reducible rfl
  simp only [Act.put, List.setIfInBounds_toArray, List.set_cons_zero, List.set_cons_succ]
  have x5 := hF5.cell x0 hXn
  have hXlt : X < w.heap.size := by obtain ⟨cs, hx⟩ := h.xrow; exact (Array.getElem?_eq_some_iff.1 hx).1
  have f5 : w5.frozen? ⟨X, 0, none⟩ = false := (World.frozen?_of_block (w := w) (hF5.blk X hXlt hXn)).trans xf
  obtain ⟨a5, c5, rfl, _⟩ := (Sl.of_own ho5).shape
  refine wpAnyZ_one (i := 13) (by kernel_rfl) rfl (fun K hK => ?_)
  go_simp
  refine hK.out _ _ (fun h => absurd rfl h) (fun _ => ?_)
  clear hK K
  refine wpAnyZ_done (by kernel_rfl) ?_ _
  refine NoPanic.normal ?_
  go_end0
  have hx5 : ∃ cs, w5.heap[X]? = some (.cells cs 219 (0, 0)) := by obtain ⟨cs, hx⟩ := h.xrow; exact ⟨cs, hF5.block hx hXn⟩
  have hR5 : ∃ cs, w5.heap[Rc]? = some (.cells cs 165 (0, 0)) := by obtain ⟨cs, hx⟩ := h.rrow; exact ⟨cs, hF5.block hx hRn⟩
  have hFX : Fr [X] w5 (w5.setCell ⟨X, 0, none⟩ (.slice a5 (l.length + 1) c5)) := (Fr.refl _ _).setCell (.inl (by simp)) _
  have hFl5 : Fr (Value.slice ea l.length ec).ownBlock.toList (w3.alloc (.cells #[.string (mk nm), .bool dr, .string (mk idn)] 70)) w5 := (Fr.refl _ _).grown hg5 (fun k hk => .inl (by simp [hk]))
  have hrd5 : RdAt w5 B vb3 r := (hr3.fr0 hFl).fr hFl5 hBe (own_off hownL (by decide))
  refine ⟨rfl, vb3, _, ⟨hrd5.fr hFX (by simpa using hXB.symm) (off_row hx5 (by decide)), (cell_set_ne _ _ _ _ _ _ (.inl hXR.symm)).trans (hF5.cell rc0 hRn), cell_set_same _ _ _ _ _ x5, by rw [World.frozen?_setCell]; exact f5, row_set hx5 0 _, ?_, ?_, ?_⟩, ?_⟩
  · obtain ⟨cs, hx⟩ := hR5
    exact ⟨cs, hFX.block hx (by simpa using hXR.symm)⟩
  · have := own_fr ho5 hFX (off_row hx5 (by decide))
    rw [evs_app]
    simpa using this
  · have h1 := h.hbase
    have h2 := hF5.size
    have h3 := hFX.size
    omega
  · exact (hF5.weaken (fun x hx => .inl (by simp only [List.mem_cons] at hx ⊢; exact .inr hx))).setCell (.inl (by simp)) _
end Go.Proofs.YtjelehcnpocnoaaGreatDoor
/- Layer 6, objects: all entries are read; the body of a tree. -/
namespace Go.Proofs.YtjelehcnpocnoaaGreatDoor
set_option linter.unusedSimpArgs false
set_option linter.unusedVariables false
set_option linter.unnecessarySimpa false
open Go.RowKit
set_option maxRecDepth 100000
set_option maxHeartbeats 4000000

theorem TrAt.read {base : Nat} {w w' : World} {X Rc B : Nat} {vb vb' ve : Value} {r r' : Bs} {l : List Ent} (h : TrAt base w X Rc B vb r ve l) (hF : Fr [B] w w') (hr : RdAt w' B vb' r') : TrAt base w' X Rc B vb' r' ve l := by
  have hXB := row_ne h.xrow h.rd.row (by decide)
  have hRB := row_ne h.rrow h.rd.row (by decide)
  obtain ⟨cs, hx⟩ := h.xrow
  obtain ⟨cs', hR⟩ := h.rrow
  have hXlt := (Array.getElem?_eq_some_iff.1 hx).1
  exact ⟨hr, hF.cell h.rc (by simpa using hRB), hF.cell h.x0 (by simpa using hXB), (World.frozen?_of_block (w := w) (hF.blk X hXlt (by simpa using hXB))).trans h.xf, ⟨cs, hF.block hx (by simpa using hXB)⟩, ⟨cs', hF.block hR (by simpa using hRB)⟩, own_fr h.own hF (h.rd.off _ (by decide)), Nat.le_trans h.hbase hF.size⟩
theorem encEnts_drop (l : List Ent) (k : Nat) (e : Ent) (h : l[k]? = some e) : encEnts (l.drop k) = encEnt e ++ encEnts (l.drop (k + 1)) := by
  obtain ⟨hk, he⟩ := List.getElem?_eq_some_iff.1 h
  rw [List.drop_eq_getElem_cons hk, he]
  rfl
theorem many_calls (base X Rc B : Nat) (vb ve : Value) (r : Bs) (l : List Ent) (w : World) (h : TrAt base w X Rc B vb (putNum l.length ++ (encEnts l ++ r)) ve []) (hl : ∀ e ∈ l, entLe e) (hn : l.length ≤ 1000000) (hr : r.length ≤ 500000000) (hB : base ≤ B) (hX : base ≤ X) :
    Calls Tryz.prog 139 #[.pointer (some ⟨B, 0, none⟩), .func (.func 140) #[] #[.pointer (some ⟨X, 0, none⟩), .pointer (some ⟨Rc, 0, none⟩)]] w fun en w' => en = .returned (.tuple #[]) ∧ ∃ vb' ve', TrAt base w' X Rc B vb' r ve' l ∧ Below base w w' := by
  have hel := encEnts_len l hl
  have HN := Lib.hid (rnum_calls B vb l.length (encEnts l ++ r) w h.rd (by unfold mostNum; omega) (by simp; omega))
  go_enter Tryz.func139, Tryz.ntmps139
  go_wp2_with fail
  refine HN.out.mono ?_
  rintro e w1 ⟨rfl, vb1, hr1, hF1⟩
  have h1 := h.read hF1 hr1
  have hbe1 : Below base w w1 := hF1.belowAt (by simpa using hB) h.hbase
  clear HN
  go_wp2_with fail
  go_loopw [4] (fun u wr => ∃ (k : Nat) (vb ve : Value), u = .int .i64 ((l.length : Int) - k) ∧ k ≤ l.length ∧ TrAt base wr X Rc B vb (encEnts (l.drop k) ++ r) ve (l.take k) ∧ Below base w wr) (fun u _ => (intOf u).toNat)
  case atStart => exact ⟨0, vb1, ve, by simp, by omega, by simpa using h1, hbe1⟩
  case round =>
    obtain ⟨k, vb2, ve2, rfl, hk, hT, hbe⟩ := hrel
    have c1 := hT.rd.c1
    by_cases hlt : k < l.length
    · have b1 : decide ((0 : Int) < (l.length : Int) - k) = true := by simp; omega
      have i1 : (0 : Int) < (l.length : Int) - k := by omega
      have e1 : IntKind.i64.wrap ((l.length : Int) - k - 1) = (l.length : Int) - k - 1 := by rw [IntKind.wrap_i64]; omega
      have hg := List.getElem?_eq_getElem hlt
      have hmem := List.getElem_mem hlt
      rw [encEnts_drop l k _ hg, List.append_assoc] at hT
      have htk : l.take (k + 1) = l.take k ++ [l[k]] := by rw [List.take_add_one, hg]; rfl
      have hdl : (encEnts (l.drop (k + 1)) ++ r).length ≤ 1000000000 := by
        have := encEnts_len (l.drop (k + 1)) (fun e he => hl e (List.mem_of_mem_drop he))
        simp only [List.length_append, List.length_drop] at *
        omega
      have HB := Lib.hid (body1_calls base X Rc B vb2 ve2 l[k] (encEnts (l.drop (k + 1)) ++ r) (l.take k) wr hT (hl _ hmem) (by simp; omega) hdl)
      have HTK := Lib.hid htk
      have hown := Lib.hid hT.own
      have hsz := hT.hbase
      clear hT htk hg hdl hmem h1 hr1 h
      go_wp2_with fail
      refine HB.out.mono ?_
      rintro e w3 ⟨rfl, vb3, ve3, hT3, hF3⟩
      clear HB
      rw [← HTK.out] at hT3
      have hbe3 : Below base wr w3 := hF3.belowAt (fun x hx => by
        rcases List.mem_cons.1 hx with rfl | hx
        · exact hX
        rcases List.mem_cons.1 hx with rfl | hx
        · exact hB
        · exact (hown.out.lt x (by simpa [eq_comm] using hx)).1) hsz
      have HT3 := Lib.hid hT3
      clear hT3
      go_wp2_with fail
      exact ⟨⟨k + 1, vb3, ve3, by congr 1; omega, by omega, HT3.out, hbe.trans hbe3⟩, by simp [intOf]; omega⟩
    · have b1 : decide ((0 : Int) < (l.length : Int) - k) = false := by simp; omega
      have i1 : (l.length : Int) - k ≤ 0 := by omega
      obtain rfl : k = l.length := by omega
      rw [List.drop_length, List.take_length] at hT
      have HT := Lib.hid hT
      clear hT h h1
      go_wp2_with fail
      go_end0
      exact ⟨rfl, vb2, ve2, HT.out, hbe⟩
theorem body_calls (base B : Nat) (vb : Value) (r : Bs) (l : List Ent) (w : World) (h : RdAt w B vb (putNum l.length ++ (encEnts l ++ r))) (hl : ∀ e ∈ l, entLe e) (hn : l.length ≤ 1000000) (hr : r.length ≤ 500000000) (hB : base ≤ B) (hb : base ≤ w.heap.size) :
    Calls Tryz.prog 82 #[.pointer (some ⟨B, 0, none⟩), .int .i64 2] w fun en w' => ∃ ve, en = .returned (.iface 219 (.agg #[ve])) ∧ w'.ownsRow base 70 3 ve l.length (evs l) ∧ (∃ vb', RdAt w' B vb' r) ∧ Below base w w' := by
  have hlt := h.lt
  obtain ⟨W, hW⟩ : ∃ W, (w.alloc (.cells #[.pointer (some ⟨B, 0, none⟩)] 165)).alloc (.cells #[.slice none 0 0] 219) = W := ⟨_, rfl⟩
  have hF : Fr [] w W := by rw [← hW]; exact ((Fr.refl _ _).alloc _).alloc _
  have hT : TrAt base W (w.heap.size + 1) w.heap.size B vb (putNum l.length ++ (encEnts l ++ r)) (.slice none 0 0) [] := by
    have hs1 : (w.alloc (.cells #[.pointer (some ⟨B, 0, none⟩)] 165)).heap.size = w.heap.size + 1 := by simp
    have q0 := World.cell?_alloc_new (w.alloc (.cells #[.pointer (some ⟨B, 0, none⟩)] 165)) #[.slice none 0 0] 219 0
    have q1 := frozen_new (w.alloc (.cells #[.pointer (some ⟨B, 0, none⟩)] 165)) #[.slice none 0 0] 219 0
    have q2 := heap_alloc_new (w.alloc (.cells #[.pointer (some ⟨B, 0, none⟩)] 165)) (.cells #[.slice none 0 0] 219)
    rw [hs1, hW] at q0 q1 q2
    have q3 : W.cell? ⟨w.heap.size, 0, none⟩ = some (.pointer (some ⟨B, 0, none⟩)) := by rw [← hW]; exact ((Fr.refl [] _).alloc _).cell (World.cell?_alloc_new w #[_] _ 0) (by simp)
    have q4 : W.heap[w.heap.size]? = some (.cells #[.pointer (some ⟨B, 0, none⟩)] 165 (0, 0)) := by rw [← hW]; exact ((Fr.refl [] _).alloc _).block (heap_alloc_new w _) (by simp)
    exact ⟨h.fr0 hF, q3, q0, q1, ⟨_, q2⟩, ⟨_, q4⟩, ⟨rfl, .inl ⟨rfl, rfl⟩⟩, Nat.le_trans hb hF.size⟩
  have HM := Lib.hid (many_calls base (w.heap.size + 1) w.heap.size B vb (.slice none 0 0) r l W hT hl hn hr hB (by omega))
  have x0 := hT.x0
  have rc0 := hT.rc
  go_enter Tryz.func82, Tryz.ntmps82
  go_wp2_with fail
  refine HM.out.mono ?_
  rintro e w3 ⟨rfl, vb3, ve3, hT3, hbe3⟩
  have x3 := hT3.x0
  go_wp2_with fail
  go_ret
  exact ⟨ve3, rfl, hT3.own, ⟨vb3, hT3.rd⟩, (hF.belowAt (by simp) hb).trans hbe3⟩
end Go.Proofs.YtjelehcnpocnoaaGreatDoor
/- Layer 6, objects: bodies and objects of trees. -/
namespace Go.Proofs.YtjelehcnpocnoaaGreatDoor
set_option linter.unusedSimpArgs false
set_option linter.unusedVariables false
set_option linter.unnecessarySimpa false
open Go.RowKit
set_option maxRecDepth 100000
set_option maxHeartbeats 4000000

def objV (ve : Value) : Value := .agg #[.int .i64 2, .slice none 0 0, ve, .string ⟨#[]⟩, .slice none 0 0, .string ⟨#[]⟩, .string ⟨#[]⟩, .string ⟨#[]⟩, .int .i64 0, .string ⟨#[]⟩]
def bodyV (ve : Value) : Value := .iface 219 (.agg #[ve])
theorem ta_blob (v : Value) (W : World) : (Instr.typeAssert (.iface 219 v) 160 217 true).run Tryz.prog W = .ok (.tuple #[.agg #[.slice none 0 0], .bool false]) W := by kernel_rfl
theorem ta_tree (v : Value) (W : World) : (Instr.typeAssert (.iface 219 v) 160 219 true).run Tryz.prog W = .ok (.tuple #[v, .bool true]) W := by kernel_rfl
theorem made_calls' (a : Option Addr) (n c : Nat) (w : World) :
    Calls Tryz.prog 81 #[bodyV (.slice a n c)] w fun e w' => e = .returned (objV (.slice a n c)) ∧ Fr [] w w' := by
  unfold bodyV objV
  have h1 := ta_blob (.agg #[.slice a n c])
  have h2 := ta_tree (.agg #[.slice a n c])
  go_enter Tryz.func81, Tryz.ntmps81
  go_wp2_with fail
  refine bodyPost_ret (v := objV (.slice a n c)) (by simp [results, Tryz.results81, go_sem, objV]) rfl ⟨rfl, ((Fr.refl _ _).alloc _).alloc _⟩
theorem of_calls (a : Option Addr) (n c : Nat) (w : World) :
    Calls Tryz.prog 75 #[objV (.slice a n c)] w fun e w' => e = .returned (bodyV (.slice a n c)) ∧ Fr [] w w' := by
  unfold bodyV objV
  go_enter Tryz.func75, Tryz.ntmps75
  go_wp2_with fail
  go_ret
  exact ⟨rfl, ((Fr.refl _ _).alloc _).alloc _⟩
theorem eqEnts_calls (v1 v2 : Value) (l : List Ent) (w : World) (h1 : Es w v1 l) (h2 : Es w v2 l) (hn : l.length ≤ 1000000) :
    Calls Tryz.prog 188 #[v1, v2] w fun e w' => e = .returned (.bool true) ∧ Fr [] w w' := by
  obtain ⟨a1, c1, rfl, h3, h4, hc1⟩ := Es.open3 h1
  obtain ⟨a2, c2, rfl, h5, h6, hc2⟩ := Es.open3 h2
  go_enter Tryz.func188, Tryz.ntmps188
  go_wp2_with fail
  go_loopw [13] (fun i wr => ∃ k : Nat, i = .int .i64 k ∧ k ≤ l.length ∧ Fr [] w wr) (fun i _ => l.length - (intOf i).toNat)
  case atStart => exact ⟨0, rfl, by omega, Fr.refl _ _⟩
  case round =>
    obtain ⟨k, rfl, hk, hF⟩ := hrel
    by_cases hlt : k < l.length
    · obtain ⟨g1, o1, rfl, hcell1⟩ := hc1 (by omega)
      obtain ⟨g2, o2, rfl, hcell2⟩ := hc2 (by omega)
      have hg := List.getElem?_eq_getElem hlt
      obtain ⟨x1, x2, x3⟩ := hcell1 k _ hg
      obtain ⟨y1, y2, y3⟩ := hcell2 k _ hg
      generalize l[k] = e at *
      obtain ⟨nm, dr, idn⟩ := e
      simp only at x1 x2 x3 y1 y2 y3
      have x1' := hF.cell x1 (by simp)
      have x2' := hF.cell x2 (by simp)
      have x3' := hF.cell x3 (by simp)
      have y1' := hF.cell y1 (by simp)
      have y2' := hF.cell y2 (by simp)
      have y3' := hF.cell y3 (by simp)
      have b1 : decide ((k : Int) < l.length) = true := by simp; omega
      have i1 : (k : Int) < l.length := by omega
      have e1 : IntKind.i64.wrap ((k : Int) + 1) = (k : Int) + 1 := by rw [IntKind.wrap_i64]; omega
      clear hcell1 hcell2 x1 x2 x3 y1 y2 y3 hc1 hc2 hg
      go_wp2_with fail
      go_quiet (fail)
      go_wp2_with fail
      exact ⟨⟨k + 1, by simp, by omega, hF.drewN _⟩, by simp [intOf]; omega⟩
    · have b1 : decide ((k : Int) < l.length) = false := by simp; omega
      have i1 : (l.length : Int) ≤ k := by omega
      clear hc1 hc2
      go_wp2_with fail
      go_ret
      exact ⟨rfl, hF⟩
end Go.Proofs.YtjelehcnpocnoaaGreatDoor
/- Layer 6, objects: trees are checked, encoded. -/
namespace Go.Proofs.YtjelehcnpocnoaaGreatDoor
set_option linter.unusedSimpArgs false
set_option linter.unusedVariables false
set_option linter.unnecessarySimpa false
open Go.RowKit
set_option maxRecDepth 100000
set_option maxHeartbeats 4000000

theorem same_calls (ve : Value) (l : List Ent) (w : World) (h : Es w ve l) (hn : l.length ≤ 1000000) :
    Calls Tryz.prog 126 #[objV ve, objV ve] w fun e w' => e = .returned (.bool true) ∧ Fr [] w w' := by
  obtain ⟨a, c, rfl, h3, h4⟩ := Sl.shape h
  have HE := Lib.hid (fun W (hW : Fr [] w W) => eqEnts_calls _ _ l W (h.fr0 hW) (h.fr0 hW) hn)
  have hcv : ∀ W : World, (convert 60 9 (.slice none 0 0)).run Tryz.prog W = .ok (.string ⟨#[]⟩) W := fun W => run_convert_bytes_nil W _ _ u_bytes u_byte _ _ _ u_string
  have q2 : (⟨#[]⟩ : ByteArray).toList = [] := mk_toList []
  unfold objV
  obtain ⟨cs, hcs⟩ : ∃ cs : Array Value, cs = #[.int .i64 2, .slice none 0 0, .slice a l.length c, .string ⟨#[]⟩, .slice none 0 0, .string ⟨#[]⟩, .string ⟨#[]⟩, .string ⟨#[]⟩, .int .i64 0, .string ⟨#[]⟩] := ⟨_, rfl⟩
  have hFA : Fr [] w ((w.alloc (.cells cs 64)).alloc (.cells cs 64)) := ((Fr.refl _ _).alloc _).alloc _
  have n1 : ∀ o, ((w.alloc (.cells cs 64)).alloc (.cells cs 64)).cell? ⟨w.heap.size, o, none⟩ = cs[o]? := fun o => (World.cell?_of_block (w := w.alloc (.cells cs 64)) (Below.heap_alloc _ _ _ (by simp))).trans (World.cell?_alloc_new w cs _ o)
  have n2 : ∀ o, ((w.alloc (.cells cs 64)).alloc (.cells cs 64)).cell? ⟨w.heap.size + 1, o, none⟩ = cs[o]? := fun o => by
    have := World.cell?_alloc_new (w.alloc (.cells cs 64)) cs 64 o
    rwa [World.size_alloc] at this
  have HEA := Lib.hid (HE.out _ hFA)
  have hsz : ((w.alloc (.cells cs 64)).alloc (.cells cs 64)).heap.size = w.heap.size + 2 := by simp
  clear HE
  generalize hWA : (w.alloc (.cells cs 64)).alloc (.cells cs 64) = WA at *
  rw [hcs] at hWA n1 n2
  clear hcs
  go_enter Tryz.func126, Tryz.ntmps126
  go_wp2_with fail
  refine HEA.out.mono ?_
  rintro e w1 ⟨rfl, hF1⟩
  have m1 : ∀ o, w1.cell? ⟨w.heap.size, o, none⟩ = WA.cell? ⟨w.heap.size, o, none⟩ := fun o => World.cell?_of_block (hF1.blk w.heap.size (by omega) (by simp))
  have m2 : ∀ o, w1.cell? ⟨w.heap.size + 1, o, none⟩ = WA.cell? ⟨w.heap.size + 1, o, none⟩ := fun o => World.cell?_of_block (hF1.blk (w.heap.size + 1) (by omega) (by simp))
  go_wp2_with fail
  refine (Tryz.slices_Equal_string_empty none none 0 0 0 w1 (by decide)).mono ?_
  rintro e w2 ⟨rfl, rfl⟩
  go_wp2_with fail
  go_ret
  exact ⟨rfl, hFA.trans0 hF1⟩

theorem bytesLess_lt : ∀ (x y : Bs), Op.bytesLess x y = decide (x < y)
  | [], [] => by simp [Op.bytesLess]
  | [], _ :: _ => by simp [Op.bytesLess]
  | _ :: _, [] => by simp [Op.bytesLess]
  | a :: x, b :: y => by
    rw [Op.bytesLess, bytesLess_lt x y]
    rw [Bool.eq_iff_iff]
    simp [List.cons_lt_cons_iff]
/-- May entries be? -/
def okEnts (l : List Ent) : Prop := (∀ e ∈ l, partOk e.name = true ∧ e.id.length = 32) ∧ (∀ k x y, l[k]? = some x → l[k + 1]? = some y → x.name < y.name) ∧ l.length ≤ 4096
theorem okEnts.le {l : List Ent} (h : okEnts l) : ∀ e ∈ l, entLe e := fun e he => ⟨((partOk_iff _).1 (h.1 e he).1).2.1, (h.1 e he).2⟩

theorem right_calls (ve : Value) (l : List Ent) (w : World) (h : Es w ve l) (hok : okEnts l) :
    Calls Tryz.prog 293 #[.agg #[ve]] w fun e w' => e = .returned (.bool true) ∧ Fr [] w w' := by
  obtain ⟨a, c, rfl, h3, h4, hc⟩ := Es.open3 h
  have h4096 := hok.2.2
  have kx := World.cell?_alloc_new w #[.slice a l.length c] 219 0
  go_enter Tryz.func293, Tryz.ntmps293
  go_wp2_with fail
  go_loopw [8] (fun i wr => ∃ k : Nat, i = .int .i64 k ∧ k ≤ l.length ∧ Fr [] (w.alloc (.cells #[.slice a l.length c] 219)) wr) (fun i _ => l.length - (intOf i).toNat)
  case atStart => exact ⟨0, rfl, by omega, Fr.refl _ _⟩
  case round =>
    obtain ⟨k, rfl, hk, hF⟩ := hrel
    have kx' := hF.cell kx (by simp)
    have hFw : Fr [] w wr := ((Fr.refl [] w).alloc _).trans0 hF
    by_cases hlt : k < l.length
    · obtain ⟨g, o, rfl, hcell⟩ := hc (by omega)
      have hg := List.getElem?_eq_getElem hlt
      obtain ⟨x1, x2, x3⟩ := hcell k _ hg
      have hp := hok.1 _ (List.getElem_mem hlt)
      have b1 : decide ((k : Int) < l.length) = true := by simp; omega
      have i1 : (k : Int) < l.length := by omega
      have e1 : IntKind.i64.wrap ((k : Int) + 1) = (k : Int) + 1 := by rw [IntKind.wrap_i64]; omega
      have e2 : IntKind.i64.wrap ((k : Int) - 1) = (k : Int) - 1 := by rw [IntKind.wrap_i64]; omega
      rcases k with _ | j
      · generalize l[0] = e at *
        obtain ⟨nm, dr, idn⟩ := e
        simp only [Nat.zero_mul, Nat.add_zero] at x1 x2 x3 hp
        have x1' := hFw.cell x1 (by simp)
        have x2' := hFw.cell x2 (by simp)
        have x3' := hFw.cell x3 (by simp)
        clear hcell x1 x2 x3 hc hg
        have HPt := Lib.hid (fun W => Part_calls nm W (by have := ((partOk_iff _).1 hp.1).2.1; omega))
        have HId := Lib.hid (fun W => isId_calls idn W (by have := hp.2; omega))
        have hp2 : decide (idn.length = 32) = true := by simpa using hp.2
        rw [hp.1] at HPt
        rw [hp2] at HId
        have hFc : Fr [] wr (wr.alloc (.cells #[.string (mk nm), .bool dr, .string (mk idn)] 70)) := (Fr.refl _ _).alloc _
        go_wp2_with fail
        go_quiet ((first | (go_at_call 50; exact Calls.quiet_of_same (HPt.out _)) | (go_at_call 294; exact Calls.quiet_of_same (HId.out _))))
        go_wp2_with fail
        exact ⟨⟨1, rfl, by omega, (hF.trans0 hFc).drewN _⟩, by simp [intOf]; omega⟩
      · have hkm : j < l.length := by omega
        have hg' := List.getElem?_eq_getElem hkm
        obtain ⟨y1, _, _⟩ := hcell j _ hg'
        have hlt2 := hok.2.1 j _ _ hg' hg
        generalize l[j + 1] = e at *
        generalize l[j] = e' at *
        obtain ⟨nm, dr, idn⟩ := e
        obtain ⟨nm', dr', idn'⟩ := e'
        simp only at x1 x2 x3 y1 hp hlt2
        have hbl : Op.bytesLess nm' nm = true := by rw [bytesLess_lt]; simpa using hlt2
        have x1' := hFw.cell x1 (by simp)
        have x2' := hFw.cell x2 (by simp)
        have x3' := hFw.cell x3 (by simp)
        have y1' := hFw.cell y1 (by simp)
        have j2 : (j : Int) < l.length := by omega
        have e3 : IntKind.i64.wrap ((j : Int) + 1 - 1) = (j : Int) := by rw [IntKind.wrap_i64]; omega
        have e4 : IntKind.i64.wrap (j : Int) = (j : Int) := by rw [IntKind.wrap_i64]; omega
        have b2 : decide ((0 : Int) < (j : Int) + 1) = true := by simp
        have j3 : (0 : Int) < (j : Int) + 1 := by omega
        have q1 := mk_toList nm
        have q2 := mk_toList nm'
        clear hcell x1 x2 x3 y1 hc hg hg'
        have HPt := Lib.hid (fun W => Part_calls nm W (by have := ((partOk_iff _).1 hp.1).2.1; omega))
        have HId := Lib.hid (fun W => isId_calls idn W (by have := hp.2; omega))
        have hp2 : decide (idn.length = 32) = true := by simpa using hp.2
        rw [hp.1] at HPt
        rw [hp2] at HId
        have hFc : Fr [] wr (wr.alloc (.cells #[.string (mk nm), .bool dr, .string (mk idn)] 70)) := (Fr.refl _ _).alloc _
        have nz := World.cell?_alloc_new wr #[.string (mk nm), .bool dr, .string (mk idn)] 70 0
        have n2 := World.cell?_alloc_new wr #[.string (mk nm), .bool dr, .string (mk idn)] 70 2
        have kc := hFc.cell kx' (by simp)
        have yc := hFc.cell y1' (by simp)
        generalize hWc : wr.alloc (.cells #[.string (mk nm), .bool dr, .string (mk idn)] 70) = WC at *
        go_wp2_with fail
        go_quiet ((first | (go_at_call 50; exact Calls.quiet_of_same (HPt.out _)) | (go_at_call 294; exact Calls.quiet_of_same (HId.out _))))
        go_wp2_with fail
        exact ⟨⟨j + 1 + 1, by simp, by omega, (hF.trans0 hFc).drewN _⟩, by simp [intOf]; omega⟩
    · have b1 : decide ((k : Int) < l.length) = false := by simp; omega
      have i1 : (l.length : Int) ≤ k := by omega
      have b2 : decide ((l.length : Int) ≤ 4096) = true := by simp; omega
      clear hc
      go_wp2_with fail
      go_ret
      exact ⟨rfl, hFw⟩
end Go.Proofs.YtjelehcnpocnoaaGreatDoor
/- Layer 6, objects: Check, Encode of a tree. -/
namespace Go.Proofs.YtjelehcnpocnoaaGreatDoor
set_option linter.unusedSimpArgs false
set_option linter.unusedVariables false
set_option linter.unnecessarySimpa false
open Go.RowKit
set_option maxRecDepth 100000
set_option maxHeartbeats 8000000

theorem Check_calls (ve : Value) (l : List Ent) (w : World) (h : Es w ve l) (hok : okEnts l) :
    Calls Tryz.prog 74 #[objV ve] w fun e w' => e = .returned (.int .i64 0) ∧ Fr [] w w' := by
  obtain ⟨a, c, rfl, h3, h4⟩ := Sl.shape h
  have h4096 := hok.2.2
  have HO := Lib.hid (fun W => of_calls a l.length c W)
  have HR := Lib.hid (fun W (hW : Fr [] w W) => right_calls _ l W (h.fr0 hW) hok)
  have HM := Lib.hid (fun W => made_calls' a l.length c W)
  have HS := Lib.hid (fun W (hW : Fr [] w W) => same_calls _ l W (h.fr0 hW) (by omega))
  unfold objV bodyV at *
  obtain ⟨cs, hcs⟩ : ∃ cs : Array Value, cs = #[.int .i64 2, .slice none 0 0, .slice a l.length c, .string ⟨#[]⟩, .slice none 0 0, .string ⟨#[]⟩, .string ⟨#[]⟩, .string ⟨#[]⟩, .int .i64 0, .string ⟨#[]⟩] := ⟨_, rfl⟩
  have hFA : Fr [] w (w.alloc (.cells cs 64)) := (Fr.refl _ _).alloc _
  have n1 : ∀ o, (w.alloc (.cells cs 64)).cell? ⟨w.heap.size, o, none⟩ = cs[o]? := fun o => World.cell?_alloc_new w cs _ o
  have hsz : (w.alloc (.cells cs 64)).heap.size = w.heap.size + 1 := by simp
  generalize hWA : w.alloc (.cells cs 64) = WA at *
  rw [hcs] at hWA n1
  go_enter Tryz.func74, Tryz.ntmps74
  go_wp2_with fail
  refine (HO.out _).mono ?_
  rintro e w1 ⟨rfl, hF1⟩
  have m1 : ∀ o, w1.cell? ⟨w.heap.size, o, none⟩ = #[Value.int .i64 2, .slice none 0 0, .slice a l.length c, .string ⟨#[]⟩, .slice none 0 0, .string ⟨#[]⟩, .string ⟨#[]⟩, .string ⟨#[]⟩, .int .i64 0, .string ⟨#[]⟩][o]? := fun o => (World.cell?_of_block (hF1.blk w.heap.size (by omega) (by simp))).trans (n1 o)
  have hFw1 : Fr [] w w1 := hFA.trans0 hF1
  have hs1 : w.heap.size < w1.heap.size := by have := hF1.size; omega
  clear HO n1
  go_wp2_with fail
  go_region_held3 (fun w' => ∀ o, w'.cell? ⟨w.heap.size, o, none⟩ = #[Value.int .i64 2, .slice none 0 0, .slice a l.length c, .string ⟨#[]⟩, .slice none 0 0, .string ⟨#[]⟩, .string ⟨#[]⟩, .string ⟨#[]⟩, .int .i64 0, .string ⟨#[]⟩][o]?) (first | exact m1 | exact m2 | exact m3 | exact m4)
    (first
      | (go_at_call 293; refine (HR.out _ hFw1.drew).mono ?_; rintro e w2 ⟨rfl, hF2⟩; clear HR; have hF12 : Fr [] w1 w2 := hF2.of_drew; have hFw2 : Fr [] w w2 := hFw1.trans0 hF12; have hs2 : w.heap.size < w2.heap.size := Nat.lt_of_lt_of_le hs1 hF12.size; have m2 := fun o => (World.cell?_of_block (hF12.blk w.heap.size hs1 (by simp))).trans (m1 o))
      | (go_at_call 81; refine (HM.out _).mono ?_; rintro e w3 ⟨rfl, hF3⟩; clear HM; have hFw3 : Fr [] w w3 := hFw2.trans0 hF3; have hs3 : w.heap.size < w3.heap.size := Nat.lt_of_lt_of_le hs2 hF3.size; have m3 := fun o => (World.cell?_of_block (hF3.blk w.heap.size hs2 (by simp))).trans (m2 o))
      | (go_at_call 126; refine (HS.out _ hFw3).mono ?_; rintro e w4 ⟨rfl, hF4⟩; clear HS; have hFw4 : Fr [] w w4 := hFw3.trans0 hF4; have m4 := fun o => (World.cell?_of_block (hF4.blk w.heap.size hs3 (by simp))).trans (m3 o)))
  go_wp2_with fail
  go_ret
  exact ⟨rfl, hFw4⟩
/-- A tree's bytes. -/
def encTree (l : List Ent) : Bs := [2] ++ putNum l.length ++ encEnts l
theorem Encode_calls (ve : Value) (l : List Ent) (w : World) (h : Es w ve l) (hok : okEnts l) :
    Calls Tryz.prog 40 #[objV ve] w fun e w' => ∃ v, e = .returned (.tuple #[v, .int .i64 0]) ∧ w'.ownsRow w.heap.size 5 1 v (encTree l).length ((encTree l).map bv) ∧ Fr [] w w' := by
  obtain ⟨a, c, rfl, h3, h4⟩ := Sl.shape h
  have h4096 := hok.2.2
  have HO := Lib.hid (fun W => of_calls a l.length c W)
  have HC := Lib.hid (fun W (hW : Fr [] w W) => Check_calls _ l W (h.fr0 hW) hok)
  have HL := Lib.hid (fun (W : World) (vb : Value) (hW : Fr [] w W) (hb : Sl W 5 1 vb [(2 : UInt8)].length ([(2 : UInt8)].map bv)) => lay_calls _ vb l [2] W (h.fr0 hW) hok.le (by omega) hb (by simp))
  unfold objV bodyV at *
  obtain ⟨cs, hcs⟩ : ∃ cs : Array Value, cs = #[.int .i64 2, .slice none 0 0, .slice a l.length c, .string ⟨#[]⟩, .slice none 0 0, .string ⟨#[]⟩, .string ⟨#[]⟩, .string ⟨#[]⟩, .int .i64 0, .string ⟨#[]⟩] := ⟨_, rfl⟩
  have hFA : Fr [] w (w.alloc (.cells cs 64)) := (Fr.refl _ _).alloc _
  have n1 : ∀ o, (w.alloc (.cells cs 64)).cell? ⟨w.heap.size, o, none⟩ = cs[o]? := fun o => World.cell?_alloc_new w cs _ o
  have hsz : (w.alloc (.cells cs 64)).heap.size = w.heap.size + 1 := by simp
  generalize hWA : w.alloc (.cells cs 64) = WA at *
  rw [hcs] at hWA n1
  go_enter Tryz.func40, Tryz.ntmps40
  go_wp2_with fail
  refine (HC.out _ hFA).mono ?_
  rintro e w1 ⟨rfl, hF1⟩
  have m1 : ∀ o, w1.cell? ⟨w.heap.size, o, none⟩ = #[Value.int .i64 2, .slice none 0 0, .slice a l.length c, .string ⟨#[]⟩, .slice none 0 0, .string ⟨#[]⟩, .string ⟨#[]⟩, .string ⟨#[]⟩, .int .i64 0, .string ⟨#[]⟩][o]? := fun o => (World.cell?_of_block (hF1.blk w.heap.size (by omega) (by simp))).trans (n1 o)
  have hFw1 : Fr [] w w1 := hFA.trans0 hF1
  have hs1 : w.heap.size < w1.heap.size := by have := hF1.size; omega
  clear HC n1
  go_wp2_with fail
  have e0 : IntKind.u8.wrap 2 = 2 := rfl
  go_region_held3 (fun w' => ∀ o, w'.cell? ⟨w.heap.size, o, none⟩ = #[Value.int .i64 2, .slice none 0 0, .slice a l.length c, .string ⟨#[]⟩, .slice none 0 0, .string ⟨#[]⟩, .string ⟨#[]⟩, .string ⟨#[]⟩, .int .i64 0, .string ⟨#[]⟩][o]?)
    (first | exact m1 | exact m2 | exact m3 | (intro o; exact (World.cell?_of_block (Below.heap_alloc _ _ _ (by first | exact hs1 | exact hs2))).trans (by first | exact m1 o | exact m2 o)))
    (first
      | (go_at_call 75; refine (HO.out _).mono ?_; rintro e w2 ⟨rfl, hF2⟩; clear HO; have hF12 : Fr [] w1 w2 := (by first | exact hF2.of_drew | exact ((((Fr.refl [] w1).drew).alloc _).trans0 hF2)); have hFw2 : Fr [] w w2 := hFw1.trans0 hF12; have hs2 : w.heap.size < w2.heap.size := Nat.lt_of_lt_of_le hs1 hF12.size; (try have hlit := (Sl.lit (w := w1.drew) (e := 5) (size := 1) #[bv 2] 1 rfl (by decide)).fr0 hF2); have m2 := fun o => (World.cell?_of_block (hF12.blk w.heap.size hs1 (by simp))).trans (m1 o))
      | (go_at_call 291; refine (HL.out _ _ (by first | exact hFw2 | exact hFw2.alloc _) (by first | exact Sl.lit (w := w2) (e := 5) (size := 1) #[bv 2] 1 rfl (by decide) | exact hlit)).mono ?_; rintro e w3 ⟨v3, rfl, ho3, hF3⟩; clear HL; have hF23 : Fr [] w2 w3 := (by first | exact hF3 | exact ((Fr.refl [] w2).alloc _).trans0 hF3); have ho3' := own_base ho3 (show w.heap.size ≤ _ by first | exact Nat.le_of_lt hs2 | (rw [World.size_alloc]; omega)); have m3 := fun o => (World.cell?_of_block (hF23.blk w.heap.size hs2 (by simp))).trans (m2 o)))
  all_goals
    go_wp2_with fail
    refine bodyPost_ret (v := .tuple #[v3, .int .i64 0]) (by simp [results, Tryz.results40, go_sem]) rfl ⟨_, rfl, ho3', hFw2.trans0 hF23⟩
end Go.Proofs.YtjelehcnpocnoaaGreatDoor
/- Layer 6, objects: Decode of a tree's bytes. -/
namespace Go.Proofs.YtjelehcnpocnoaaGreatDoor
set_option linter.unusedSimpArgs false
set_option linter.unusedVariables false
set_option linter.unnecessarySimpa false
open Go.RowKit
set_option maxRecDepth 100000
set_option maxHeartbeats 8000000

theorem eqBytes_calls (v1 v2 : Value) (l : Bs) (w : World) (h1 : Sl w 5 1 v1 l.length (l.map bv)) (h2 : Sl w 5 1 v2 l.length (l.map bv)) (hn : l.length ≤ 1000000000000) :
    Calls Tryz.prog 83 #[v1, v2] w fun e w' => e = .returned (.bool true) ∧ Fr [] w w' := by
  obtain ⟨a1, c1, rfl, h3, h4, hc1⟩ := h1.open1
  obtain ⟨a2, c2, rfl, h5, h6, hc2⟩ := h2.open1
  go_enter Tryz.func83, Tryz.ntmps83
  go_wp2_with fail
  go_loopw [13] (fun i wr => ∃ k : Nat, i = .int .i64 k ∧ k ≤ l.length ∧ Fr [] w wr) (fun i _ => l.length - (intOf i).toNat)
  case atStart => exact ⟨0, rfl, by omega, Fr.refl _ _⟩
  case round =>
    obtain ⟨k, rfl, hk, hF⟩ := hrel
    by_cases hlt : k < l.length
    · obtain ⟨g1, o1, rfl, hcell1⟩ := hc1 (by omega)
      obtain ⟨g2, o2, rfl, hcell2⟩ := hc2 (by omega)
      have x1 := hcell1 k hlt
      have y1 := hcell2 k hlt
      rw [List.getElem?_map, List.getElem?_eq_getElem hlt] at x1 y1
      generalize l[k] = ch at *
      simp only [Option.map_some, bv] at x1 y1
      have x1' := hF.cell x1 (by simp)
      have y1' := hF.cell y1 (by simp)
      have b1 : decide ((k : Int) < l.length) = true := by simp; omega
      have i1 : (k : Int) < l.length := by omega
      have e1 : IntKind.i64.wrap ((k : Int) + 1) = (k : Int) + 1 := by rw [IntKind.wrap_i64]; omega
      clear hcell1 hcell2 x1 y1 hc1 hc2
      go_wp2_with fail
      go_quiet (fail)
      go_wp2_with fail
      exact ⟨⟨k + 1, by simp, by omega, hF.drewN _⟩, by simp [intOf]; omega⟩
    · have b1 : decide ((k : Int) < l.length) = false := by simp; omega
      have i1 : (l.length : Int) ≤ k := by omega
      clear hc1 hc2
      go_wp2_with fail
      go_ret
      exact ⟨rfl, hF⟩
theorem encTree_len (l : List Ent) (h : okEnts l) : (encTree l).length ≤ 10 + 150 * l.length := by
  have h1 := encEnts_len l h.le
  have h2 := putNum_len9 (n := l.length) (by unfold mostNum; have := h.2.2; omega)
  simp [encTree]
  omega
/-- A row of cells is set. -/
def setL (B : Nat) : Nat → List Value → World → World
  | _, [], w => w
  | k, v :: vs, w => setL B (k + 1) vs (w.setCell ⟨B, k, none⟩ v)
theorem setL_fr (B : Nat) : ∀ (vs : List Value) (k : Nat) (w : World), Fr [B] w (setL B k vs w)
  | [], _, _ => Fr.refl _ _
  | v :: vs, k, w => ((Fr.refl [B] w).setCell (p := ⟨B, k, none⟩) (.inl (by simp)) v).trans (setL_fr B vs (k + 1) _) (by simp)
theorem setL_low (B : Nat) : ∀ (vs : List Value) (k : Nat) (w : World) (j : Nat), j < k → (setL B k vs w).cell? ⟨B, j, none⟩ = w.cell? ⟨B, j, none⟩
  | [], _, _, _, _ => rfl
  | v :: vs, k, w, j, h => (setL_low B vs (k + 1) _ j (by omega)).trans (cell_set_ne _ _ _ _ _ _ (.inr (by omega)))
theorem setL_cell (B : Nat) : ∀ (vs : List Value) (k : Nat) (w : World), (∀ j, j < vs.length → ∃ u, w.cell? ⟨B, k + j, none⟩ = some u) → ∀ j v, vs[j]? = some v → (setL B k vs w).cell? ⟨B, k + j, none⟩ = some v
  | [], _, _, _, _, _, h => by simp at h
  | x :: vs, k, w, hw, 0, v, h => by
    obtain rfl : x = v := by simpa using h
    obtain ⟨u, hu⟩ := hw 0 (by simp)
    exact (setL_low B vs (k + 1) _ k (by omega)).trans (cell_set_same _ _ _ _ _ hu)
  | x :: vs, k, w, hw, j + 1, v, h => by
    have := setL_cell B vs (k + 1) (w.setCell ⟨B, k, none⟩ x) (fun i hi => by
      obtain ⟨u, hu⟩ := hw (i + 1) (by simp; omega)
      exact ⟨u, by rw [cell_set_ne _ _ _ _ _ _ (.inr (by omega))]; rwa [show k + (i + 1) = k + 1 + i by omega] at hu⟩) j v (by simpa using h)
    rwa [show k + 1 + j = k + (j + 1) by omega] at this
theorem Decode_calls (vb : Value) (l : List Ent) (w : World) (h : Sl w 5 1 vb (encTree l).length ((encTree l).map bv)) (hok : okEnts l) :
    Calls Tryz.prog 43 #[vb] w fun e w' => ∃ ve, e = .returned (.tuple #[objV ve, .int .i64 0]) ∧ w'.ownsRow w.heap.size 70 3 ve l.length (evs l) ∧ Fr [] w w' := by
  have h4096 := hok.2.2
  have hlen := encTree_len l hok
  have hne : 0 < (encTree l).length := by simp [encTree]
  obtain ⟨v2, hv2, hcut⟩ := cut_from (P := Tryz.prog) u_bytes i_byte (by decide) h 1 (by omega) 1 rfl
  simp only [Nat.mul_one] at hv2
  rw [← List.map_drop] at hv2
  have hdr : (encTree l).drop 1 = putNum l.length ++ (encEnts l ++ []) := by simp [encTree]
  have hdl : (encTree l).length - 1 = (putNum l.length ++ (encEnts l ++ [])).length := by rw [← hdr]; simp
  rw [hdr, hdl] at hv2
  obtain ⟨a, c, rfl, h3, h4, hc⟩ := h.open1
  obtain ⟨g, o, rfl, hcell⟩ := hc hne
  have x0 := hcell 0 hne
  rw [List.getElem?_map, show (encTree l)[0]? = some 2 from rfl] at x0
  simp only [Option.map_some, bv, Nat.add_zero] at x0
  have b1 : (((encTree l).length : Int) == 0) = false := by rw [beq_eq_false_iff_ne]; omega
  have i1 : (0 : Int) < (encTree l).length := by omega
  have e0 : IntKind.i64.wrap (((2 : UInt8).toNat : Int)) = 2 := rfl
  have e1 : IntKind.i64.wrap 2 = 2 := rfl
  obtain ⟨a2, c2, rfl, h5, h6⟩ := hv2.shape
  have hpl : (putNum l.length).length ≤ 9 := putNum_len9 (n := l.length) (by unfold mostNum; omega)
  have HB := Lib.hid (fun (W : World) (vr : Value) (hW : RdAt W (w.heap.size + 1) vr (putNum l.length ++ (encEnts l ++ []))) (hs : w.heap.size + 1 ≤ W.heap.size) => body_calls (w.heap.size + 1) (w.heap.size + 1) vr [] l W hW hok.le (by omega) (by simp) (Nat.le_refl _) hs)
  have HEQ := Lib.hid (fun (W : World) (v1 v2 : Value) (h1 : Sl W 5 1 v1 (encTree l).length ((encTree l).map bv)) (h2 : Sl W 5 1 v2 (encTree l).length ((encTree l).map bv)) => eqBytes_calls v1 v2 (encTree l) W h1 h2 (by omega))
  have HCUT := Lib.hid hdr
  generalize putNum l.length ++ (encEnts l ++ []) = rest at *
  generalize hrl : rest.length = rl at *
  obtain ⟨WA, hWA⟩ : ∃ WA, (w.alloc (.cells #[.int .i64 0, .slice none 0 0, .slice none 0 0, .string ⟨#[]⟩, .slice none 0 0, .string ⟨#[]⟩, .string ⟨#[]⟩, .string ⟨#[]⟩, .int .i64 0, .string ⟨#[]⟩] 64)).alloc (.cells #[.slice a2 rl c2, .int .i64 0] 167) = WA := ⟨_, rfl⟩
  have hFA : Fr [] w WA := by rw [← hWA]; exact ((Fr.refl _ _).alloc _).alloc _
  have hsA : WA.heap.size = w.heap.size + 2 := by rw [← hWA]; simp
  have hRd : RdAt WA (w.heap.size + 1) (.slice a2 rl c2) rest := by
    have hs1 : (w.alloc (.cells #[.int .i64 0, .slice none 0 0, .slice none 0 0, .string ⟨#[]⟩, .slice none 0 0, .string ⟨#[]⟩, .string ⟨#[]⟩, .string ⟨#[]⟩, .int .i64 0, .string ⟨#[]⟩] 64)).heap.size = w.heap.size + 1 := by simp
    have q0 := World.cell?_alloc_new (w.alloc (.cells #[.int .i64 0, .slice none 0 0, .slice none 0 0, .string ⟨#[]⟩, .slice none 0 0, .string ⟨#[]⟩, .string ⟨#[]⟩, .string ⟨#[]⟩, .int .i64 0, .string ⟨#[]⟩] 64)) #[.slice a2 rl c2, .int .i64 0] 167
    have q1 := frozen_new (w.alloc (.cells #[.int .i64 0, .slice none 0 0, .slice none 0 0, .string ⟨#[]⟩, .slice none 0 0, .string ⟨#[]⟩, .string ⟨#[]⟩, .string ⟨#[]⟩, .int .i64 0, .string ⟨#[]⟩] 64)) #[.slice a2 rl c2, .int .i64 0] 167
    have q2 := heap_alloc_new (w.alloc (.cells #[.int .i64 0, .slice none 0 0, .slice none 0 0, .string ⟨#[]⟩, .slice none 0 0, .string ⟨#[]⟩, .string ⟨#[]⟩, .string ⟨#[]⟩, .int .i64 0, .string ⟨#[]⟩] 64)) (.cells #[.slice a2 rl c2, .int .i64 0] 167)
    rw [hs1, hWA] at q0 q1 q2
    exact ⟨q0 0, q0 1, q1, ⟨_, q2⟩, by rw [hrl]; exact hv2.fr0 hFA⟩
  have n1 : ∀ o, WA.cell? ⟨w.heap.size, o, none⟩ = #[Value.int .i64 0, .slice none 0 0, .slice none 0 0, .string ⟨#[]⟩, .slice none 0 0, .string ⟨#[]⟩, .string ⟨#[]⟩, .string ⟨#[]⟩, .int .i64 0, .string ⟨#[]⟩][o]? := fun o => by
    rw [← hWA]
    exact (World.cell?_of_block (w := w.alloc _) (Below.heap_alloc _ _ _ (by simp))).trans (World.cell?_alloc_new w _ _ o)
  have f1 : ∀ o, WA.frozen? ⟨w.heap.size, o, none⟩ = false := fun o => by
    rw [← hWA]
    exact (World.frozen?_of_block (w := w.alloc _) (Below.heap_alloc _ _ _ (by simp))).trans (frozen_new w _ _ o)
  have hrowA : WA.heap[w.heap.size]? = some (.cells #[.int .i64 0, .slice none 0 0, .slice none 0 0, .string ⟨#[]⟩, .slice none 0 0, .string ⟨#[]⟩, .string ⟨#[]⟩, .string ⟨#[]⟩, .int .i64 0, .string ⟨#[]⟩] 64 (0, 0)) := by
    rw [← hWA]
    exact (Below.heap_alloc _ _ _ (by simp)).trans (heap_alloc_new w _)
  have x0' := hFA.cell x0 (by simp)
  have HV := Lib.hid h
  generalize hbl : (encTree l).length = bl at *
  clear hcell hdl hc
  go_enter Tryz.func43, Tryz.ntmps43
  go_wp2_with fail
  refine (HB.out WA _ hRd (by omega)).mono ?_
  rintro e w1 ⟨ve, rfl, ho1, ⟨vb1, hrd1⟩, hbe1⟩
  obtain ⟨ea, ec, rfl, h7, h8⟩ := (Sl.of_own ho1).shape
  have t1 : w1.heap[w.heap.size]? = WA.heap[w.heap.size]? := hbe1.block w.heap.size (by omega)
  have hs1 : WA.heap.size ≤ w1.heap.size := hbe1.size
  have HM := Lib.hid (made_calls' ea l.length ec w1)
  have HEn := Lib.hid (fun (W : World) (hW : Fr [] w1 W) => Encode_calls (.slice ea l.length ec) l W ((Sl.of_own ho1).fr0 hW) hok)
  unfold objV bodyV at *
  clear HB
  go_wp2_with fail
  refine HM.out.mono ?_
  rintro e w2 ⟨rfl, hF2⟩
  clear HM
  go_wp2_with fail
  obtain ⟨W5, hW5⟩ : ∃ W5, w2.alloc (.cells #[.int .i64 2, .slice none 0 0, .slice ea l.length ec, .string ⟨#[]⟩, .slice none 0 0, .string ⟨#[]⟩, .string ⟨#[]⟩, .string ⟨#[]⟩, .int .i64 0, .string ⟨#[]⟩] 64) = W5 := ⟨_, rfl⟩
  have hF25 : Fr [] w2 W5 := by rw [← hW5]; exact (Fr.refl _ _).alloc _
  have hF15 : Fr [] w1 W5 := hF2.trans0 hF25
  have n5 : ∀ o, W5.cell? ⟨w2.heap.size, o, none⟩ = #[Value.int .i64 2, .slice none 0 0, .slice ea l.length ec, .string ⟨#[]⟩, .slice none 0 0, .string ⟨#[]⟩, .string ⟨#[]⟩, .string ⟨#[]⟩, .int .i64 0, .string ⟨#[]⟩][o]? := fun o => by
    rw [← hW5]; exact World.cell?_alloc_new w2 _ _ o
  have hs5 : W5.heap.size = w2.heap.size + 1 := by rw [← hW5]; simp
  rw [hW5]
  refine (HEn.out W5 hF15).mono ?_
  rintro e w3 ⟨v3, rfl, ho3, hF3⟩
  clear HEn
  obtain ⟨oa, oc, rfl, _⟩ := (Sl.of_own ho3).shape
  have hF13 : Fr [] w1 w3 := hF15.trans0 hF3
  have hrd3 := hrd1.fr0 hF13
  have rc1 := hrd3.c1
  have hbA : Below w.heap.size w w1 := hFA.below.trans (hbe1.mono (by omega))
  have hFw3 : Fr [] w w3 := Fr.of_below (hbA.trans (hF13.belowAt (by simp) (by omega)))
  have hs15 : w1.heap.size ≤ W5.heap.size := hF15.size
  have hs2 : w1.heap.size ≤ w2.heap.size := hF2.size
  have hs3 : W5.heap.size ≤ w3.heap.size := hF3.size
  have HEQ3 := Lib.hid (HEQ.out w3 _ _ (by rw [← hbl]; exact Sl.of_own ho3) (HV.out.fr0 hFw3))
  have HN5 := Lib.hid n5
  have HN1 := Lib.hid n1
  have HF1 := Lib.hid f1
  clear hW5 n5 n1 f1 hcut x0 x0' HEQ hWA
  go_wp2_with fail
  rw [hbl] at HEQ3
  refine HEQ3.out.mono ?_
  rintro e w4 ⟨rfl, hF4⟩
  clear HEQ3
  have hF54 : Fr [] W5 w4 := hF3.trans0 hF4
  have hF14 : Fr [] w1 w4 := hF15.trans0 hF54
  have m5 : ∀ o, w4.cell? ⟨w2.heap.size, o, none⟩ = #[Value.int .i64 2, .slice none 0 0, .slice ea l.length ec, .string ⟨#[]⟩, .slice none 0 0, .string ⟨#[]⟩, .string ⟨#[]⟩, .string ⟨#[]⟩, .int .i64 0, .string ⟨#[]⟩][o]? := fun o => (World.cell?_of_block (hF54.blk w2.heap.size (by omega) (by simp))).trans (HN5.out o)
  have hb2 : w4.heap[w.heap.size]? = WA.heap[w.heap.size]? := (hF14.blk w.heap.size (by omega) (by simp)).trans t1
  have m2 : ∀ o, w4.cell? ⟨w.heap.size, o, none⟩ = #[Value.int .i64 0, .slice none 0 0, .slice none 0 0, .string ⟨#[]⟩, .slice none 0 0, .string ⟨#[]⟩, .string ⟨#[]⟩, .string ⟨#[]⟩, .int .i64 0, .string ⟨#[]⟩][o]? := fun o => (World.cell?_of_block hb2).trans (HN1.out o)
  have f2 : ∀ o, w4.frozen? ⟨w.heap.size, o, none⟩ = false := fun o => (World.frozen?_of_block hb2).trans (HF1.out o)
  clear HN1 HF1 HN5
  go_wp2_with fail
  have hz := setL_cell w.heap.size [.int .i64 2, .slice none 0 0, .slice ea l.length ec, .string ⟨#[]⟩, .slice none 0 0, .string ⟨#[]⟩, .string ⟨#[]⟩, .string ⟨#[]⟩, .int .i64 0, .string ⟨#[]⟩] 0 w4 (fun j hj => by
    rw [Nat.zero_add, m2 j]
    exact ⟨_, Array.getElem?_eq_getElem (by simpa using hj)⟩)
  have hFz := setL_fr w.heap.size [.int .i64 2, .slice none 0 0, .slice ea l.length ec, .string ⟨#[]⟩, .slice none 0 0, .string ⟨#[]⟩, .string ⟨#[]⟩, .string ⟨#[]⟩, .int .i64 0, .string ⟨#[]⟩] 0 w4
  obtain ⟨WF, hWF⟩ : ∃ WF, setL w.heap.size 0 [.int .i64 2, .slice none 0 0, .slice ea l.length ec, .string ⟨#[]⟩, .slice none 0 0, .string ⟨#[]⟩, .string ⟨#[]⟩, .string ⟨#[]⟩, .int .i64 0, .string ⟨#[]⟩] w4 = WF := ⟨_, rfl⟩
  rw [hWF] at hz hFz
  simp only [setL, Nat.reduceAdd] at hWF
  rw [hWF]
  have z0 := hz 0 _ rfl
  have z1 := hz 1 _ rfl
  have z2 := hz 2 _ rfl
  have z3 := hz 3 _ rfl
  have z4 := hz 4 _ rfl
  have z5 := hz 5 _ rfl
  have z6 := hz 6 _ rfl
  have z7 := hz 7 _ rfl
  have z8 := hz 8 _ rfl
  have z9 := hz 9 _ rfl
  simp only [Nat.zero_add] at z0 z1 z2 z3 z4 z5 z6 z7 z8 z9
  have hown : w4.ownsRow (w.heap.size + 1) 70 3 (.slice ea l.length ec) l.length (evs l) := own_fr ho1 hF14 (off_nil _ _)
  have hrowB : ∃ cs, w4.heap[w.heap.size]? = some (.cells cs 64 (0, 0)) := ⟨_, hb2.trans hrowA⟩
  have hFin : Fr [] w WF := Fr.of_below (((hbA.trans (hF14.belowAt (by simp) (by omega)))).trans (hFz.belowAt (by simp) (by have := hF14.size; omega)))
  refine bodyPost_ret (v := .tuple #[.agg #[.int .i64 2, .slice none 0 0, .slice ea l.length ec, .string ⟨#[]⟩, .slice none 0 0, .string ⟨#[]⟩, .string ⟨#[]⟩, .string ⟨#[]⟩, .int .i64 0, .string ⟨#[]⟩], .int .i64 0]) (by simp [results, Tryz.results43, go_sem, z0, z1, z2, z3, z4, z5, z6, z7, z8, z9]) rfl ⟨_, rfl, own_base (own_fr hown hFz (off_row hrowB (by decide))) (by omega), hFin⟩
end Go.Proofs.YtjelehcnpocnoaaGreatDoor
