/- Joined: Press Press2 Press3. -/
import Derived.Test.YtjelehcnpocnoaaGreatDoorK04
import Derived.Deep.RegionLaw
import Derived.Deep.AppendLies
/- Layer 3, press: bytes made again. -/
namespace Go.Proofs.YtjelehcnpocnoaaGreatDoor
set_option linter.unusedSimpArgs false
set_option linter.unusedVariables false
set_option linter.unnecessarySimpa false
open Go.RowKit
set_option maxRecDepth 100000
set_option maxHeartbeats 2000000

/-- A piece of pressed bytes: bytes as they are, or a copy of n bytes from d back. -/
inductive Tok where
  | run (r : Bs)
  | copy (n d : Nat)
def Tok.enc : Tok → Bs
  | .run r => putNum (2 * (r.length - 1)) ++ r
  | .copy n d => putNum (2 * (n - 4) + 1) ++ putNum d
def copyN : Nat → Nat → Bs → Bs
  | 0, _, out => out
  | n + 1, d, out => copyN n d (out ++ [out.getD (out.length - d) 0])
def Tok.app : Tok → Bs → Bs
  | .run r, out => out ++ r
  | .copy n d, out => copyN n d out
def Tok.ok : Tok → Bs → Prop
  | .run r, _ => 1 ≤ r.length
  | .copy n d, out => 4 ≤ n ∧ n ≤ 259 ∧ 1 ≤ d ∧ d ≤ out.length ∧ d ≤ 4096
/-- What the pieces make of what was made. -/
def appAll : List Tok → Bs → Bs
  | [], out => out
  | t :: l, out => appAll l (t.app out)
def okAll : List Tok → Bs → Prop
  | [], _ => True
  | t :: l, out => t.ok out ∧ okAll l (t.app out)
def encAll (l : List Tok) : Bs := l.flatMap Tok.enc
theorem copyN_len : ∀ (n d : Nat) (out : Bs), (copyN n d out).length = out.length + n
  | 0, _, _ => rfl
  | n + 1, d, out => by rw [copyN, copyN_len n]; simp; omega
theorem app_len (t : Tok) (out : Bs) : out.length ≤ (t.app out).length := by
  cases t with
  | run r => simp [Tok.app]
  | copy n d => rw [Tok.app, copyN_len]; omega
theorem appAll_len : ∀ (l : List Tok) (out : Bs), out.length ≤ (appAll l out).length
  | [], _ => Nat.le_refl _
  | t :: l, out => Nat.le_trans (app_len t out) (appAll_len l _)
/-- Bytes that were pressed. -/
structure Pressed (p b : Bs) : Prop where
  toks : ∃ l, p = putNum b.length ++ encAll l ∧ okAll l [] ∧ appAll l [] = b

theorem Sl.frB {F : List Nat} {w w' : World} {e : TypeId} {size : Nat} {v : Value} {n : Nat} {xs : List Value} (h : Sl w e size v n xs) (hF : Fr F w w') (ho : ∀ k, v.ownBlock = some k → k ∉ F) : Sl w' e size v n xs := by
  obtain ⟨h1, a, c, rfl, h2, h3, h4, h5⟩ := h
  refine ⟨h1, a, c, rfl, h2, h3, h4, fun hn => ?_⟩
  obtain ⟨b, o, cs, fr, rfl, hb, hc⟩ := h5 hn
  exact ⟨b, o, cs, fr, rfl, hF.block hb (ho b rfl), hc⟩
theorem sliced_block (a : Option Addr) (l h m s n c : Nat) : (Go.sliced a l h m s).ownBlock = (Value.slice a n c).ownBlock := by
  unfold Go.sliced
  cases a with
  | none => split <;> rfl
  | some a =>
    split
    · rfl
    · simp only [Option.map_some, Value.ownBlock, Addr.add]; split <;> rfl
section
variable {P : Program} {t e : TypeId} {z : Value} {size bytes : Nat} (ht : P.underlying t = some (.slice e)) (hi : (P.info? e).map (fun i => (i.zero, i.size, i.bytes)) = some (some z, size, bytes)) (hs : 0 < size)
  {w : World} {v : Value} {n : Nat} {xs : List Value} (h : Sl w e size v n xs)
include ht hi hs h
theorem cut_fromB (k : Nat) (hk : k ≤ n) (x : Int) (hx : x = (k : Int)) : ∃ v', Sl w e size v' (n - k) (xs.drop (k * size)) ∧ v'.ownBlock = v.ownBlock ∧ ∀ W : World, (Instr.slice t v (some (.int .i64 x)) none none).run P W = .ok v' W := by
  subst hx
  obtain ⟨i0, hi0, hz⟩ := Option.map_eq_some_iff.1 hi
  simp only [Prod.mk.injEq] at hz
  have h' := h
  obtain ⟨hy, a, c, rfl, h2, h3, h4, h5⟩ := h'
  have hsub := sl_sub h k n hk (Nat.le_refl _) hs
  have hm2 : (n - k) * size = n * size - k * size := Nat.sub_mul ..
  rw [List.take_of_length_le (by rw [List.length_drop]; omega)] at hsub
  refine ⟨_, hsub, sliced_block _ _ _ _ _ _ _, fun W => ?_⟩
  have he : P.elem t = e := by simp [Program.elem, ht]
  rw [run_slice_l W t a n c (by rw [he]; exact ht) .i64 k (by omega) (by omega), he]
  simp [sizeOf, typeInfo, hi0, hz.2.1]
end

/-- The opener, in memory. -/
structure OpAt (base : Nat) (w : World) (B : Nat) (vp vo : Value) (p out : Bs) (size : Nat) : Prop where
  p0 : w.cell? ⟨B, 0, none⟩ = some vp
  p1 : w.cell? ⟨B, 1, none⟩ = some vo
  p2 : w.cell? ⟨B, 2, none⟩ = some (.int .i64 size)
  p3 : w.cell? ⟨B, 3, none⟩ = some (.int .i64 0)
  free : ∀ o, w.frozen? ⟨B, o, none⟩ = false
  row : ∃ cs, w.heap[B]? = some (.cells cs 281 (0, 0))
  sp : Sl w 5 1 vp p.length (p.map bv)
  so : w.ownsRow base 5 1 vo out.length (out.map bv)
  sep : 0 < p.length → ∀ k, vo.ownBlock = some k → vp.ownBlock ≠ some k
  base : base ≤ w.heap.size
theorem OpAt.lt {base : Nat} {w : World} {B : Nat} {vp vo : Value} {p out : Bs} {size : Nat} (h : OpAt base w B vp vo p out size) : B < w.heap.size := by
  obtain ⟨cs, h⟩ := h.row
  exact (Array.getElem?_eq_some_iff.1 h).1
theorem OpAt.off {base : Nat} {w : World} {B : Nat} {vp vo : Value} {p out : Bs} {size : Nat} (h : OpAt base w B vp vo p out size) : Off [B] w 5 := by
  obtain ⟨cs, h⟩ := h.row
  exact off_cons h (fun _ _ h => by simp at h) (off_nil _ _)

theorem next_calls (base B : Nat) (vp vo : Value) (n : Nat) (r out : Bs) (size : Nat) (w : World) (h : OpAt base w B vp vo (putNum n ++ r) out size) (hn : n ≤ mostNum) (hl : r.length ≤ 70368744177000) :
    Calls Tryz.prog 207 #[.pointer (some ⟨B, 0, none⟩)] w fun e w' => e = .returned (.int .i64 n) ∧ ∃ vp', OpAt base w' B vp' vo r out size ∧ Fr [B] w w' := by
  have hT : takeNum (putNum n ++ r) = some (n, r) := takeNum_put hn r
  have hpl : (putNum n ++ r).length ≤ 70368744177664 := by have := putNum_len9 hn; simp; omega
  generalize putNum n ++ r = L at h hT hpl
  have HT := Lib.hid hT
  clear hT
  have c0 := h.p0
  have f0 := h.free 0
  obtain ⟨a, c, rfl, h2, h3⟩ := h.sp.shape
  go_enter Tryz.func207, Tryz.ntmps207
  go_wp2_with fail
  refine (TakeNum_calls _ L w h.sp hpl).mono ?_
  rintro e w1 ⟨hF1, ⟨n', r', v', ht, rfl, ho⟩ | ⟨ht, rfl⟩⟩
  · obtain ⟨rfl, rfl⟩ : n = n' ∧ r = r' := by
      have := HT.out.symm.trans ht
      simpa using this
    clear ht
    have c0' := hF1.cell c0 (by simp)
    have f0' : w1.frozen? ⟨B, 0, none⟩ = false := (World.frozen?_of_block (w := w) (hF1.blk B h.lt (by simp))).trans f0
    have hB1 := hF1.blk B h.lt (by simp)
    obtain ⟨a', k', rfl, h4, h5⟩ := (Sl.of_own ho).shape
    clear c0 f0
    go_wp2_with fail
    go_ret
    have hF2 : Fr [B] w1 (w1.setCell ⟨B, 0, none⟩ (.slice a' r.length k')) := (Fr.refl _ _).setCell (.inl (by simp)) _
    have key : ∀ o v, o ≠ 0 → w.cell? ⟨B, o, none⟩ = some v → (w1.setCell ⟨B, 0, none⟩ (.slice a' r.length k')).cell? ⟨B, o, none⟩ = some v := fun o v ho hc => by
      rw [cell_set_ne _ _ _ _ _ _ (.inr ho)]; exact hF1.cell hc (by simp)
    have hoff : Off [B] w1 5 := by
      obtain ⟨cs, hr⟩ := h.row
      exact off_cons (hF1.block hr (by simp)) (fun _ _ h => by simp at h) (off_nil _ _)
    refine ⟨rfl, _, ⟨cell_set_same _ _ _ _ _ c0', key 1 _ (by decide) h.p1, key 2 _ (by decide) h.p2, key 3 _ (by decide) h.p3, fun o => ?_, ?_, (Sl.of_own ho).fr hF2 hoff, own_fr (own_fr h.so hF1 (off_nil _ _)) hF2 hoff, fun _ k hk hk2 => ?_, ?_⟩, (hF1.weaken (by simp)).trans hF2 (by simp)⟩
    · rw [World.frozen?_setCell]; exact (World.frozen?_of_block (w := w) hB1).trans (h.free o)
    · obtain ⟨cs, hr⟩ := h.row
      exact row_set ⟨cs, hF1.block hr (by simp)⟩ _ _
    · have h6 := own_block ho k hk2
      have h7 := h.so.lt k hk
      omega
    · exact Nat.le_trans h.base (Nat.le_trans hF1.size hF2.size)
  · rw [HT.out] at ht; cases ht

theorem want_calls (B : Nat) (w : World) (c3 : w.cell? ⟨B, 3, none⟩ = some (.int .i64 0)) :
    Calls Tryz.prog 208 #[.pointer (some ⟨B, 0, none⟩), .bool true] w fun e w' => e = .returned (.bool true) ∧ w' = w := by
  go_enter Tryz.func208, Tryz.ntmps208
  go_wp2_with fail
  go_ret
  exact ⟨rfl, rfl⟩

theorem OpAt.setOut {base : Nat} {w : World} {B : Nat} {vp vo : Value} {p out : Bs} {size : Nat} (h : OpAt base w B vp vo p out size) {w1 : World} {vo' : Value} {out' : Bs} (hF : Fr (B :: vo.ownBlock.toList) w w1) (hB : w1.cell? ⟨B, 0, none⟩ = some vp ∧ w1.cell? ⟨B, 2, none⟩ = some (.int .i64 size) ∧ w1.cell? ⟨B, 3, none⟩ = some (.int .i64 0))
    (hc : w1.cell? ⟨B, 1, none⟩ = some vo') (hfr : ∀ o, w1.frozen? ⟨B, o, none⟩ = false) (hr : ∃ cs, w1.heap[B]? = some (.cells cs 281 (0, 0))) (ho : w1.ownsRow base 5 1 vo' out'.length (out'.map bv))
    (hat : vo'.ownBlock = vo.ownBlock ∨ ∃ k, vo'.ownBlock = some k ∧ w.heap.size ≤ k) : OpAt base w1 B vp vo' p out' size := by
  have hsp : Sl w1 5 1 vp p.length (p.map bv) := by
    by_cases hl : p.length = 0
    · obtain ⟨h1, a, c, rfl, h2, h3, h4, _⟩ := h.sp
      exact ⟨h1, a, c, rfl, h2, h3, h4, fun h => by omega⟩
    · refine h.sp.frB hF (fun k hk hx => ?_)
      rcases List.mem_cons.1 hx with rfl | hx
      · obtain ⟨h1, a, c, rfl, h2, h3, h4, h5⟩ := h.sp
        obtain ⟨b, o, cs, fr, rfl, hb, _⟩ := h5 (by omega)
        obtain ⟨cs', hrow⟩ := h.row
        obtain rfl : b = k := by simpa [Value.ownBlock] using hk
        rw [hrow] at hb; cases hb
      · exact h.sep (by omega) k (by simpa [eq_comm] using hx) hk
  refine ⟨hB.1, hc, hB.2.1, hB.2.2, hfr, hr, hsp, ho, fun hp k hk hk2 => ?_, Nat.le_trans h.base hF.size⟩
  rcases hat with hat | ⟨k', hat, hk'⟩
  · exact h.sep hp k (hat ▸ hk) hk2
  · rw [hat] at hk
    obtain rfl : k' = k := by simpa using hk
    obtain ⟨h1, a, c, rfl, h2, h3, h4, h5⟩ := h.sp
    obtain ⟨b, o, cs, fr, rfl, hb, _⟩ := h5 hp
    obtain rfl : b = k' := by simpa [Value.ownBlock] using hk2
    have := (Array.getElem?_eq_some_iff.1 hb).1
    omega
theorem OpAt.setP {base : Nat} {w : World} {B : Nat} {vp vo : Value} {p out : Bs} {size : Nat} (h : OpAt base w B vp vo p out size) {vp' : Value} {p' : Bs} (hs : Sl w 5 1 vp' p'.length (p'.map bv)) (hb : vp'.ownBlock = vp.ownBlock) (hp : 0 < p'.length → 0 < p.length) : OpAt base (w.setCell ⟨B, 0, none⟩ vp') B vp' vo p' out size := by
  have hF : Fr [B] w (w.setCell ⟨B, 0, none⟩ vp') := (Fr.refl _ _).setCell (.inl (by simp)) _
  have key : ∀ o v, o ≠ 0 → w.cell? ⟨B, o, none⟩ = some v → (w.setCell ⟨B, 0, none⟩ vp').cell? ⟨B, o, none⟩ = some v := fun o v ho hc => by
    rw [cell_set_ne _ _ _ _ _ _ (.inr ho)]; exact hc
  exact ⟨cell_set_same _ _ _ _ _ h.p0, key 1 _ (by decide) h.p1, key 2 _ (by decide) h.p2, key 3 _ (by decide) h.p3, fun o => by rw [World.frozen?_setCell]; exact h.free o, row_set h.row _ _, hs.fr hF h.off, own_fr h.so hF h.off,
    fun hp' k hk hk2 => h.sep (hp hp') k hk (hb ▸ hk2), Nat.le_trans h.base hF.size⟩

theorem run_calls (base B : Nat) (vp vo : Value) (l r out : Bs) (size : Nat) (w : World) (h : OpAt base w B vp vo (l ++ r) out size) (h1 : 1 ≤ l.length) (hs : out.length + l.length ≤ size) (hl : size ≤ 70368744177000) (hr : r.length ≤ 70368744177000) :
    Calls Tryz.prog 209 #[.pointer (some ⟨B, 0, none⟩), .int .i64 l.length] w fun e w' => e = .returned (.tuple #[]) ∧ ∃ vp' vo', OpAt base w' B vp' vo' r (out ++ l) size ∧ Fr (B :: vo.ownBlock.toList) w w' ∧ (vo'.ownBlock = vo.ownBlock ∨ ∃ k, vo'.ownBlock = some k ∧ w.heap.size ≤ k) := by
  have hLl : l.length ≤ (l ++ r).length := by simp
  generalize hL : l ++ r = L at h hLl
  have HL := Lib.hid hL
  clear hL
  have c0 := h.p0
  have c1 := h.p1
  have c2 := h.p2
  have c3 := h.p3
  obtain ⟨a, c, rfl, h2, h3⟩ := h.sp.shape
  obtain ⟨a2, c2', rfl, h4, h5⟩ := (Sl.of_own h.so).shape
  have e1 : IntKind.i64.wrap ((size : Int) - out.length) = size - out.length := by rw [IntKind.wrap_i64]; omega
  have b1 : decide ((l.length : Int) ≤ size - out.length) = true := by simp; omega
  have b2 : decide ((l.length : Int) ≤ (L.length : Nat)) = true := by simp; omega
  go_enter Tryz.func209, Tryz.ntmps209
  go_wp2_with fail
  go_region_held3 (fun w' => w'.cell? ⟨B, 0, none⟩ = some (.slice a L.length c) ∧ w'.cell? ⟨B, 1, none⟩ = some (.slice a2 out.length c2') ∧ w'.cell? ⟨B, 2, none⟩ = some (.int .i64 size) ∧ w'.cell? ⟨B, 3, none⟩ = some (.int .i64 0)) (go_keep)
    ((go_at_call 208; refine (want_calls B _ ?_).mono ?_; (first | assumption | simp [*]); rintro e w2 ⟨rfl, rfl⟩))
  have hF1 : Fr [] w w.drew := (Fr.refl _ _).drew
  have hso1 : w.drew.drew.ownsRow base 5 1 (.slice a2 out.length c2') out.length (out.map bv) := own_fr h.so (hF1.drew) (off_nil _ _)
  have hsp1 : Sl w.drew.drew 5 1 (.slice a L.length c) L.length (L.map bv) := h.sp.fr0 (hF1.drew)
  obtain ⟨vt, hvt, rt⟩ := cut_to (P := Tryz.prog) u_bytes i_byte (by decide) hsp1 l.length hLl (l.length : Int) rfl
  have hvt' : Sl w.drew.drew 5 1 vt l.length (l.map bv) := by
    have e : (L.map bv).take (l.length * 1) = l.map bv := by rw [← HL.out]; simp
    rw [e] at hvt; exact hvt
  have hBn : B ∉ (Value.slice a2 out.length c2').ownBlock.toList := own_ne h.so h.row (by decide)
  have f1 := h.free 1
  have hbase : base ≤ w.drew.drew.heap.size := h.base
  have HH := Lib.hid h
  clear c2 c3 h hvt
  go_wp2_with fail
  go_region_law
    ((refine step_app base rfl _ _ 60 5 (.int .u8 0) 1 1 rfl u_bytes i_byte rfl (by decide) (.slice a2 out.length c2') _ _ rfl hso1 l.length (l.map bv) hvt' (bv_one l) (by omega) (by omega) hbase ?_; intro v2 w2 ho2 hg2 hat2; have hF2 : Fr (Value.slice a2 out.length c2').ownBlock.toList w.drew.drew w2 := (Fr.refl _ _).grown hg2 (fun k hk => .inl (by simp [hk])); have k0' := hF2.cell (p := ⟨B, 0, none⟩) c0 hBn; have k1' := hF2.cell (p := ⟨B, 1, none⟩) c1 hBn; have f1' : w2.frozen? ⟨B, 1, none⟩ = false := (World.frozen?_of_block (w := w.drew.drew) (hF2.blk B HH.out.lt hBn)).trans f1; obtain ⟨a3, c3, rfl, h6, h7⟩ := (Sl.of_own ho2).shape; have HG := Lib.hid hat2; clear hat2))
  all_goals
    have hF3 : Fr (B :: (Value.slice a2 out.length c2').ownBlock.toList) w (w2.setCell ⟨B, 1, none⟩ (.slice a3 (out.length + l.length) c3)) :=
      (((hF1.drew.weaken (G := B :: (Value.slice a2 out.length c2').ownBlock.toList) (by simp)).trans (hF2.weaken (G := B :: (Value.slice a2 out.length c2').ownBlock.toList) (fun x hx => .inl (List.mem_cons_of_mem _ hx))) (fun x hx => .inl hx)).setCell (.inl (by simp)) _)
    have hk2 := hF2.cell (p := ⟨B, 2, none⟩) HH.out.p2 hBn
    have hk3 := hF2.cell (p := ⟨B, 3, none⟩) HH.out.p3 hBn
    have hrw : ∃ cs, w2.heap[B]? = some (.cells cs 281 (0, 0)) := by
      obtain ⟨cs, hr⟩ := HH.out.row
      exact ⟨cs, hF2.block (w := w.drew.drew) hr hBn⟩
    have hFs : Fr [B] w2 (w2.setCell ⟨B, 1, none⟩ (.slice a3 (out.length + l.length) c3)) := (Fr.refl _ _).setCell (.inl (by simp)) _
    have hoff2 : Off [B] w2 5 := by
      obtain ⟨cs, hr⟩ := hrw
      exact off_cons hr (fun _ _ h => by simp at h) (off_nil _ _)
    have hO1 : OpAt base (w2.setCell ⟨B, 1, none⟩ (.slice a3 (out.length + l.length) c3)) B (.slice a L.length c) (.slice a3 (out.length + l.length) c3) L (out ++ l) size := by
      refine HH.out.setOut hF3 ⟨?_, ?_, ?_⟩ (cell_set_same _ _ _ _ _ k1') (fun o => ?_) (row_set hrw _ _) ?_ ?_
      · rw [cell_set_ne _ _ _ _ _ _ (.inr (by decide))]; exact k0'
      · rw [cell_set_ne _ _ _ _ _ _ (.inr (by decide))]; exact hk2
      · rw [cell_set_ne _ _ _ _ _ _ (.inr (by decide))]; exact hk3
      · rw [World.frozen?_setCell]
        exact (World.frozen?_of_block (w := w.drew.drew) (hF2.blk B HH.out.lt hBn)).trans (HH.out.free o)
      · have := own_fr ho2 hFs hoff2
        simpa using this
      · rcases HG.out with h | h
        · exact .inl h
        · exact .inr ⟨_, h, Nat.le_refl _⟩
    obtain ⟨vf, hvf, hvb, rf⟩ := cut_fromB (P := Tryz.prog) u_bytes i_byte (by decide) hO1.sp l.length hLl (l.length : Int) rfl
    have hLr : L.length - l.length = r.length := by rw [← HL.out]; simp
    have hvf' : Sl (w2.setCell ⟨B, 1, none⟩ (.slice a3 (out.length + l.length) c3)) 5 1 vf r.length (r.map bv) := by
      have e : (L.map bv).drop (l.length * 1) = r.map bv := by rw [← HL.out]; simp
      rw [e, hLr] at hvf; exact hvf
    obtain ⟨a4, c4, rfl, h8, h9⟩ := hvf'.shape
    have hO2 := hO1.setP hvf' hvb (fun _ => by omega)
    have m0 := hO1.p0
    have g0 := hO1.free 0
    have hF4 := hF3.setCell (p := ⟨B, 0, none⟩) (.inl (by simp)) (.slice a4 r.length c4)
    have HG' : Hid ((Value.slice a3 (out.length + l.length) c3).ownBlock = (Value.slice a2 out.length c2').ownBlock ∨ ∃ k, (Value.slice a3 (out.length + l.length) c3).ownBlock = some k ∧ w.heap.size ≤ k) := by
      rcases HG.out with h | h
      · exact .inl h
      · exact .inr ⟨_, h, Nat.le_refl _⟩
    have HO2 := Lib.hid hO2
    have HF4 := Lib.hid hF4
    clear hO2 hF4 hO1 hvf hvf' hvb hF3 hk2 hk3 hFs hoff2 k0' k1' f1' hg2 ho2 HG hso1 hsp1 hvt' rt
    generalize w2.setCell ⟨B, 1, none⟩ (.slice a3 (out.length + l.length) c3) = w3 at *
    go_wp2_with fail
    go_end0
    exact ⟨rfl, _, _, HO2.out, HF4.out, HG'.out⟩

theorem Fr.belowAt {F : List Nat} {w w' : World} {base : Nat} (h : Fr F w w') (hF : ∀ k ∈ F, base ≤ k) (hb : base ≤ w.heap.size) : Below base w w' :=
  ⟨h.os, h.tape, h.output, h.size, fun k hk => h.blk k (by omega) (fun hx => by have := hF k hx; omega)⟩
theorem own_ge {w : World} {base : Nat} {e : TypeId} {size : Nat} {v : Value} {n : Nat} {xs : List Value} (h : w.ownsRow base e size v n xs) : ∀ k ∈ v.ownBlock.toList, base ≤ k := fun k hk => own_block h k (by simpa [eq_comm] using hk)

end Go.Proofs.YtjelehcnpocnoaaGreatDoor
/- Layer 3, press: a copy made again. -/
namespace Go.Proofs.YtjelehcnpocnoaaGreatDoor
set_option linter.unusedSimpArgs false
set_option linter.unusedVariables false
set_option linter.unnecessarySimpa false
open Go.RowKit
set_option maxRecDepth 100000
set_option maxHeartbeats 20000000

theorem copied_calls (base B : Nat) (vp vo : Value) (n d : Nat) (r out : Bs) (size : Nat) (w : World) (h : OpAt base w B vp vo (putNum d ++ r) out size) (h1 : 4 ≤ n) (h2 : n ≤ 259) (h3 : 1 ≤ d) (h4 : d ≤ out.length) (h5 : d ≤ 4096) (hs : out.length + n ≤ size) (hl : size ≤ 70368744177000) (hr : r.length ≤ 70368744177000) (hB : base ≤ B) :
    Calls Tryz.prog 210 #[.pointer (some ⟨B, 0, none⟩), .int .i64 n] w fun e w' => e = .returned (.tuple #[]) ∧ ∃ vp' vo', OpAt base w' B vp' vo' r (copyN n d out) size ∧ Below base w w' := by
  have hbl : base ≤ w.heap.size := h.base
  go_enter Tryz.func210, Tryz.ntmps210
  go_wp2_with fail
  refine (next_calls base B vp vo d r out size w h (by unfold mostNum; omega) hr).mono ?_
  rintro e w1 ⟨rfl, vp', h', hF⟩
  have c0 := h'.p0
  have c1 := h'.p1
  have c2 := h'.p2
  have c3 := h'.p3
  obtain ⟨a, c, rfl, h6, h7⟩ := h'.sp.shape
  obtain ⟨a2, c2', rfl, h8, h9⟩ := (Sl.of_own h'.so).shape
  have e1 : IntKind.i64.wrap ((size : Int) - out.length) = size - out.length := by rw [IntKind.wrap_i64]; omega
  have b1 : decide ((n : Int) ≤ size - out.length) = true := by simp; omega
  have b2 : decide ((n : Int) ≤ 259) = true := by simp; omega
  have b3 : decide (1 ≤ (d : Int)) = true := by simp; omega
  have b4 : decide ((d : Int) ≤ out.length) = true := by simp; omega
  have b5 : decide ((d : Int) ≤ 4096) = true := by simp; omega
  clear h
  go_wp2_with fail
  go_region_held3 (fun w' => w'.cell? ⟨B, 1, none⟩ = some (.slice a2 out.length c2') ∧ w'.cell? ⟨B, 2, none⟩ = some (.int .i64 size) ∧ w'.cell? ⟨B, 3, none⟩ = some (.int .i64 0)) (go_keep)
    ((go_at_call 208; refine (want_calls B _ ?_).mono ?_; (first | assumption | simp [*]); rintro e w2 ⟨rfl, rfl⟩))
  have hbw : Below base w w1.drew := (hF.belowAt (by simpa using hB) hbl).trans (((Fr.refl [] w1).drew).belowAt (by simp) h'.base)
  have hO : OpAt base w1.drew B (.slice a r.length c) (.slice a2 out.length c2') r out size :=
    ⟨h'.p0, h'.p1, h'.p2, h'.p3, h'.free, h'.row, h'.sp.fr0 (Fr.refl _ _).drew, own_fr h'.so (Fr.refl [] _).drew (off_nil _ _), h'.sep, h'.base⟩
  clear h' c0 c1 c2 c3 hF
  generalize w1.drew = w2 at *
  go_wp2_with fail
  go_loopw [43] (fun i wr => ∃ (k : Nat) (vo : Value) (o : Bs), k ≤ n ∧ i = .int .i64 k ∧ OpAt base wr B (.slice a r.length c) vo r o size ∧ Hid (o.length = out.length + k) ∧ Hid (copyN (n - k) d o = copyN n d out) ∧ Below base w wr) (fun i _ => n - (intOf i).toNat)
  case atStart => exact ⟨0, _, out, Nat.zero_le _, rfl, hO, by simp [Hid], by simp [Hid], hbw⟩
  case round =>
    obtain ⟨k, vk, o, hk, rfl, hK, hol, hcp, hb⟩ := hrel
    clear hO hbw
    by_cases hkn : k < n
    · obtain ⟨g, cap, rfl, hg1, hg2⟩ := hK.so.form (by have := hol.out; omega)
      obtain ⟨m, hm⟩ : ∃ m : Nat, m = o.length - d := ⟨_, rfl⟩
      have hmo : m < o.length := by have := hol.out; omega
      have ew : IntKind.i64.wrap ((o.length : Int) - d) = (m : Int) := by have := hol.out; rw [IntKind.wrap_i64]; omega
      have hcell := hK.so.cells (g := g) rfl m (bv (o.getD m 0)) (by simp [List.getD_eq_getElem?_getD, hmo])
      have hadd : (⟨g, 0, none⟩ : Addr).add m = ⟨g, m, none⟩ := by unfold Addr.add; split <;> simp_all
      rw [hadd] at hcell
      have HM := Lib.hid hm
      unfold bv at hcell
      generalize hch : o.getD m 0 = ch at hcell
      have HCH := Lib.hid hch
      have hshape := (Sl.of_own hK.so).shape
      have hcap : o.length ≤ cap ∧ cap ≤ 9223372036854775807 := by
        obtain ⟨a', c', he, h1, h2⟩ := hshape
        simp at he; omega
      obtain ⟨hcap1, hcap2⟩ := hcap
      have hBlt := hK.lt
      have hob : o.length ≤ 70368744177000 := by have := hol.out; omega
      have k1 := hK.p1
      have f1 := hK.free 1
      have hBn : B ∉ (Value.slice (some ⟨g, 0, none⟩) o.length cap).ownBlock.toList := own_ne hK.so hK.row (by decide)
      clear hm hch hshape hadd
      go_wp2_with fail
      go_region_law ((refine step_app base rfl _ _ 60 5 (.int .u8 0) 1 1 rfl u_bytes i_byte rfl (by decide) (.slice (some ⟨g, 0, none⟩) o.length cap) _ _ rfl (own_fr hK.so ((Fr.refl [] _).drew.alloc _) (off_nil _ _)) 1 [bv ch] (Sl.lit (w := wr.drew) #[bv ch] 1 rfl (by decide)) (one_cell _ rfl) (by omega) (by omega) (by have := hK.base; simp only [World.size_alloc, World.drew]; omega) ?_; intro v2 w2 ho2 hg2 hat2; have hF2 : Fr (Value.slice (some ⟨g, 0, none⟩) o.length cap).ownBlock.toList wr w2 := (((Fr.refl _ _).alloc (.cells #[.int .u8 (ch.toNat : Int)] 5)).drew).grown hg2 (fun k hk => .inl (by simp [hk])); have k1' := hF2.cell (p := ⟨B, 1, none⟩) k1 hBn; have f1' : w2.frozen? ⟨B, 1, none⟩ = false := (World.frozen?_of_block (w := wr) (hF2.blk B hK.lt hBn)).trans f1; obtain ⟨a3, c3, rfl, h6, h7⟩ := (Sl.of_own ho2).shape; have HG := Lib.hid hat2; clear hat2))
      all_goals
        have hF3 : Fr (B :: (Value.slice (some ⟨g, 0, none⟩) o.length cap).ownBlock.toList) wr (w2.setCell ⟨B, 1, none⟩ (.slice a3 (o.length + 1) c3)) :=
          (hF2.weaken (G := B :: (Value.slice (some ⟨g, 0, none⟩) o.length cap).ownBlock.toList) (fun x hx => .inl (List.mem_cons_of_mem _ hx))).setCell (.inl (by simp)) _
        have hrw : ∃ cs, w2.heap[B]? = some (.cells cs 281 (0, 0)) := by
          obtain ⟨cs, hr⟩ := hK.row
          exact ⟨cs, hF2.block hr hBn⟩
        have hoff2 : Off [B] w2 5 := by
          obtain ⟨cs, hr⟩ := hrw
          exact off_cons hr (fun _ _ h => by simp at h) (off_nil _ _)
        have hO1 : OpAt base (w2.setCell ⟨B, 1, none⟩ (.slice a3 (o.length + 1) c3)) B (.slice a r.length c) (.slice a3 (o.length + 1) c3) r (o ++ [ch]) size := by
          refine hK.setOut hF3 ⟨?_, ?_, ?_⟩ (cell_set_same _ _ _ _ _ k1') (fun q => ?_) (row_set hrw _ _) ?_ ?_
          · rw [cell_set_ne _ _ _ _ _ _ (.inr (by decide))]; exact hF2.cell hK.p0 hBn
          · rw [cell_set_ne _ _ _ _ _ _ (.inr (by decide))]; exact hF2.cell hK.p2 hBn
          · rw [cell_set_ne _ _ _ _ _ _ (.inr (by decide))]; exact hF2.cell hK.p3 hBn
          · rw [World.frozen?_setCell]
            exact (World.frozen?_of_block (w := wr) (hF2.blk B hBlt hBn)).trans (hK.free q)
          · have := own_fr ho2 ((Fr.refl [B] w2).setCell (p := ⟨B, 1, none⟩) (.inl (by simp)) (.slice a3 (o.length + 1) c3)) hoff2
            simpa [bv] using this
          · rcases HG.out with h | h
            · exact .inl h
            · exact .inr ⟨_, h, by simp⟩
        have hb3 : Below base w (w2.setCell ⟨B, 1, none⟩ (.slice a3 (o.length + 1) c3)) := hb.trans (hF3.belowAt (fun x hx => (List.mem_cons.1 hx).elim (fun h => by omega) (fun h => own_ge hK.so x h)) hK.base)
        have hcp2 : Hid (copyN (n - (k + 1)) d (o ++ [ch]) = copyN n d out) := by
          have e : n - k = (n - (k + 1)) + 1 := by omega
          have := hcp.out
          rw [e, copyN, ← HM.out, HCH.out] at this
          exact this
        clear hF3 hF2 k1' f1' hg2 ho2 HG
        generalize w2.setCell ⟨B, 1, none⟩ (.slice a3 (o.length + 1) c3) = w3 at *
        go_wp2_with fail
        go_roundw
        case rel => exact ⟨k + 1, _, o ++ [ch], by omega, by simp, hO1, by have := hol.out; simp [Hid]; omega, hcp2, hb3⟩
        case measure => simp [intOf]; omega
    · obtain rfl : k = n := by omega
      have hfin := hcp.out
      rw [Nat.sub_self, copyN] at hfin
      have HFIN := Lib.hid hfin
      clear hfin
      go_wp2_with fail
      go_end0
      exact ⟨rfl, _, _, by rw [← HFIN.out]; exact hK, hb⟩
end Go.Proofs.YtjelehcnpocnoaaGreatDoor
/- Layer 3, press: Open. -/
namespace Go.Proofs.YtjelehcnpocnoaaGreatDoor
set_option linter.unusedSimpArgs false
set_option linter.unusedVariables false
set_option linter.unnecessarySimpa false
open Go.RowKit
set_option maxRecDepth 100000
set_option maxHeartbeats 4000000

theorem wrap64_id (x : Int) (h1 : -9223372036854775808 ≤ x) (h2 : x < 9223372036854775808) : wrap64 x = x := by
  unfold wrap64
  rw [Int.emod_eq_of_lt (by omega) (by omega)]
  omega
theorem half_plus (N k m : Nat) (h : N / 2 + k = m) (hm : m < 4611686018427387904) (hN : N < 4611686018427387904) (hk : k < 1000) : wrap64 (wrap64 ((N : Int) / 2) + (k : Int)) = (m : Int) := by
  have e : (N : Int) / 2 = ((N / 2 : Nat) : Int) := by omega
  rw [e, wrap64_id ((N / 2 : Nat) : Int) (by omega) (by omega), wrap64_id _ (by omega) (by omega)]
  omega
theorem and1 (a : Nat) (ha : a < 4611686018427387904) : bits .and .i64 (a : Int) 1 = ((a % 2 : Nat) : Int) := by
  have h1 : (BitVec.ofInt 64 (a : Int)).toNat = a := by rw [BitVec.ofInt_natCast, BitVec.toNat_ofNat]; exact Nat.mod_eq_of_lt (by omega)
  have h2 : (BitVec.ofInt 64 (1 : Int)).toNat = 1 := rfl
  show IntKind.i64.wrap ((BitVec.ofInt 64 (a : Int) &&& BitVec.ofInt 64 (1 : Int)).toNat : Int) = _
  rw [BitVec.toNat_and, h1, h2, Nat.and_one_is_mod, IntKind.wrap_i64]
  omega
theorem OpAt.setSize {base : Nat} {w : World} {B : Nat} {vp vo : Value} {p out : Bs} {size : Nat} (h : OpAt base w B vp vo p out size) (s : Nat) : OpAt base (w.setCell ⟨B, 2, none⟩ (.int .i64 s)) B vp vo p out s := by
  have hF : Fr [B] w (w.setCell ⟨B, 2, none⟩ (.int .i64 s)) := (Fr.refl _ _).setCell (.inl (by simp)) _
  have key : ∀ o v, o ≠ 2 → w.cell? ⟨B, o, none⟩ = some v → (w.setCell ⟨B, 2, none⟩ (.int .i64 s)).cell? ⟨B, o, none⟩ = some v := fun o v ho hc => by
    rw [cell_set_ne _ _ _ _ _ _ (.inr ho)]; exact hc
  exact ⟨key 0 _ (by decide) h.p0, key 1 _ (by decide) h.p1, cell_set_same _ _ _ _ _ h.p2, key 3 _ (by decide) h.p3, fun o => by rw [World.frozen?_setCell]; exact h.free o, row_set h.row _ _, h.sp.fr hF h.off, own_fr h.so hF h.off, h.sep, Nat.le_trans h.base hF.size⟩

theorem Open_calls (v : Value) (p b : Bs) (most : Int) (w : World) (hv : Sl w 5 1 v p.length (p.map bv)) (hp : Pressed p b) (hpl : p.length ≤ 70368744170000) (hbl : b.length ≤ 70368744170000) (hm : (b.length : Int) ≤ most) :
    Calls Tryz.prog 147 #[v, .int .i64 most] w fun e w' => ∃ v', e = .returned (.tuple #[v', .int .i64 0]) ∧ w'.ownsRow w.heap.size 5 1 v' b.length (b.map bv) ∧ Fr [] w w' := by
  obtain ⟨toks, rfl, hok, happ⟩ := hp.toks
  obtain ⟨a, c, rfl, h2, h3⟩ := hv.shape
  have hB0 : OpAt w.heap.size (w.alloc (.cells #[.slice a (putNum b.length ++ encAll toks).length c, .slice none 0 0, .int .i64 0, .int .i64 0] 281)) w.heap.size (.slice a (putNum b.length ++ encAll toks).length c) (.slice none 0 0) (putNum b.length ++ encAll toks) [] 0 := by
    have hn1 := heap_alloc_new w (.cells #[.slice a (putNum b.length ++ encAll toks).length c, .slice none 0 0, .int .i64 0, .int .i64 0] 281)
    refine ⟨?_, ?_, ?_, ?_, ?_, ⟨_, hn1⟩, hv.fr0 ((Fr.refl _ _).alloc _), World.ownsRow_nil _ _ _ _, fun _ k hk => by simp [Value.ownBlock] at hk, by simp⟩
    · simp only [World.cell?, hn1]; rfl
    · simp only [World.cell?, hn1]; rfl
    · simp only [World.cell?, hn1]; rfl
    · simp only [World.cell?, hn1]; rfl
    · intro o; simp only [World.frozen?, hn1]; simp
  have hb0 : Below w.heap.size w (w.alloc (.cells #[.slice a (putNum b.length ++ encAll toks).length c, .slice none 0 0, .int .i64 0, .int .i64 0] 281)) := ((Fr.refl [] w).alloc _).below
  have hel : (encAll toks).length ≤ 70368744177000 := by simp at hpl; omega
  have HN := Lib.hid (fun W h => next_calls w.heap.size w.heap.size (.slice a (putNum b.length ++ encAll toks).length c) (.slice none 0 0) b.length (encAll toks) [] 0 W h (by unfold mostNum; omega) hel)
  generalize hP : putNum b.length ++ encAll toks = P at *
  clear hpl hP
  go_enter Tryz.func147, Tryz.ntmps147
  go_wp2_with fail
  refine (HN.out _ hB0).mono ?_
  rintro e w1 ⟨rfl, vp', hO, hF1⟩
  have hb1 : Below w.heap.size w w1 := hb0.trans (hF1.belowAt (by simp) hB0.base)
  have c2 := hO.p2
  have f2 := hO.free 2
  have hO2 := hO.setSize b.length
  have hb2 : Below w.heap.size w (w1.setCell ⟨w.heap.size, 2, none⟩ (.int .i64 b.length)) := hb1.trans (((Fr.refl [w.heap.size] w1).setCell (.inl (by simp)) _).belowAt (by simp) hO.base)
  have hdm : decide ((b.length : Int) ≤ most) = true := by simpa using hm
  have d2 := hO2.p2
  have d3 := hO2.p3
  clear HN hB0 hb0 hF1 hO hb1 hv
  go_wp2_with fail
  clear c2 f2
  generalize w1.setCell ⟨w.heap.size, 2, none⟩ (.int .i64 b.length) = w2 at *
  refine (want_calls _ w2 d3).mono ?_
  rintro e w3 ⟨rfl, rfl⟩
  clear d2 d3
  have HB := Lib.hid hb2
  go_wp2_with fail
  go_loopw [] (fun wr => ∃ (l : List Tok) (vp vo : Value) (out : Bs), OpAt w.heap.size wr w.heap.size vp vo (encAll l) out b.length ∧ okAll l out ∧ Hid (appAll l out = b) ∧ Hid ((encAll l).length ≤ 70368744177000) ∧ Below w.heap.size w wr)
    (fun wr => match wr.cell? ⟨w.heap.size, 0, none⟩ with | some (.slice _ n _) => n | _ => 0)
  case atStart => exact ⟨toks, _, _, [], hO2, hok, happ, hel, hb2⟩
  case round =>
    obtain ⟨l, vp, vo, out, hK, hok', hap, hll, hb⟩ := hrel
    clear hO2 hok happ hel hb2
    cases l with
    | nil =>
      obtain ⟨a1, c1, rfl, h4, h5⟩ := hK.sp.shape
      have k0 : wr.cell? ⟨w.heap.size, 0, none⟩ = some (.slice a1 0 c1) := hK.p0
      have k3 := hK.p3
      obtain ⟨a2, c2, rfl, h6, h7⟩ := (Sl.of_own hK.so).shape
      have k1 := hK.p1
      have k2 := hK.p2
      have ho : out = b := hap.out
      subst ho
      go_wp2_with fail
      go_region_held3 (fun w' => w'.cell? ⟨w.heap.size, 1, none⟩ = some (.slice a2 out.length c2) ∧ w'.cell? ⟨w.heap.size, 2, none⟩ = some (.int .i64 out.length) ∧ w'.cell? ⟨w.heap.size, 3, none⟩ = some (.int .i64 0)) (go_keep)
        ((go_at_call 208; refine (want_calls _ _ ?_).mono ?_; (first | assumption | simp [*]); rintro e w2 ⟨rfl, rfl⟩))
      all_goals
        go_wp2_with fail
        refine bodyPost_ret (v := .tuple #[.slice a2 out.length c2, .int .i64 0]) (by simp [results, Tryz.results147, go_sem]) rfl ⟨_, rfl, own_fr hK.so (Fr.refl [] _).drew (off_nil _ _), Fr.of_below (hb.trans ((Fr.refl [] wr).drew.belowAt (by simp) hK.base))⟩
    | cons t l' => cases t with
    | run rr =>
      have k3 := hK.p3
      have hrr : 1 ≤ rr.length := hok'.1
      have hok2 : okAll l' (out ++ rr) := hok'.2
      have hE : encAll (.run rr :: l') = putNum (2 * (rr.length - 1)) ++ (rr ++ encAll l') := by simp [encAll, Tok.enc]
      rw [hE] at hK hll
      obtain ⟨a1, c1, rfl, h4, h5⟩ := hK.sp.shape
      have k0 := hK.p0
      have hlen : out.length + rr.length ≤ b.length := by
        have h1 := appAll_len l' (out ++ rr)
        have h2 : appAll l' (out ++ rr) = b := hap.out
        rw [h2] at h1; simpa using h1
      have hrl : (rr ++ encAll l').length ≤ 70368744177000 := by have := hll.out; simp at this ⊢; omega
      have hn1 := next_calls w.heap.size w.heap.size _ vo (2 * (rr.length - 1)) (rr ++ encAll l') out b.length wr hK (by unfold mostNum; omega) hrl
      have HN1 := Lib.hid hn1
      have hpos : 0 < (putNum (2 * (rr.length - 1)) ++ (rr ++ encAll l')).length := by have := putNum_pos (2 * (rr.length - 1)); simp; omega
      have HLT : Hid (((encAll l').length) < (putNum (2 * (rr.length - 1)) ++ (rr ++ encAll l')).length) := by have := putNum_pos (2 * (rr.length - 1)); simp [Hid]; omega
      obtain ⟨N, hN⟩ : ∃ N, N = 2 * (rr.length - 1) := ⟨_, rfl⟩
      have ha := and1 N (by omega)
      rw [show N % 2 = 0 by omega] at ha
      have HQ : Hid (N / 2 + 1 = rr.length) := by simp [Hid]; omega
      have HN : Hid (N < 4611686018427387904) := by simp [Hid]; omega
      rw [← hN] at HN1 hK hpos HLT k0 h4
      clear hn1 hN hE
      generalize putNum N ++ (rr ++ encAll l') = P at *
      have hb0 : decide (0 < (P.length : Int)) = true := by simp; omega
      have K0 := Lib.hid k0
      go_wp2_with fail
      refine HN1.out.mono ?_
      rintro e w4 ⟨rfl, vp', hO4, hF4⟩
      have hb4 : Below w.heap.size w w4 := hb.trans (hF4.belowAt (by simp) hK.base)
      have q3 := hO4.p3
      clear k0 k3 hF4 hK
      go_wp2_with fail
      rw [show wrap64 (wrap64 ((N : Int) / 2) + 1) = (rr.length : Int) from half_plus N 1 _ HQ.out (by omega) HN.out (by omega)]
      refine (run_calls w.heap.size w.heap.size vp' vo rr (encAll l') out b.length w4 hO4 hrr hlen (by omega) (by simp at hrl; omega)).mono ?_
      rintro e w5 ⟨rfl, vp5, vo5, hO5, hF5, _⟩
      have hb5 : Below w.heap.size w w5 := hb4.trans (hF5.belowAt (fun x hx => (List.mem_cons.1 hx).elim (fun h => by omega) (fun h => own_ge hO4.so x h)) hO4.base)
      have m5 := hO5.p0
      obtain ⟨a5, c5, rfl, _, _⟩ := hO5.sp.shape
      have HM5 := Lib.hid m5
      clear hF5 hO4 q3 m5
      go_wp2_with fail
      go_roundw
      case rel => exact ⟨l', _, _, out ++ rr, hO5, hok2, hap.out, by simp [Hid] at hrl ⊢; omega, hb5⟩
      case measure =>
        rw [HM5.out, K0.out]
        exact HLT.out
    | copy n d =>
      have k3 := hK.p3
      obtain ⟨⟨t1, t2, t3, t4, t5⟩, hok2⟩ := hok'
      have hok2 : okAll l' (copyN n d out) := hok2
      have hE : encAll (.copy n d :: l') = putNum (2 * (n - 4) + 1) ++ (putNum d ++ encAll l') := by simp [encAll, Tok.enc]
      rw [hE] at hK hll
      obtain ⟨a1, c1, rfl, h4, h5⟩ := hK.sp.shape
      have k0 := hK.p0
      have hlen : out.length + n ≤ b.length := by
        have h1 := appAll_len l' (copyN n d out)
        have h2 : appAll l' (copyN n d out) = b := hap.out
        rw [h2, copyN_len] at h1; exact h1
      have hrl : (putNum d ++ encAll l').length ≤ 70368744177000 := by have := hll.out; simp at this ⊢; omega
      have hn1 := next_calls w.heap.size w.heap.size _ vo (2 * (n - 4) + 1) (putNum d ++ encAll l') out b.length wr hK (by unfold mostNum; omega) hrl
      have HN1 := Lib.hid hn1
      have hpos : 0 < (putNum (2 * (n - 4) + 1) ++ (putNum d ++ encAll l')).length := by have := putNum_pos (2 * (n - 4) + 1); simp; omega
      have HLT : Hid (((encAll l').length) < (putNum (2 * (n - 4) + 1) ++ (putNum d ++ encAll l')).length) := by have := putNum_pos (2 * (n - 4) + 1); simp [Hid]; omega
      have HRL : Hid ((encAll l').length ≤ 70368744177000) := by simp [Hid] at hrl ⊢; omega
      obtain ⟨N, hN⟩ : ∃ N, N = 2 * (n - 4) + 1 := ⟨_, rfl⟩
      have ha := and1 N (by omega)
      rw [show N % 2 = 1 by omega] at ha
      have HQ : Hid (N / 2 + 4 = n) := by simp [Hid]; omega
      have HN : Hid (N < 4611686018427387904) := by simp [Hid]; omega
      rw [← hN] at HN1 hK hpos HLT k0 h4
      clear hn1 hN hE
      generalize putNum N ++ (putNum d ++ encAll l') = P at *
      have hb0 : decide (0 < (P.length : Int)) = true := by simp; omega
      have K0 := Lib.hid k0
      go_wp2_with fail
      refine HN1.out.mono ?_
      rintro e w4 ⟨rfl, vp', hO4, hF4⟩
      have hb4 : Below w.heap.size w w4 := hb.trans (hF4.belowAt (by simp) hK.base)
      clear k0 k3 hF4 hK
      go_wp2_with fail
      rw [show wrap64 (wrap64 ((N : Int) / 2) + 4) = (n : Int) from half_plus N 4 _ HQ.out (by omega) HN.out (by omega)]
      refine (copied_calls w.heap.size w.heap.size vp' vo n d (encAll l') out b.length w4 hO4 t1 t2 t3 t4 t5 hlen (by omega) HRL.out (Nat.le_refl _)).mono ?_
      rintro e w5 ⟨rfl, vp5, vo5, hO5, hb45⟩
      have hb5 : Below w.heap.size w w5 := hb4.trans hb45
      have m5 := hO5.p0
      obtain ⟨a5, c5, rfl, _, _⟩ := hO5.sp.shape
      have HM5 := Lib.hid m5
      clear hO4 m5
      go_wp2_with fail
      go_roundw
      case rel => exact ⟨l', _, _, copyN n d out, hO5, hok2, hap.out, HRL.out, hb5⟩
      case measure =>
        rw [HM5.out, K0.out]
        exact HLT.out
end Go.Proofs.YtjelehcnpocnoaaGreatDoor
