/- Joined: Voc CodeSpec RegionZ. -/
import Derived.WalkKit
import Derived.WalkSpells
import Derived.BigQuiet
import Derived.Deep.QuietTactic
import Derived.Lib.AppendStr
import Derived.Lib.Hide
import Derived.Lib.ConvBytes
import Derived.Lib.AppendZerosOnto
import Derived.Maps.AppendAt
import Derived.IntWalk
import Derived.Handy
import Derived.StillTailTactics
import Derived.Deep.RegionWith
import Derived.Deep.RegionHeld3
import Derived.Deep.LoopGhost
import Derived.Deep.DeepCutAuto
import Derived.Deep.DeepFit
import Derived.WalkLawsBesides
/- The vocabulary of these proofs: what a slice reads as, what a call may turn, the law on append over such slices. -/
namespace Go.Proofs.YtjelehcnpocnoaaGreatDoor
set_option linter.unusedSimpArgs false
set_option linter.unusedVariables false
set_option linter.unnecessarySimpa false
open Go.RowKit

abbrev Bs := List UInt8
def mk (l : Bs) : ByteArray := ⟨l.toArray⟩
def bl (s : ByteArray) : Bs := s.data.toList
def bv (b : UInt8) : Value := .int .u8 (b.toNat : Int)
theorem bl_mk (l : Bs) : bl (mk l) = l := by simp [bl, mk]
theorem mk_bl (s : ByteArray) : mk (bl s) = s := by cases s; simp [bl, mk]
theorem bl_length (s : ByteArray) : (bl s).length = s.size := by cases s; simp [bl, ByteArray.size]
theorem mk_size (l : Bs) : (mk l).size = l.length := by simp [mk, ByteArray.size]
theorem bl_inj {s t : ByteArray} (h : bl s = bl t) : s = t := by rw [← mk_bl s, ← mk_bl t, h]

/-- What a call may have turned: of the blocks that were there, those of F alone. -/
structure Fr (F : List Nat) (w w' : World) : Prop where
  os : w'.os = w.os
  tape : w'.tape = w.tape
  output : w'.output = w.output
  size : w.heap.size ≤ w'.heap.size
  blk : ∀ k, k < w.heap.size → k ∉ F → w'.heap[k]? = w.heap[k]?

namespace Fr
theorem refl (F : List Nat) (w : World) : Fr F w w := ⟨rfl, rfl, rfl, Nat.le_refl _, fun _ _ _ => rfl⟩
theorem trans {F G : List Nat} {a b c : World} (h : Fr F a b) (k : Fr G b c) (hG : ∀ x ∈ G, x ∈ F ∨ a.heap.size ≤ x) : Fr F a c :=
  ⟨k.os.trans h.os, k.tape.trans h.tape, k.output.trans h.output, Nat.le_trans h.size k.size, fun i hi hF =>
    (k.blk i (Nat.lt_of_lt_of_le hi h.size) (fun hx => (hG i hx).elim hF (fun h => absurd hi (Nat.not_lt.2 h)))).trans (h.blk i hi hF)⟩
theorem trans0 {F : List Nat} {a b c : World} (h : Fr F a b) (k : Fr [] b c) : Fr F a c := h.trans k (fun _ h => by cases h)
theorem weaken {F G : List Nat} {a b : World} (h : Fr F a b) (hF : ∀ x ∈ F, x ∈ G ∨ a.heap.size ≤ x) : Fr G a b := (refl G a).trans h hF
theorem alloc {F : List Nat} {a w : World} (h : Fr F a w) (o : Obj) : Fr F a (w.alloc o) :=
  h.trans0 ⟨rfl, rfl, rfl, by simp, fun k hk _ => Below.heap_alloc w o k hk⟩
theorem drewN {F : List Nat} {a w : World} (h : Fr F a w) (n : Nat) : Fr F a (w.drewN n) := ⟨h.os, h.tape, h.output, h.size, h.blk⟩
theorem drew {F : List Nat} {a w : World} (h : Fr F a w) : Fr F a w.drew := ⟨h.os, h.tape, h.output, h.size, h.blk⟩
theorem setCell {F : List Nat} {a w : World} (h : Fr F a w) {p : Addr} (hp : p.block ∈ F ∨ a.heap.size ≤ p.block) (u : Value) : Fr F a (w.setCell p u) :=
  h.trans (G := [p.block]) ⟨rfl, rfl, rfl, by simp [World.setCell], fun k _ hk => Below.heap_setCell _ _ _ _ (by simpa using hk)⟩ (by simpa using hp)
theorem grown {F : List Nat} {a w w' : World} {row : Option Nat} (h : Fr F a w) (hg : w.grownBy w' row) (hr : ∀ k, row = some k → k ∈ F ∨ a.heap.size ≤ k) : Fr F a w' :=
  h.trans (G := row.toList) ⟨hg.os, hg.tape, hg.output, hg.size, fun k hk hn => hg.block k hk (by simpa [eq_comm] using hn)⟩ (by simpa [eq_comm] using hr)
theorem below {w w' : World} (h : Fr [] w w') : Below w.heap.size w w' := ⟨h.os, h.tape, h.output, h.size, fun k hk => h.blk k hk (by simp)⟩
theorem of_below {w w' : World} (h : Below w.heap.size w w') : Fr [] w w' := ⟨h.os, h.tape, h.output, h.size, fun k hk _ => h.block k hk⟩
theorem block {F : List Nat} {w w' : World} (h : Fr F w w') {k : Nat} {o : Obj} (hk : w.heap[k]? = some o) (hn : k ∉ F) : w'.heap[k]? = some o :=
  (h.blk k (Array.getElem?_eq_some_iff.1 hk).1 hn).trans hk
theorem cell {F : List Nat} {w w' : World} (h : Fr F w w') {p : Addr} {v : Value} (hc : w.cell? p = some v) (hn : p.block ∉ F) : w'.cell? p = some v :=
  (World.cell?_of_block (w := w) (h.blk p.block (World.block_lt_of_cell? w p hc) hn)).trans hc
theorem put {F : List Nat} {a w : World} (h : Fr F a w) {k : Nat} {o : Obj} (hk : k ∈ F ∨ a.heap.size ≤ k) : Fr F a { w with heap := w.heap.setIfInBounds k o } :=
  h.trans (G := [k]) ⟨rfl, rfl, rfl, by simp, fun i _ hi => by simp at hi; simp [Array.getElem?_setIfInBounds, Ne.symm hi]⟩ (by simpa using hk)
end Fr

/-- Another cell, behind a store. -/
theorem cell_set_ne (w : World) (b o b' o' : Nat) (v : Value) (h : b' ≠ b ∨ o' ≠ o) : (w.setCell ⟨b, o, none⟩ v).cell? ⟨b', o', none⟩ = w.cell? ⟨b', o', none⟩ := by
  by_cases hb : b' = b
  · subst hb
    have ho : o' ≠ o := h.resolve_left (fun h => h rfl)
    simp only [World.cell?, World.setCell, Array.getElem?_modify, if_true]
    cases w.heap[b']? with
    | none => rfl
    | some x => cases x <;> simp [Array.getElem?_setIfInBounds, Ne.symm ho]
  · exact World.cell?_of_block (Below.heap_setCell _ _ _ _ hb)
theorem cell_set_same (w : World) (b o : Nat) (v u : Value) (h : w.cell? ⟨b, o, none⟩ = some u) : (w.setCell ⟨b, o, none⟩ v).cell? ⟨b, o, none⟩ = some v := World.cell?_setCell_same' _ _ _ (by rw [h]; rfl)
theorem row_set {w : World} {b : Nat} {e : TypeId} {fr : Nat × Nat} (h : ∃ cs, w.heap[b]? = some (.cells cs e fr)) (o : Nat) (v : Value) : ∃ cs, (w.setCell ⟨b, o, none⟩ v).heap[b]? = some (.cells cs e fr) := by
  obtain ⟨cs, h⟩ := h
  exact ⟨cs.setIfInBounds o v, by simp [World.setCell, Array.getElem?_modify, h]⟩

/-- A block that holds cells of the element type e. -/
def IsRow (w : World) (e : TypeId) (k : Nat) : Prop := ∃ cs fr, w.heap[k]? = some (.cells cs e fr)
/-- None of F's blocks holds cells of e. -/
def Off (F : List Nat) (w : World) (e : TypeId) : Prop := ∀ k ∈ F, ¬ IsRow w e k
theorem off_nil (w : World) (e : TypeId) : Off [] w e := fun _ h => by cases h
theorem off_cons {F : List Nat} {w : World} {e : TypeId} {k : Nat} {o : Obj} (hk : w.heap[k]? = some o) (ho : ∀ cs fr, o ≠ .cells cs e fr) (h : Off F w e) : Off (k :: F) w e := by
  intro x hx
  rcases List.mem_cons.1 hx with rfl | hx
  · rintro ⟨cs, fr, h'⟩
    rw [hk] at h'
    exact ho cs fr (Option.some.inj h')
  · exact h x hx
theorem off_new {F : List Nat} {w : World} {e : TypeId} {k : Nat} (hk : w.heap.size ≤ k) (h : Off F w e) : Off (k :: F) w e := by
  intro x hx
  rcases List.mem_cons.1 hx with rfl | hx
  · rintro ⟨cs, fr, h'⟩
    have := (Array.getElem?_eq_some_iff.1 h').1
    omega
  · exact h x hx

/-- The slice v reads as n elements of e (size cells each), whose cells hold xs. Nil let in. -/
def Sl (w : World) (e : TypeId) (size : Nat) (v : Value) (n : Nat) (xs : List Value) : Prop :=
  xs.length = n * size ∧ ∃ a c, v = .slice a n c ∧ n ≤ c ∧ c ≤ maxLen ∧ (a = none → c = 0) ∧
    (0 < n → ∃ b o cs fr, a = some ⟨b, o, none⟩ ∧ w.heap[b]? = some (.cells cs e fr) ∧ ∀ j u, xs[j]? = some u → cs[o + j]? = some u)
/-- A slice value's length, for a measure. -/
def lenV : Value → Nat
  | .slice _ n _ => n
  | _ => 0
namespace Sl
theorem nil (w : World) (e : TypeId) (size : Nat) : Sl w e size (.slice none 0 0) 0 [] := ⟨by simp, none, 0, rfl, Nat.le_refl _, Nat.zero_le _, fun _ => rfl, fun h => absurd h (Nat.lt_irrefl _)⟩
theorem of_own {w : World} {base : Nat} {e : TypeId} {size : Nat} {v : Value} {n : Nat} {xs : List Value} (h : w.ownsRow base e size v n xs) : Sl w e size v n xs := by
  refine ⟨h.1, ?_⟩
  rcases h.2 with ⟨rfl, rfl⟩ | ⟨g, cap, cur, rfl, _, hg, h1, h2, h3, h4⟩
  · exact ⟨none, 0, rfl, Nat.le_refl _, Nat.zero_le _, fun _ => rfl, fun h => absurd h (Nat.lt_irrefl _)⟩
  · refine ⟨_, cap, rfl, h1, h2, (fun h => by cases h), fun _ => ⟨g, 0, cur, (0, 0), rfl, hg, fun j u hu => ?_⟩⟩
    rw [← h4, List.getElem?_take] at hu
    split at hu
    · simpa using hu
    · cases hu
theorem fr {F : List Nat} {w w' : World} {e : TypeId} {size : Nat} {v : Value} {n : Nat} {xs : List Value} (h : Sl w e size v n xs) (hF : Fr F w w') (ho : Off F w e) : Sl w' e size v n xs := by
  obtain ⟨h1, a, c, rfl, h2, h3, h4, h5⟩ := h
  refine ⟨h1, a, c, rfl, h2, h3, h4, fun hn => ?_⟩
  obtain ⟨b, o, cs, fr, rfl, hb, hc⟩ := h5 hn
  exact ⟨b, o, cs, fr, rfl, hF.block hb (fun hx => ho b hx ⟨cs, fr, hb⟩), hc⟩
theorem fr0 {w w' : World} {e : TypeId} {size : Nat} {v : Value} {n : Nat} {xs : List Value} (h : Sl w e size v n xs) (hF : Fr [] w w') : Sl w' e size v n xs := h.fr hF (off_nil _ _)
theorem shape {w : World} {e : TypeId} {size : Nat} {v : Value} {n : Nat} {xs : List Value} (h : Sl w e size v n xs) : ∃ a c, v = .slice a n c ∧ n ≤ c ∧ c ≤ 9223372036854775807 := by
  obtain ⟨_, a, c, h1, h2, h3, _⟩ := h
  exact ⟨a, c, h1, h2, by simp only [maxLen] at h3; omega⟩
theorem le {w : World} {e : TypeId} {size : Nat} {v : Value} {n : Nat} {xs : List Value} (h : Sl w e size v n xs) : n ≤ 9223372036854775807 := by
  obtain ⟨_, a, c, _, h2, h3, _⟩ := h
  simp only [maxLen] at h3
  omega
/-- The form of the value, and its cells, for a walk. -/
theorem open1 {w : World} {e : TypeId} {v : Value} {n : Nat} {xs : List Value} (h : Sl w e 1 v n xs) :
    ∃ a c, v = .slice a n c ∧ n ≤ c ∧ c ≤ 9223372036854775807 ∧ (0 < n → ∃ b o, a = some ⟨b, o, none⟩ ∧ ∀ j, j < n → w.cell? ⟨b, o + j, none⟩ = xs[j]?) := by
  obtain ⟨h1, a, c, rfl, h2, h3, h4, h5⟩ := h
  refine ⟨a, c, rfl, h2, by simp only [maxLen] at h3; omega, fun hn => ?_⟩
  obtain ⟨b, o, cs, fr, rfl, hb, hc⟩ := h5 hn
  refine ⟨b, o, rfl, fun j hj => ?_⟩
  have hj' : j < xs.length := by omega
  have := hc j xs[j] (List.getElem?_eq_getElem hj')
  simp [World.cell?, hb, this, List.getElem?_eq_getElem hj']
theorem cells {w : World} {e : TypeId} {size : Nat} {a : Addr} {n c : Nat} {xs : List Value} (h : Sl w e size (.slice (some a) n c) n xs) (hn : 0 < n) : a.spot = none ∧ ∀ j u, xs[j]? = some u → w.cell? (a.add j) = some u := by
  obtain ⟨h1, a', c', hv, h2, h3, h4, h5⟩ := h
  obtain ⟨rfl, rfl⟩ : some a = a' ∧ c = c' := by simpa using hv
  obtain ⟨b, o, cs, fr, ha, hb, hc⟩ := h5 hn
  obtain rfl : a = ⟨b, o, none⟩ := by simpa using ha
  refine ⟨rfl, fun j u hu => ?_⟩
  have hadd : (⟨b, o, none⟩ : Addr).add j = ⟨b, o + j, none⟩ := by unfold Addr.add; split <;> simp_all
  rw [hadd]
  simp [World.cell?, hb, hc j u hu]
/-- A row just laid. -/
theorem lit {w : World} {e : TypeId} {size : Nat} (cs : Array Value) (n : Nat) (hs : cs.size = n * size) (hm : n ≤ 9223372036854775807) :
    Sl (w.alloc (.cells cs e)) e size (.slice (some ⟨w.heap.size, 0, none⟩) n n) n cs.toList :=
  Sl.of_own (World.ownsRow_lit (base := 0) w cs n (Nat.zero_le _) (by simp only [maxLen]; omega) hs)
end Sl

theorem sl_sub {w : World} {e : TypeId} {size n c : Nat} {a : Option Addr} {xs : List Value} (h : Sl w e size (.slice a n c) n xs) (lo hi : Nat) (h1 : lo ≤ hi) (h2 : hi ≤ n) (hs : 0 < size) :
    Sl w e size (Go.sliced a lo hi c size) (hi - lo) ((xs.drop (lo * size)).take ((hi - lo) * size)) := by
  obtain ⟨hy, a', c', hv, h3, h4, h5, h6⟩ := h
  obtain ⟨rfl, rfl⟩ : a = a' ∧ c = c' := by simpa using hv
  have hm : hi * size ≤ n * size := Nat.mul_le_mul_right _ h2
  have hm2 : (hi - lo) * size = hi * size - lo * size := Nat.sub_mul ..
  have hm3 : lo * size ≤ hi * size := Nat.mul_le_mul_right _ h1
  refine ⟨by rw [List.length_take, List.length_drop]; omega, ?_⟩
  unfold Go.sliced
  refine ⟨_, _, rfl, by omega, by omega, ?_, fun hp => ?_⟩
  · intro hn
    rcases a with _ | ad
    · have := h5 rfl; omega
    · split at hn <;> simp at hn
  · obtain ⟨b, o, cs, fr, rfl, hb, hc⟩ := h6 (by omega)
    rw [if_neg (by omega)]
    have hadd : (⟨b, o, none⟩ : Addr).add (lo * size) = ⟨b, o + lo * size, none⟩ := by unfold Addr.add; split <;> simp_all
    refine ⟨b, o + lo * size, cs, fr, by simp [hadd], hb, fun j u hu => ?_⟩
    rw [List.getElem?_take] at hu
    split at hu
    · rw [List.getElem?_drop] at hu
      have := hc _ _ hu
      rwa [Nat.add_assoc]
    · cases hu
section
variable {P : Program} {t e : TypeId} {z : Value} {size bytes : Nat} (ht : P.underlying t = some (.slice e)) (hi : (P.info? e).map (fun i => (i.zero, i.size, i.bytes)) = some (some z, size, bytes)) (hs : 0 < size)
  {w : World} {v : Value} {n : Nat} {xs : List Value} (h : Sl w e size v n xs)
include ht hi hs h
/-- v[k:], for a walk: the run's equation, what the piece reads as. -/
theorem cut_from (k : Nat) (hk : k ≤ n) (x : Int) (hx : x = (k : Int)) : ∃ v', Sl w e size v' (n - k) (xs.drop (k * size)) ∧ ∀ W : World, (Instr.slice t v (some (.int .i64 x)) none none).run P W = .ok v' W := by
  subst hx
  obtain ⟨i0, hi0, hz⟩ := Option.map_eq_some_iff.1 hi
  simp only [Prod.mk.injEq] at hz
  have h' := h
  obtain ⟨hy, a, c, rfl, h2, h3, h4, h5⟩ := h'
  have hsub := sl_sub h k n hk (Nat.le_refl _) hs
  have hm2 : (n - k) * size = n * size - k * size := Nat.sub_mul ..
  rw [List.take_of_length_le (by rw [List.length_drop]; omega)] at hsub
  refine ⟨_, hsub, fun W => ?_⟩
  have he : P.elem t = e := by simp [Program.elem, ht]
  rw [run_slice_l W t a n c (by rw [he]; exact ht) .i64 k (by omega) (by omega), he]
  simp [sizeOf, typeInfo, hi0, hz.2.1]
/-- v[:k] -/
theorem cut_to (k : Nat) (hk : k ≤ n) (x : Int) (hx : x = (k : Int)) : ∃ v', Sl w e size v' k (xs.take (k * size)) ∧ ∀ W : World, (Instr.slice t v none (some (.int .i64 x)) none).run P W = .ok v' W := by
  subst hx
  obtain ⟨i0, hi0, hz⟩ := Option.map_eq_some_iff.1 hi
  simp only [Prod.mk.injEq] at hz
  have h' := h
  obtain ⟨hy, a, c, rfl, h2, h3, h4, h5⟩ := h'
  have hsub := sl_sub h 0 k (Nat.zero_le _) hk hs
  simp only [Nat.zero_mul, List.drop_zero, Nat.sub_zero] at hsub
  refine ⟨_, hsub, fun W => ?_⟩
  have he : P.elem t = e := by simp [Program.elem, ht]
  rw [run_slice_h W t a n c (by rw [he]; exact ht) .i64 k (by omega) (by omega), he]
  simp [sizeOf, typeInfo, hi0, hz.2.1]
/-- v[i:k] -/
theorem cut_both (i k : Nat) (hik : i ≤ k) (hk : k ≤ n) (x y : Int) (hx : x = (i : Int)) (hy : y = (k : Int)) : ∃ v', Sl w e size v' (k - i) ((xs.drop (i * size)).take ((k - i) * size)) ∧ ∀ W : World, (Instr.slice t v (some (.int .i64 x)) (some (.int .i64 y)) none).run P W = .ok v' W := by
  subst hx hy
  obtain ⟨i0, hi0, hz⟩ := Option.map_eq_some_iff.1 hi
  simp only [Prod.mk.injEq] at hz
  have h' := h
  obtain ⟨hy', a, c, rfl, h2, h3, h4, h5⟩ := h'
  refine ⟨_, sl_sub h i k hik hk hs, fun W => ?_⟩
  have he : P.elem t = e := by simp [Program.elem, ht]
  rw [run_slice_lh W t a n c (by rw [he]; exact ht) .i64 .i64 i k (by omega) (by omega) (by omega), he]
  simp [sizeOf, typeInfo, hi0, hz.2.1]
end

/-- append(v, x...): v a row of the call's own, x a slice that is read, nil let in. -/
theorem run_app {P : Program} (w : World) (base : Nat) (t ty e : TypeId) (z : Value) (size bytes : Nat) (ht : P.underlying t = some (.slice e)) (hinfo : (P.info? e).map (fun i => (i.zero, i.size, i.bytes)) = some (some z, size, bytes))
    (hzs : z.cells.size = size) (hsz : 0 < size) (v : Value) (n : Nat) (xs : List Value) (hown : w.ownsRow base e size v n xs)
    (x : Value) (m : Nat) (ys : List Value) (hx : Sl w e size x m ys) (h1 : ∀ u ∈ ys, u.oneCell' = true)
    (hlen : n + m ≤ 140737488355328) (hbytes : (n + m) * bytes ≤ 140737488355328) (hbase : base ≤ w.heap.size) :
    ∃ v' w', (Builtin.append_ #[t, t] ty #[v, x]).run P w = .ok v' w' ∧ w'.ownsRow base e size v' (n + m) (xs ++ ys) ∧ w.grownBy w' v.ownBlock ∧ (v'.ownBlock = v.ownBlock ∨ v'.ownBlock = some w.heap.size) := by
  obtain ⟨i0, hi, hz0, hz1, hz2⟩ := info_parts hinfo
  have hx' := hx
  obtain ⟨hy, a, c, rfl, h2, h3, h4, h5⟩ := hx
  rcases a with _ | ad
  · obtain rfl := h4 rfl
    obtain rfl : m = 0 := by omega
    obtain rfl : ys = [] := List.eq_nil_of_length_eq_zero (by simpa using hy)
    exact ⟨v, w, run_append_owned_none (P := P) w base t ty e i0 size ht hi v n xs hown, by simpa using hown, World.grownBy.refl w _, .inl rfl⟩
  · have hcells : ∀ j u, ys[j]? = some u → w.cell? (ad.add j) = some u := by
      intro j u hu
      have : 0 < m := by
        rcases Nat.eq_zero_or_pos m with rfl | h
        · obtain rfl : ys = [] := List.eq_nil_of_length_eq_zero (by simpa using hy)
          simp at hu
        · exact h
      exact (hx'.cells this).2 j u hu
    obtain ⟨v1, w1, hr, h6, h7, _, h9⟩ := run_append_own_at (P := P) w base t ty e i0 z size bytes ht hi hz0 hz1 hz2 hzs hsz v n xs hown ad m c ys hy hcells h1 (by simp only [maxLen]; omega) hbytes hbase
    exact ⟨v1, w1, hr, h6, h7, h9⟩

section
variable {P : Program} {ops : Array Oper} {rest : List Oper} {o : Oper} {a : Act} {Q : Exit → Act → World → Prop}
/-- At the operation, for the walk; behind 'at_builtin'. -/
theorem wpl_app {w : World} (base : Nat) (hgd : o.guard = none) (s x : Operand) (t e : TypeId) (z : Value) (size bytes : Nat)
    (ho : o.op = .call { callee := .builtin .append, args := #[s, x], argTypes := #[t, t] })
    (ht : P.underlying t = some (.slice e)) (hinfo : (P.info? e).map (fun i => (i.zero, i.size, i.bytes)) = some (some z, size, bytes))
    (hzs : z.cells.size = size) (hsz : 0 < size) (v : Value) (n : Nat) (xs : List Value) (hs : a.eval s = v) (hown : w.ownsRow base e size v n xs)
    (m : Nat) (ys : List Value) (hx : Sl w e size (a.eval x) m ys) (h1 : ∀ u ∈ ys, u.oneCell' = true)
    (hlen : n + m ≤ 140737488355328) (hbytes : (n + m) * bytes ≤ 140737488355328) (hbase : base ≤ w.heap.size)
    (h : ∀ v' w', w'.ownsRow base e size v' (n + m) (xs ++ ys) → w.grownBy w' v.ownBlock → (v'.ownBlock = v.ownBlock ∨ v'.ownBlock = some w.heap.size) → wpList P ops Q rest (a.put o.dst v') w') : wpList P ops Q (o :: rest) a w := by
  refine wpList_plain hgd fun K hK => ?_
  obtain ⟨v', w', hr, h2, h3, h4⟩ := run_app (P := P) w base t o.type e z size bytes ht hinfo hzs hsz v n xs hown (a.eval x) m ys hx h1 hlen hbytes hbase
  unfold Oper.wp execOp
  simp only [ho, resolve, invoke, builtin, Sem.run_bind, Sem.run_pure, Result.andThen_ok, List.map_toArray, List.map_cons, List.map_nil, hs, hr]
  exact hK _ _ (h v' w' h2 h3 h4)
/-- At a step of a region that draws its order. -/
theorem step_app {w : World} {K : Act → World → Prop} {E : Prop} (base : Nat) (hgd : o.guard = none) (s x : Operand) (t e : TypeId) (z : Value) (size bytes : Nat)
    (ho : o.op = .call { callee := .builtin .append, args := #[s, x], argTypes := #[t, t] })
    (ht : P.underlying t = some (.slice e)) (hinfo : (P.info? e).map (fun i => (i.zero, i.size, i.bytes)) = some (some z, size, bytes))
    (hzs : z.cells.size = size) (hsz : 0 < size) (v : Value) (n : Nat) (xs : List Value) (hs : a.eval s = v) (hown : w.ownsRow base e size v n xs)
    (m : Nat) (ys : List Value) (hx : Sl w e size (a.eval x) m ys) (h1 : ∀ u ∈ ys, u.oneCell' = true)
    (hlen : n + m ≤ 140737488355328) (hbytes : (n + m) * bytes ≤ 140737488355328) (hbase : base ≤ w.heap.size)
    (h : ∀ v' w', w'.ownsRow base e size v' (n + m) (xs ++ ys) → w.grownBy w' v.ownBlock → (v'.ownBlock = v.ownBlock ∨ v'.ownBlock = some w.heap.size) → K (a.put o.dst v') w') : if Region.wanted o (yielded ops a.tmps) = true then Oper.wp P o a w K Q else E := by
  have hw : Region.wanted o (yielded ops a.tmps) = true := by simp [Region.wanted, hgd]
  rw [if_pos hw]
  obtain ⟨v', w', hr, h2, h3, h4⟩ := run_app (P := P) w base t o.type e z size bytes ht hinfo hzs hsz v n xs hown (a.eval x) m ys hx h1 hlen hbytes hbase
  unfold Oper.wp execOp
  simp only [ho, resolve, invoke, builtin, Sem.run_bind, Sem.run_pure, Result.andThen_ok, List.map_toArray, List.map_cons, List.map_nil, hs, hr]
  exact h v' w' h2 h3 h4
end

theorem zeroCells_byte (k : Nat) : (Builtin.zeroCells #[Value.int .u8 0] k).toList = List.replicate k (.int .u8 0) := by
  apply List.ext_getElem?
  intro j
  by_cases hj : j < k
  · simp [Builtin.zeroCells, hj, Nat.mod_one]
  · simp [Builtin.zeroCells, hj]
/-- append(v, make([]byte, k)...): v a row of the call's own. -/
theorem run_app_zeros {P : Program} (w : World) (base : Nat) (t tn ty e : TypeId) (kn kq : IntKind) (ht : P.underlying t = some (.slice e)) (htn : P.underlying tn = some (.int kn)) (hinfo : (P.info? e).map (fun i => (i.zero, i.size, i.bytes)) = some (some (.int .u8 0), 1, 1))
    (v : Value) (n : Nat) (xs : List Value) (hown : w.ownsRow base e 1 v n xs) (k : Nat) (hk : 0 < k) (hlen : n + k ≤ 140737488355328) (hbase : base ≤ w.heap.size) :
    ∃ v' w', (Builtin.append_ #[t, tn] ty #[v, .int kq (k : Int)]).run P w = .ok v' w' ∧ w'.ownsRow base e 1 v' (n + k) (xs ++ List.replicate k (.int .u8 0)) ∧ w.grownBy w' v.ownBlock ∧ (v'.ownBlock = v.ownBlock ∨ v'.ownBlock = some w.heap.size) := by
  obtain ⟨i0, hi, hz0, hz1, hz2⟩ := info_parts hinfo
  have hw : IntKind.i64.wrap (k : Int) = k := by rw [IntKind.wrap_i64]; omega
  have hzc : (Value.int .u8 0).cells = #[Value.int .u8 0] := rfl
  have hxl : xs.length = n := by simpa using hown.1
  have hlen' : (xs ++ List.replicate k (Value.int .u8 0)).length = (n + k) * 1 := by simp [hxl]
  have grow : ∀ (bs : Option Addr) (cap : Nat), cap < n + k → (Builtin.firstCells i0.size n (.slice bs n cap)).run P w.drew = .ok xs.toArray w.drew →
      ∃ v' w', (Builtin.append_ #[t, tn] ty #[.slice bs n cap, .int kq (k : Int)]).run P w = .ok v' w' ∧ w'.ownsRow base e 1 v' (n + k) (xs ++ List.replicate k (.int .u8 0)) ∧ w.grownBy w' (Value.ownBlock (.slice bs n cap)) ∧ v'.ownBlock = some w.heap.size := by
    intro bs cap hcap hold
    have hr := Lib.run_append_grow_zeros (P := P) w t tn ty e i0 (.int .u8 0) kq kn ht htn hi hz0 bs n cap xs hold k hk (by omega) hcap (by omega) (by rw [hz2]; omega) (by rw [hz2]; exact growslice_fits (by omega) (by omega))
    refine ⟨_, _, hr, ⟨hlen', .inr ⟨w.heap.size, _, _, rfl, hbase, heap_alloc_new w.drew _, grownCap_ge w (n + k) cap e, grownCap_le_maxLen w (n + k) cap e (by simp only [maxLen]; omega), ?_, ?_⟩⟩, ⟨rfl, rfl, rfl, by simp, fun j hj _ => Below.heap_alloc w.drew _ j hj⟩, rfl⟩
    · have := grownCap_ge w (n + k) cap e
      simp only [Array.size_append, List.size_toArray, size_zeroCells, hzc, hxl]
      simp
      omega
    · simp only [Array.toList_append, hzc, zeroCells_byte, ← hlen']
      exact List.take_left
  rcases hown.2 with ⟨rfl, rfl⟩ | ⟨g, cap, cur, rfl, hbg, hg, hnc, hcm, hcs, htake⟩
  · obtain rfl : xs = [] := List.eq_nil_of_length_eq_zero hxl
    obtain ⟨v', w', h1, h2, h3, h4⟩ := grow none 0 (by omega) (by simp [Builtin.firstCells])
    exact ⟨v', w', h1, h2, h3, .inr h4⟩
  · by_cases hroom : n + k ≤ cap
    · have hcs' : cur.size = cap := by simpa using hcs
      have ht' : cur.toList.take n = xs := by simpa using htake
      have hst := run_storeCells_at P g n e (List.replicate k (.int .u8 0)) 0 cur w hg (by simp; omega) (by intro u hu; rw [List.eq_of_mem_replicate hu]; rfl)
      simp only [Nat.add_zero] at hst
      have hneg : ¬ ((k : Int) < 0) := by omega
      have h48i : ¬ (281474976710656 < (k : Int)) := by omega
      have hk0 : k ≠ 0 := by omega
      have hrun : (Builtin.append_ #[t, tn] ty #[.slice (some ⟨g, 0, none⟩) n cap, .int kq (k : Int)]).run P w = .ok (.slice (some ⟨g, 0, none⟩) (n + k) cap) (w.setRow g (cur.toList.take n ++ List.replicate k (Value.int .u8 0) ++ cur.toList.drop (n + (List.replicate k (Value.int .u8 0)).length)).toArray) := by
        simp [Builtin.append_, run_underlying ht, run_underlying htn, sizeOf, typeInfo, zeroValue, hi, hz0, hz1, hz2, asInt, asIntOf, hw, hneg, h48i, hk0, hroom, hzc, zeroCells_byte, Addr.add_lit]
        simp at hst
        rw [hst]
        simp [Result.andThen]
      refine ⟨_, _, hrun, ⟨hlen', .inr ⟨g, cap, _, rfl, hbg, setRow_heap w g cur _ e _ hg, hroom, hcm, ?_, ?_⟩⟩, ⟨rfl, rfl, rfl, by simp, fun j _ hj => setRow_other w g j _ (fun e => hj (by simp [Value.ownBlock, e]))⟩, .inl rfl⟩
      · simp only [List.size_toArray, List.length_append, List.length_take, List.length_drop, Array.length_toList, List.length_replicate]
        omega
      · rw [ht', ← hlen']
        exact List.take_left
    · have holds : ∀ j u, xs[j]? = some u → w.cell? ((⟨g, 0, none⟩ : Addr).add j) = some u := hown.cells (g := g) rfl
      obtain ⟨v', w', h1, h2, h3, h4⟩ := grow (some ⟨g, 0, none⟩) cap (by omega) (run_firstCells_some (P := P) w.drew i0.size n ⟨g, 0, none⟩ n cap xs (by rw [hz1]; simpa using hxl) holds)
      exact ⟨v', w', h1, h2, h3, .inr h4⟩

/-- string(v) of a slice of bytes. -/
theorem conv_string {P : Program} {src dst e : TypeId} (hs : P.underlying src = some (.slice e)) (he : P.underlying e = some (.int .u8)) (hd : P.underlying dst = some .string)
    {w : World} {v : Value} {l : Bs} (h : Sl w e 1 v l.length (l.map bv)) : (convert src dst v).run P w = .ok (.string (mk l)) w := by
  obtain ⟨hy, a, c, rfl, h2, h3, h4, h5⟩ := h
  rcases Nat.eq_zero_or_pos l.length with h0 | h0
  · obtain rfl : l = [] := List.eq_nil_of_length_eq_zero h0
    rcases a with _ | ad
    · exact run_convert_bytes_nil w src e hs he _ _ dst hd
    · rw [run_convert_bytes_string w src dst e _ _ c hs he hd]
      simp [Conv.bytesToString, loadCells, loadCellsFrom, mk]
      rfl
  · obtain ⟨b, o, cs, fr, rfl, hb, hc⟩ := h5 h0
    have := run_convert_bytes_arg (P := P) w src e hs he b o l.length c (l.map fun x => (x.toNat : Int)) (by simp) (fun i hi => by
      have := hc i (bv l[i]) (by simp [hi])
      simp [World.cell?, hb, this, bv, List.getD_eq_getElem?_getD, hi]) dst hd
    rw [this]
    congr 2
    simp [strOfNums, mk]
    congr 1
    rw [List.map_congr_left (g := id) (fun x _ => by simp)]
    simp

/-- A row that the call owns stays so where nothing of it is turned. -/
theorem own_fr {F : List Nat} {w w' : World} {base : Nat} {e : TypeId} {size : Nat} {v : Value} {n : Nat} {xs : List Value} (h : w.ownsRow base e size v n xs) (hF : Fr F w w') (ho : Off F w e) : w'.ownsRow base e size v n xs := by
  refine ⟨h.1, ?_⟩
  rcases h.2 with h2 | ⟨g, cap, cur, rfl, hb, hg, r⟩
  · exact .inl h2
  · exact .inr ⟨g, cap, cur, rfl, hb, hF.block hg (fun hx => ho g hx ⟨cur, _, hg⟩), r⟩
theorem own_base {w : World} {base base' : Nat} {e : TypeId} {size : Nat} {v : Value} {n : Nat} {xs : List Value} (h : w.ownsRow base e size v n xs) (hb : base' ≤ base) : w.ownsRow base' e size v n xs := by
  refine ⟨h.1, ?_⟩
  rcases h.2 with h2 | ⟨g, cap, cur, rfl, h3, r⟩
  · exact .inl h2
  · exact .inr ⟨g, cap, cur, rfl, by omega, r⟩
theorem own_block {w : World} {base : Nat} {e : TypeId} {size : Nat} {v : Value} {n : Nat} {xs : List Value} (h : w.ownsRow base e size v n xs) : ∀ k, v.ownBlock = some k → base ≤ k := fun k hk => (h.lt k hk).1
/-- A row of other elements is not the one that is owned. -/
theorem own_ne {w : World} {base : Nat} {e e' : TypeId} {size : Nat} {v : Value} {n b : Nat} {xs : List Value} {fr : Nat × Nat} (h : w.ownsRow base e size v n xs) (hb : ∃ cs, w.heap[b]? = some (.cells cs e' fr)) (he : e ≠ e') : b ∉ v.ownBlock.toList := by
  intro hx
  obtain ⟨cs, hrow⟩ := hb
  rcases h.2 with ⟨rfl, _⟩ | ⟨g, cap, cur, rfl, _, hgg, _⟩
  · simp [Value.ownBlock] at hx
  · simp [Value.ownBlock] at hx
    rw [← hx, hrow] at hgg
    simp at hgg
    exact he hgg.2.1.symm
theorem bv_one (l : Bs) : ∀ u ∈ l.map bv, u.oneCell' = true := by
  intro u hu
  obtain ⟨b, _, rfl⟩ := List.mem_map.1 hu
  rfl
/-- []byte(s). -/
theorem conv_bytes {P : Program} {src dst e : TypeId} (hs : P.underlying src = some .string) (he : P.underlying e = some (.int .u8)) (hd : P.underlying dst = some (.slice e))
    (w : World) (l : Bs) (hl : l.length ≤ 140737488355328) : ∃ w' c, (convert src dst (.string (mk l))).run P w = .ok (.slice (some ⟨w.heap.size, 0, none⟩) l.length c) w' ∧ Sl w' e 1 (.slice (some ⟨w.heap.size, 0, none⟩) l.length c) l.length (l.map bv) ∧ Fr [] w w' ∧ l.length ≤ c ∧ c ≤ 9223372036854775807 ∧ (∀ j, j < l.length → w'.cell? ⟨w.heap.size, j, none⟩ = some (bv (l.getD j 0))) := by
  have hsz : (mk l).size = l.length := mk_size l
  have h1 := Lib.run_convert_string_bytes (P := P) w src dst e (mk l) hs hd he
  rw [hsz] at h1
  have hc := grownCap_ge w l.length 0 e
  have hm := grownCap_le_maxLen w l.length 0 e (by simp only [maxLen]; omega)
  refine ⟨_, _, h1, ⟨by simp, _, _, rfl, hc, hm, (fun h => by cases h), fun _ => ⟨_, 0, _, _, rfl, Lib.bytesWorld_at_new w e (mk l), fun j u hu => ?_⟩⟩, ⟨rfl, rfl, rfl, ?_, fun k hk _ => Lib.bytesWorld_at_old w e _ k hk⟩, hc, by simpa only [maxLen] using hm, fun j hj => ?_⟩
  · rw [List.getElem?_map] at hu
    obtain ⟨b, hb, rfl⟩ := Option.map_eq_some_iff.1 hu
    have hj : j < l.length := (List.getElem?_eq_some_iff.1 hb).1
    simp only [Lib.bytesCells, Nat.zero_add]
    rw [Array.getElem?_append_left (by simp [mk, hj])]
    simp [mk, hb, bv]
  · rw [Lib.bytesWorld_size]; omega
  · have := Lib.bytesWorld_cell w e (mk l) j (by rw [hsz]; exact hj)
    rw [this]; simp [mk, bv]
end Go.Proofs.YtjelehcnpocnoaaGreatDoor
/- Layer 2, code: numbers and texts as bytes: what they are, and the laws of there and back. -/
namespace Go.Proofs.YtjelehcnpocnoaaGreatDoor
set_option linter.unusedSimpArgs false
set_option linter.unusedVariables false
set_option linter.unnecessarySimpa false
open Go.RowKit

def mostNum : Nat := 4611686018427387903
def putNum (n : Nat) : Bs := if n < 128 then [UInt8.ofNat n] else UInt8.ofNat (n % 128 + 128) :: putNum (n / 128)
termination_by n
decreasing_by omega
/-- Of the groups that are left: the value, what is behind it. -/
def takeGo : Nat → Nat → Bs → Option (Nat × Bs)
  | _, _, [] => none
  | k, acc, c :: r =>
    if k = 9 then none
    else if c.toNat < 128 then
      (if c.toNat = 0 ∧ 0 < k then none
       else if acc + c.toNat * 128 ^ k > mostNum then none else some (acc + c.toNat * 128 ^ k, r))
    else takeGo (k + 1) (acc + (c.toNat - 128) * 128 ^ k) r
def takeNum (b : Bs) : Option (Nat × Bs) := takeGo 0 0 b
def putText (s : Bs) : Bs := putNum s.length ++ s
def takeText (b : Bs) (most : Int) : Option (Bs × Bs) :=
  match takeNum b with
  | some (n, r) => if (n : Int) ≤ most ∧ n ≤ r.length then some (r.take n, r.drop n) else none
  | none => none
def clampN (n : Int) : Nat := (min (max n 0) 4611686018427387903).toNat

theorem putNum_lt {n : Nat} (h : n < 128) : putNum n = [UInt8.ofNat n] := by rw [putNum, if_pos h]
theorem putNum_ge {n : Nat} (h : 128 ≤ n) : putNum n = UInt8.ofNat (n % 128 + 128) :: putNum (n / 128) := by rw [putNum, if_neg (by omega)]
theorem putNum_pos (n : Nat) : 0 < (putNum n).length := by
  by_cases h : n < 128
  · rw [putNum_lt h]; simp
  · rw [putNum_ge (by omega)]; simp
theorem putNum_len : ∀ (k n : Nat), n < 128 ^ (k + 1) → (putNum n).length ≤ k + 1 := by
  intro k
  induction k with
  | zero => intro n h; rw [putNum_lt (by simpa using h)]; simp
  | succ k ih =>
    intro n h
    by_cases h1 : n < 128
    · rw [putNum_lt h1]; simp
    · rw [putNum_ge (by omega)]
      have := ih (n / 128) (by rw [Nat.div_lt_iff_lt_mul (by decide)]; rwa [Nat.pow_succ] at h)
      simp; omega
theorem putNum_len9 {n : Nat} (h : n ≤ mostNum) : (putNum n).length ≤ 9 := putNum_len 8 n (by unfold mostNum at h; omega)
theorem toNat_ofNat_lt {n : Nat} (h : n < 256) : (UInt8.ofNat n).toNat = n := by
  rw [UInt8.toNat_ofNat']; exact Nat.mod_eq_of_lt h

theorem takeGo_put : ∀ (j : Nat) (k acc n : Nat) (r : Bs), n < 128 ^ (j + 1) → k + j ≤ 8 → (0 < k → 0 < n) → acc + n * 128 ^ k ≤ mostNum → takeGo k acc (putNum n ++ r) = some (acc + n * 128 ^ k, r) := by
  intro j
  induction j with
  | zero =>
    intro k acc n r h hk hp hm
    have h1 : n < 128 := by simpa using h
    rw [putNum_lt h1]
    simp only [List.singleton_append, takeGo, toNat_ofNat_lt (show n < 256 by omega)]
    rw [if_neg (by omega), if_pos h1, if_neg (by omega), if_neg (by omega)]
  | succ j ih =>
    intro k acc n r h hk hp hm
    by_cases h1 : n < 128
    · rw [putNum_lt h1]
      simp only [List.singleton_append, takeGo, toNat_ofNat_lt (show n < 256 by omega)]
      rw [if_neg (by omega), if_pos h1, if_neg (by omega), if_neg (by omega)]
    · rw [putNum_ge (by omega)]
      simp only [List.cons_append, takeGo, toNat_ofNat_lt (show n % 128 + 128 < 256 by omega)]
      rw [if_neg (by omega), if_neg (by omega)]
      have hd : n % 128 + n / 128 * 128 = n := by omega
      have he : acc + (n % 128 + 128 - 128) * 128 ^ k + n / 128 * 128 ^ (k + 1) = acc + n * 128 ^ k := by
        rw [Nat.add_sub_cancel, Nat.pow_succ, Nat.add_assoc]
        congr 1
        rw [Nat.mul_comm (128 ^ k) 128, ← Nat.mul_assoc, ← Nat.add_mul, hd]
      rw [ih (k + 1) _ (n / 128) r (by rw [Nat.div_lt_iff_lt_mul (by decide)]; rwa [Nat.pow_succ] at h) (by omega) (fun _ => by omega) (by rw [he]; exact hm), he]
theorem takeNum_put {n : Nat} (h : n ≤ mostNum) (r : Bs) : takeNum (putNum n ++ r) = some (n, r) := by
  have := takeGo_put 8 0 0 n r (by unfold mostNum at h; omega) (by omega) (by omega) (by simpa using h)
  simpa [takeNum] using this

theorem ofNat_toNat (c : UInt8) : UInt8.ofNat c.toNat = c := by simp
theorem takeGo_back : ∀ (b : Bs) (k acc m : Nat) (r : Bs), takeGo k acc b = some (m, r) → ∃ n, m = acc + n * 128 ^ k ∧ b = putNum n ++ r ∧ m ≤ mostNum ∧ (0 < k → 0 < n) := by
  intro b
  induction b with
  | nil => intro k acc m r h; simp [takeGo] at h
  | cons c b ih =>
    intro k acc m r h
    simp only [takeGo] at h
    split at h
    · cases h
    · split at h
      · rename_i hc
        split at h
        · cases h
        · rename_i h0
          split at h
          · cases h
          · rename_i hm
            simp only [Option.some.injEq, Prod.mk.injEq] at h
            obtain ⟨rfl, rfl⟩ := h
            exact ⟨c.toNat, rfl, by rw [putNum_lt hc, ofNat_toNat]; rfl, by omega, fun hk => by omega⟩
      · rename_i hc
        obtain ⟨n, rfl, hb, hm, hp⟩ := ih _ _ _ _ h
        have hn := hp (by omega)
        have hcl := c.toNat_lt
        refine ⟨c.toNat - 128 + n * 128, ?_, ?_, hm, fun _ => by omega⟩
        · rw [Nat.pow_succ, Nat.add_mul, Nat.mul_assoc, Nat.mul_comm 128 (128 ^ k), Nat.add_assoc]
        · rw [putNum_ge (by omega), hb]
          have e1 : (c.toNat - 128 + n * 128) % 128 + 128 = c.toNat := by omega
          have e2 : (c.toNat - 128 + n * 128) / 128 = n := by omega
          rw [e1, e2, ofNat_toNat]
          rfl
theorem takeNum_back {b : Bs} {m : Nat} {r : Bs} (h : takeNum b = some (m, r)) : b = putNum m ++ r ∧ m ≤ mostNum := by
  obtain ⟨n, rfl, hb, hm, _⟩ := takeGo_back b 0 0 m r h
  simp at hm ⊢
  exact ⟨hb, hm⟩
theorem takeText_put {s : Bs} {most : Int} (hs : s.length ≤ mostNum) (hm : (s.length : Int) ≤ most) (r : Bs) : takeText (putText s ++ r) most = some (s, r) := by
  unfold takeText putText
  rw [List.append_assoc, takeNum_put hs]
  simp [hm]
theorem takeText_back {b : Bs} {most : Int} {s r : Bs} (h : takeText b most = some (s, r)) : b = putText s ++ r ∧ (s.length : Int) ≤ most ∧ s.length ≤ mostNum := by
  unfold takeText at h
  split at h
  · rename_i n r' hn
    obtain ⟨hb, hm⟩ := takeNum_back hn
    split at h
    · rename_i hc
      simp only [Option.some.injEq, Prod.mk.injEq] at h
      obtain ⟨rfl, rfl⟩ := h
      have : (r'.take n).length = n := by simp; omega
      refine ⟨?_, by omega, by omega⟩
      rw [putText, this, hb, List.append_assoc, List.take_append_drop]
    · cases h
  · cases h
theorem takeNum_len {b : Bs} {m : Nat} {r : Bs} (h : takeNum b = some (m, r)) : r.length < b.length := by
  obtain ⟨hb, _⟩ := takeNum_back h
  have := putNum_pos m
  rw [hb, List.length_append]; omega
end Go.Proofs.YtjelehcnpocnoaaGreatDoor
/- A region that draws its order and whose last operation stores into a cell that it loads: what holds of the world ('S') need not hold behind that one. -/
namespace Go.Proofs.YtjelehcnpocnoaaGreatDoor
set_option linter.unusedSimpArgs false
set_option linter.unusedVariables false
set_option linter.unnecessarySimpa false
open Go.RowKit
section
variable {P : Program} {ops : Array Oper} {Q : Exit → Act → World → Prop} {md : Region.Mode} {S : World → Prop} {z : Nat}

/-- Whatever order is picked from here on; S holds behind every operation but number z. -/
def wpAnyZ (P : Program) (md : Region.Mode) (ops : Array Oper) (Q : Exit → Act → World → Prop) (S : World → Prop) (z : Nat) : Nat → Array Bool → Act → World → Prop
  | 0, listed, a, w => Region.ready md ops listed = [] ∧ Q .normal a w
  | fuel + 1, listed, a, w =>
    (Region.ready md ops listed = [] → Q .normal a w) ∧
    ∀ i ∈ Region.ready md ops listed, wpOp P ops Q i (fun a' w' => (i ≠ z → S w') ∧ wpAnyZ P md ops Q S z fuel (listed.setIfInBounds i true) a' w') a w
theorem wpAny_of_Z : ∀ (fuel : Nat) (listed : Array Bool) (a : Act) (w : World), wpAnyZ P md ops Q S z fuel listed a w → wpAny P md ops Q fuel listed a w
  | 0, _, _, _, h => h
  | fuel + 1, _, _, _, h => ⟨h.1, fun i hi => wpOp_mono (fun a' w' h' => wpAny_of_Z fuel _ a' w' h'.2) (h.2 i hi)⟩

theorem wpAnyZ_first {i : Nat} {oi : Oper} {v : Value} (hi : ops[i]? = some oi) (hsel : ∀ (j : Nat) (o : Oper) cs b, ops[j]? = some o → o.op ≠ .select cs b)
    (hQ : ∀ c a w, Q (.panic c) (a.put oi.dst v) w → Q (.panic c) a w) (hz : i ≠ z) (hwait : ∀ oz, ops[z]? = some oz → ∃ e ∈ oz.after, Region.binds md e = true ∧ e.on = i) :
    ∀ (fuel : Nat) (listed : Array Bool) (a : Act) (w : World),
      (∀ j oj, ops[j]? = some oj → j ≠ i → listed.getD j true = false → (∀ e ∈ oj.after, Region.binds md e = true → e.on ≠ i) → oi.apart ops oj = true) →
      i ∈ Region.ready md ops listed → YieldsIf P ops S oi v a → S w →
      wpAnyZ P md ops Q S z fuel (listed.setIfInBounds i true) (a.put oi.dst v) w → wpAnyZ P md ops Q S z (fuel + 1) listed a w := by
  intro fuel
  induction fuel with
  | zero =>
    intro listed a w _ hr hy hS H
    refine ⟨fun h => (by rw [h] at hr; cases hr), fun j hj => ?_⟩
    by_cases hji : j = i
    · subst hji; exact hy.wpOp hi hS ⟨fun _ => hS, H⟩
    · have := ready_mono hj hji
      rw [H.1] at this
      cases this
  | succ fuel ih =>
    intro listed a w hfree hr hy hS H
    refine ⟨fun h => (by rw [h] at hr; cases hr), fun j hj => ?_⟩
    by_cases hji : j = i
    · subst hji; exact hy.wpOp hi hS ⟨fun _ => hS, H⟩
    · have h1 := H.2 j (ready_mono hj hji)
      obtain ⟨hjun, oj, hoj, hall⟩ := mem_ready.1 hj
      have hnot : ∀ e ∈ oj.after, Region.binds md e = true → e.on ≠ i := fun e he hb heq => by
        have h1 := hall e he hb
        have h0 := (mem_ready.1 hr).1
        rw [heq] at h1
        rcases Nat.lt_or_ge i listed.size with h' | h'
        · simp [h'] at h0 h1; rw [h0] at h1; cases h1
        · simp [Array.getElem?_eq_none h'] at h1
      have hjz : j ≠ z := fun e => by
        subst e
        obtain ⟨e, he, hb, hon⟩ := hwait oj hoj
        exact hnot e he hb hon
      have h2 := wpOp_putIf hoj (hfree j oj hoj hji hjun hnot) (fun cs b => hsel i oi cs b hi) (fun cs b => hsel j oj cs b hoj) hQ hy h1
      have hfree' : ∀ k ok, ops[k]? = some ok → k ≠ i → (listed.setIfInBounds j true).getD k true = false →
          (∀ e ∈ ok.after, Region.binds md e = true → e.on ≠ i) → oi.apart ops ok = true := fun k ok hk hki hun hno => by
        refine hfree k ok hk hki ?_ hno
        by_cases hjk : j = k
        · subst hjk; exact hjun
        · rw [getD_set_ne true hjk] at hun; exact hun
      refine wpOp_mono (fun a' w' h3 => ⟨h3.2.1, ih (listed.setIfInBounds j true) a' w' hfree' (ready_mono hr (Ne.symm hji)) h3.1 (h3.2.1 hjz) ?_⟩) h2
      rw [Array.setIfInBounds_comm _ _ hji]
      exact h3.2.2

/-- Does z wait for i? -/
def waitsFor (md : Region.Mode) (ops : Array Oper) (z i : Nat) : Bool := match ops[z]? with | some o => o.after.any (fun e => Region.binds md e && e.on == i) && i != z | none => i != z
theorem waitsFor_spec {i : Nat} (h : waitsFor md ops z i = true) : i ≠ z ∧ ∀ oz, ops[z]? = some oz → ∃ e ∈ oz.after, Region.binds md e = true ∧ e.on = i := by
  unfold waitsFor at h
  cases hz : ops[z]? with
  | none => rw [hz] at h; exact ⟨by simpa using h, fun _ h => by cases h⟩
  | some o =>
    rw [hz] at h
    simp only [Bool.and_eq_true, bne_iff_ne, ne_eq] at h
    refine ⟨h.2, fun oz ho => ?_⟩
    cases ho
    obtain ⟨e, he, hb⟩ := Array.any_eq_true'.1 h.1
    simp at hb
    exact ⟨e, he, hb.1, hb.2⟩
/-- Number i is taken first. -/
theorem wpAnyZ_take {i : Nat} {oi : Oper} {v : Value} {fuel : Nat} {listed : Array Bool} {a : Act} {w : World} (hi : ops[i]? = some oi)
    (hs : Region.noSelect ops = true) (hf : Region.free md ops listed i = true) (hr : (Region.ready md ops listed).contains i = true) (hw : waitsFor md ops z i = true)
    (hQ : ∀ c a w, Q (.panic c) (a.put oi.dst v) w → Q (.panic c) a w) (hy : YieldsIf P ops S oi v a) (hS : S w)
    (h : wpAnyZ P md ops Q S z fuel (listed.setIfInBounds i true) (a.put oi.dst v) w) : wpAnyZ P md ops Q S z (fuel + 1) listed a w :=
  wpAnyZ_first hi (Region.noSelect_spec hs) hQ (waitsFor_spec hw).1 (waitsFor_spec hw).2 fuel listed a w (Region.free_spec hi hf) (by simpa using hr) hy hS h
/-- The one that may come up now, comes up. -/
theorem wpAnyZ_one {i : Nat} {o : Oper} {fuel : Nat} {listed : Array Bool} {a : Act} {w : World} (hr : Region.ready md ops listed = [i]) (ho : ops[i]? = some o)
    (h : ∀ K' : Act → World → Prop, Shut (∀ a w, (i ≠ z → S w) → ((i ≠ z → S w) → wpAnyZ P md ops Q S z fuel (listed.setIfInBounds i true) a w) → K' a w) → if Region.wanted o (yielded ops a.tmps) = true then Oper.wp P o a w K' Q else K' (a.put o.dst undef) w) :
    wpAnyZ P md ops Q S z (fuel + 1) listed a w := by
  refine ⟨fun h0 => (by rw [hr] at h0; cases h0), fun j hj => ?_⟩
  rw [hr] at hj
  obtain rfl : j = i := by simpa using hj
  exact wpOp_step ho (fun K' hK => h K' (fun a w hS hW => hK a w ⟨hS, hW hS⟩))
theorem wpAnyZ_done {listed : Array Bool} {a : Act} {w : World} (hr : Region.ready md ops listed = []) (h : Q .normal a w) : ∀ fuel, wpAnyZ P md ops Q S z fuel listed a w
  | 0 => ⟨hr, h⟩
  | _ + 1 => ⟨fun _ => h, by rw [hr]; simp⟩
/-- The beginning. -/
theorem wp_region_Z {id : Nat} {a : Act} {w : World} (S : World → Prop) (z : Nat) (hm : P.follows .mixedOrders = true)
    (h : wpAnyZ P .any ops Q S z ops.size (Array.replicate ops.size false) a w.drew) : (Code.region id ops true).wp P Q a w :=
  wp_region_any hm (wpAny_of_Z _ _ _ _ h)
end
end Go.Proofs.YtjelehcnpocnoaaGreatDoor
