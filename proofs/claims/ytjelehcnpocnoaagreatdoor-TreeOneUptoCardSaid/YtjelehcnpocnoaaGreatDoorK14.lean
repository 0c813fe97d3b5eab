/- Joined: Find3 Find5 Find4 Find6 Press4 Find7. -/
import Derived.Test.YtjelehcnpocnoaaGreatDoorK13
import Derived.Laws.Cover3
import Derived.Test.YtjelehcnpocnoaaGreatDoorK12
/- Layer 3, press: four bytes at a place; what is known. -/
namespace Go.Proofs.YtjelehcnpocnoaaGreatDoor
set_option linter.unusedSimpArgs false
set_option linter.unusedVariables false
set_option linter.unnecessarySimpa false
open Go.RowKit
set_option maxRecDepth 100000
set_option maxHeartbeats 4000000

theorem at_calls (v : Value) (b : Bs) (i : Nat) (w : World) (hs : Sl w 5 1 v b.length (b.map bv)) (hi : i + 4 ≤ b.length) (hb : b.length ≤ 70368744170000) :
    Calls Tryz.prog 223 #[v, .int .i64 i] w fun e w' => (∃ x y z u, e = .returned (fourV x y z u)) ∧ Fr [] w w' := by
  obtain ⟨a, c, rfl, h2, h3, hc⟩ := hs.open1
  obtain ⟨g, o, rfl, hcell⟩ := hc (by omega)
  have e1 : IntKind.i64.wrap ((i : Int) + 4) = ((i + 4 : Nat) : Int) := by rw [IntKind.wrap_i64]; omega
  have ra : ∀ W : World, (Instr.arrayAt 291 (.slice (some ⟨g, o + i, none⟩) 4 (c - i))).run Tryz.prog W = .ok (.pointer (some ⟨g, o + i, none⟩)) W := fun W => run_arrayAt (P := Tryz.prog) W 291 5 4 _ 4 _ u_four (Nat.le_refl _)
  have x0 := hcell i (by omega)
  have x1 := hcell (i + 1) (by omega)
  have x2 := hcell (i + 2) (by omega)
  have x3 := hcell (i + 3) (by omega)
  rw [List.getElem?_map, List.getElem?_eq_getElem (show i < b.length by omega)] at x0
  rw [List.getElem?_map, List.getElem?_eq_getElem (show i + 1 < b.length by omega)] at x1
  rw [List.getElem?_map, List.getElem?_eq_getElem (show i + 2 < b.length by omega)] at x2
  rw [List.getElem?_map, List.getElem?_eq_getElem (show i + 3 < b.length by omega)] at x3
  generalize b[i] = y0 at x0
  generalize b[i + 1] = y1 at x1
  generalize b[i + 2] = y2 at x2
  generalize b[i + 3] = y3 at x3
  simp only [Option.map_some, bv] at x0 x1 x2 x3
  have n0 : g ≠ w.heap.size := by have := World.block_lt_of_cell? w _ x0; simp at this; omega
  rw [← Nat.add_assoc] at x1 x2 x3
  have hFA : Fr [] w (w.alloc (.cells #[.int .u8 0, .int .u8 0, .int .u8 0, .int .u8 0] 291)) := (Fr.refl _ _).alloc _
  have z0 := hFA.cell x0 (by simp)
  have z1 := hFA.cell x1 (by simp)
  have z2 := hFA.cell x2 (by simp)
  have z3 := hFA.cell x3 (by simp)
  clear hcell hc x0 x1 x2 x3
  go_enter Tryz.func223, Tryz.ntmps223
  go_wp2_with fail
  refine bodyPost_ret (v := fourV y0 y1 y2 y3) (by simp [results, Tryz.results223, go_sem, fourV, bv]) rfl ⟨⟨_, _, _, _, rfl⟩, (Fr.refl _ _).alloc _⟩

def iv (k : Nat) : Value := .int .i64 (k : Int)
/-- The finder, in memory: F its block, mb its map's. -/
structure FindAt (base : Nat) (w : World) (F mb : Nat) (vb : Value) (b : Bs) (known : Nat) : Prop where
  c0 : w.cell? ⟨F, 0, none⟩ = some vb
  c1 : w.cell? ⟨F, 1, none⟩ = some (.map (some mb))
  c2 : w.cell? ⟨F, 2, none⟩ = some (.int .i64 known)
  free : ∀ o, w.frozen? ⟨F, o, none⟩ = false
  row : ∃ cs, w.heap[F]? = some (.cells cs 248 (0, 0))
  sb : Sl w 5 1 vb b.length (b.map bv)
  hbase : base ≤ w.heap.size
  map : ∃ f, MapAt Tryz.prog 291 w mb known f ∧ (∀ s v, f s = some v → ∃ ks : List Nat, w.ownsRow base 3 1 v ks.length (ks.map iv) ∧ ks.length ≤ known ∧ ∀ k ∈ ks, k < known) ∧
    (∀ s t v u g, f s = some v → f t = some u → v.ownBlock = some g → u.ownBlock = some g → s = t)
theorem FindAt.lt {base : Nat} {w : World} {F mb : Nat} {vb : Value} {b : Bs} {known : Nat} (h : FindAt base w F mb vb b known) : F < w.heap.size := by
  obtain ⟨cs, h⟩ := h.row
  exact (Array.getElem?_eq_some_iff.1 h).1
theorem FindAt.ne_map {base : Nat} {w : World} {F mb : Nat} {vb : Value} {b : Bs} {known : Nat} (h : FindAt base w F mb vb b known) : F ≠ mb := by
  obtain ⟨cs, hr⟩ := h.row
  obtain ⟨f, hm, _⟩ := h.map
  obtain ⟨es, clock, hm⟩ := hm.row
  rintro rfl
  rw [hr] at hm; cases hm
theorem FindAt.fr0 {base : Nat} {w w' : World} {F mb : Nat} {vb : Value} {b : Bs} {known : Nat} (h : FindAt base w F mb vb b known) (hF : Fr [] w w') : FindAt base w' F mb vb b known := by
  obtain ⟨cs, hr⟩ := h.row
  obtain ⟨f, hm, h1, h2⟩ := h.map
  have hb := hF.blk F h.lt (by simp)
  exact ⟨hF.cell h.c0 (by simp), hF.cell h.c1 (by simp), hF.cell h.c2 (by simp), fun o => (World.frozen?_of_block (w := w) hb).trans (h.free o), ⟨cs, hb.trans hr⟩, h.sb.fr0 hF, Nat.le_trans h.hbase hF.size, f, hm.fr hF (by simp),
    fun s v hv => let ⟨ks, ho, hk⟩ := h1 s v hv; ⟨ks, own_fr ho hF (off_nil _ _), hk⟩, h2⟩

end Go.Proofs.YtjelehcnpocnoaaGreatDoor
/- Layer 3, press: the finder learns. -/
namespace Go.Proofs.YtjelehcnpocnoaaGreatDoor
set_option linter.unusedSimpArgs false
set_option linter.unusedVariables false
set_option linter.unnecessarySimpa false
open Go.RowKit
set_option maxRecDepth 100000
set_option maxHeartbeats 8000000

theorem Fr.of_drew {F : List Nat} {w w' : World} (h : Fr F w.drew w') : Fr F w w' := ⟨h.os, h.tape, h.output, h.size, h.blk⟩
theorem frozen_new (w : World) (c : Array Value) (t : TypeId) (j : Nat) : (w.alloc (.cells c t)).frozen? ⟨w.heap.size, j, none⟩ = false := by
  simp only [World.frozen?, heap_alloc_new]; simp

section
variable {P : Program} {ops : Array Oper} {o : Oper} {a : Act} {Q : Exit → Act → World → Prop}
/-- m[k] is looked for ahead of a store, at a step of a drawn region. -/
theorem step_entry {w : World} {K : Act → World → Prop} {E : Prop} (hgd : o.guard = none) (t : TypeId) (m k : Operand) (vm vk : Value) (ho : o.op = .mapEntry t m k) (hm : a.eval m = vm) (hk : a.eval k = vk)
    {v : Value} {w' : World} (hr : (Instr.mapEntry t vm vk).run P w = .ok v w') (h : K (a.put o.dst v) w') : if Region.wanted o (yielded ops a.tmps) = true then Oper.wp P o a w K Q else E := by
  have hw : Region.wanted o (yielded ops a.tmps) = true := by simp [Region.wanted, hgd]
  rw [if_pos hw]
  unfold Oper.wp execOp
  simp only [ho, Sem.run_bind, Sem.run_pure, Result.andThen_ok, hm, hk, hr]
  exact h
/-- The store into an entry that was looked for. -/
theorem step_entryStore {w : World} {K : Act → World → Prop} {E : Prop} (hgd : o.guard = none) (t : TypeId) (m s x : Operand) (vm vs vx : Value) (ho : o.op = .entryStore t m s x) (hm : a.eval m = vm) (hs : a.eval s = vs) (hx : a.eval x = vx)
    {w' : World} (hr : (Instr.entryStore t vm vs vx).run P w = .ok () w') (h : K (a.put o.dst undef) w') : if Region.wanted o (yielded ops a.tmps) = true then Oper.wp P o a w K Q else E := by
  have hw : Region.wanted o (yielded ops a.tmps) = true := by simp [Region.wanted, hgd]
  rw [if_pos hw]
  unfold Oper.wp execOp
  simp only [ho, Sem.run_bind, Sem.run_pure, Result.andThen_ok, hm, hs, hx, hr]
  exact h
end

/-- Rows of bytes are as they were. -/
def KeepB (w w' : World) : Prop := ∀ k, IsRow w 5 k → w'.heap[k]? = w.heap[k]?
theorem KeepB.trans {a b c : World} (h : KeepB a b) (k : KeepB b c) : KeepB a c := fun i hi => by
  have h1 := h i hi
  obtain ⟨cs, fr, h2⟩ := hi
  exact (k i ⟨cs, fr, by rw [h1, h2]⟩).trans h1
theorem KeepB.of_fr {F : List Nat} {w w' : World} (h : Fr F w w') (ho : Off F w 5) : KeepB w w' := fun i hi => by
  have hn : i ∉ F := fun hx => ho i hx hi
  obtain ⟨cs, fr, h2⟩ := hi
  exact h.blk i (Array.getElem?_eq_some_iff.1 h2).1 hn
theorem KeepB.of_fr0 {w w' : World} (h : Fr [] w w') : KeepB w w' := KeepB.of_fr h (off_nil _ _)
theorem Sl.keepB {w w' : World} {size : Nat} {v : Value} {n : Nat} {xs : List Value} (h : Sl w 5 size v n xs) (hk : KeepB w w') : Sl w' 5 size v n xs := by
  obtain ⟨h1, a, c, rfl, h2, h3, h4, h5⟩ := h
  refine ⟨h1, a, c, rfl, h2, h3, h4, fun hn => ?_⟩
  obtain ⟨b, o, cs, fr, rfl, hb, hc⟩ := h5 hn
  exact ⟨b, o, cs, fr, rfl, (hk b ⟨cs, fr, hb⟩).trans hb, hc⟩
/-- What is known of places. -/
def Places (base : Nat) (w : World) (mb known : Nat) : Prop :=
  ∃ f, MapAt Tryz.prog 291 w mb known f ∧ (∀ s v, f s = some v → ∃ ks : List Nat, w.ownsRow base 3 1 v ks.length (ks.map iv) ∧ ks.length ≤ known ∧ ∀ k ∈ ks, k < known) ∧
    (∀ s t v u g, f s = some v → f t = some u → v.ownBlock = some g → u.ownBlock = some g → s = t)
theorem iv_one (l : List Nat) : ∀ u ∈ l.map iv, u.oneCell' = true := by
  intro u hu
  obtain ⟨b, _, rfl⟩ := List.mem_map.1 hu
  rfl
/-- An owned row that stands in no block that was turned. -/
theorem own_keep {F : List Nat} {w w' : World} {base : Nat} {e : TypeId} {size : Nat} {v : Value} {n : Nat} {xs : List Value} (h : w.ownsRow base e size v n xs) (hF : Fr F w w') (ho : ∀ g, v.ownBlock = some g → g ∉ F) : w'.ownsRow base e size v n xs := by
  refine ⟨h.1, ?_⟩
  rcases h.2 with h2 | ⟨g, cap, cur, rfl, hb, hg, r⟩
  · exact .inl h2
  · exact .inr ⟨g, cap, cur, rfl, hb, hF.block hg (ho g rfl), r⟩
theorem own_no_map {w : World} {base : Nat} {e : TypeId} {size : Nat} {v : Value} {n g : Nat} {xs : List Value} (h : w.ownsRow base e size v n xs) (hg : v.ownBlock = some g) (hm : ∃ es c, w.heap[g]? = some (.map es c)) : False := by
  obtain ⟨es, c, hm⟩ := hm
  rcases h.2 with ⟨rfl, _⟩ | ⟨g', cap, cur, rfl, _, hgg, _⟩
  · simp [Value.ownBlock] at hg
  · obtain rfl : g' = g := by simpa [Value.ownBlock] using hg
    rw [hm] at hgg
    cases hgg
/-- m[k] = append(m[k], known): what is known then. -/
theorem places_learn {base mb kn : Nat} {wr Wa w1 Wb w2 w3 : World} {f : Bs → Option Value} {s : Bs} {row v' : Value} {ks : List Nat}
    (hm : MapAt Tryz.prog 291 wr mb kn f) (hown : ∀ s v, f s = some v → ∃ ks : List Nat, wr.ownsRow base 3 1 v ks.length (ks.map iv) ∧ ks.length ≤ kn ∧ ∀ k ∈ ks, k < kn)
    (hap : ∀ s t v u g, f s = some v → f t = some u → v.ownBlock = some g → u.ownBlock = some g → s = t)
    (hrow : row = (f s).getD (.slice none 0 0)) (hks : ks.length ≤ kn ∧ ∀ k ∈ ks, k < kn) (ha : Fr [] wr Wa) (hb : Fr [mb] Wa w1) (hc : Fr [] w1 Wb) (hgr : Wb.grownBy w2 row.ownBlock) (hv : v'.ownBlock = row.ownBlock ∨ v'.ownBlock = some Wb.heap.size)
    (ho2 : w2.ownsRow base 3 1 v' (ks.length + 1) (ks.map iv ++ [iv kn])) (hmp : ∃ es c, w2.heap[mb]? = some (.map es c)) (hd : Fr [mb] w2 w3) (hm3 : MapAt Tryz.prog 291 w3 mb (kn + 1) (upd f s (some v'))) :
    Places base w3 mb (kn + 1) ∧ Fr (mb :: row.ownBlock.toList) wr w3 := by
  have hF1 : Fr [mb] wr Wb := ((ha.weaken (by simp)).trans hb (by simp)).trans0 hc
  have hF2 : Fr (mb :: row.ownBlock.toList) wr w2 := (hF1.weaken (by simp)).grown hgr (fun k hk => .inl (by simp [hk]))
  have hF3 : Fr (mb :: row.ownBlock.toList) wr w3 := hF2.trans hd (by simp)
  have hlt : ∀ t u g, f t = some u → u.ownBlock = some g → g < wr.heap.size := fun t u g ht hg => by
    obtain ⟨ks', ho, _⟩ := hown t u ht
    exact (ho.lt g hg).2
  have hrs : ∀ t u g, t ≠ s → f t = some u → u.ownBlock = some g → row.ownBlock ≠ some g := fun t u g hts ht hg hr => by
    cases hfs : f s with
    | none => rw [hrow, hfs] at hr; simp [Value.ownBlock] at hr
    | some r => rw [hrow, hfs] at hr; exact hts (hap t s u r g ht hfs hg hr)
  have hap2 : ∀ t u g, t ≠ s → f t = some u → u.ownBlock = some g → v'.ownBlock = some g → False := fun t u g hts ht hg hr => by
    rcases hv with h | h
    · exact hrs t u g hts ht hg (h.symm.trans hr)
    · have h1 := hlt t u g ht hg
      rw [hr] at h
      have h2 := hF1.size
      simp at h
      omega
  refine ⟨⟨_, hm3, fun t u ht => ?_, fun t1 t2 u1 u2 g h1 h2 g1 g2 => ?_⟩, hF3⟩
  · by_cases hts : t = s
    · subst hts
      obtain rfl : v' = u := by simpa [upd] using ht
      refine ⟨ks ++ [kn], ?_, by simp; omega, ?_⟩
      · have := own_keep ho2 hd (fun g hg hx => by
          obtain rfl : g = mb := by simpa using hx
          exact own_no_map ho2 hg hmp)
        simpa using this
      · intro k hk
        rcases List.mem_append.1 hk with hk | hk
        · have := hks.2 k hk; omega
        · simp at hk; omega
    · have ht' : f t = some u := by simpa [upd, hts] using ht
      obtain ⟨ks', ho, hk1, hk2⟩ := hown t u ht'
      refine ⟨ks', own_keep ho hF3 (fun g hg hx => ?_), by omega, fun k hk => by have := hk2 k hk; omega⟩
      rcases List.mem_cons.1 hx with rfl | hx
      · exact own_no_map ho hg hm.row
      · exact hrs t u g hts ht' hg (by simpa [eq_comm] using hx)
  · by_cases e1 : t1 = s <;> by_cases e2 : t2 = s
    · rw [e1, e2]
    · subst e1
      obtain rfl : v' = u1 := by simpa [upd] using h1
      exact (hap2 t2 u2 g e2 (by simpa [upd, e2] using h2) g2 g1).elim
    · subst e2
      obtain rfl : v' = u2 := by simpa [upd] using h2
      exact (hap2 t1 u1 g e1 (by simpa [upd, e1] using h1) g1 g2).elim
    · exact hap t1 t2 u1 u2 g (by simpa [upd, e1] using h1) (by simpa [upd, e2] using h2) g1 g2
/-- The finder, when the place is counted. -/
theorem FindAt.step {base F mb kn : Nat} {vb : Value} {b : Bs} {wr W : World} {row : Value} {ks : List Nat} (h : FindAt base wr F mb vb b kn) (hp : Places base W mb (kn + 1)) (hF : Fr (mb :: row.ownBlock.toList) wr W)
    (ho : wr.ownsRow base 3 1 row ks.length (ks.map iv)) : FindAt base (W.setCell ⟨F, 2, none⟩ (.int .i64 (kn + 1 : Nat))) F mb vb b (kn + 1) := by
  have hn : F ∉ mb :: row.ownBlock.toList := by
    intro hx
    rcases List.mem_cons.1 hx with hx | hx
    · exact h.ne_map hx
    · exact own_ne ho h.row (by decide) hx
  have hFF : Fr [F] W (W.setCell ⟨F, 2, none⟩ (.int .i64 (kn + 1 : Nat))) := (Fr.refl _ _).setCell (.inl (by simp)) _
  have hrow : ∃ cs, W.heap[F]? = some (.cells cs 248 (0, 0)) := by
    obtain ⟨cs, hr⟩ := h.row
    exact ⟨cs, hF.block hr hn⟩
  have hne := h.ne_map
  have k0 := hF.cell h.c0 hn
  have k1 := hF.cell h.c1 hn
  have k2 := hF.cell h.c2 hn
  have offF : ∀ e, e ≠ 248 → Off [F] W e := fun e he k hk => by
    obtain rfl : k = F := by simpa using hk
    rintro ⟨cs, fr, h'⟩
    obtain ⟨cs', hr⟩ := hrow
    rw [hr] at h'
    simp at h'
    exact he h'.2.1.symm
  obtain ⟨f, hm, h1, h2⟩ := hp
  refine ⟨(cell_set_ne _ _ _ _ _ _ (.inr (by decide))).trans k0, (cell_set_ne _ _ _ _ _ _ (.inr (by decide))).trans k1, cell_set_same _ _ _ _ _ k2, fun o => ?_, row_set hrow 2 _, (h.sb.fr hF ?_).fr hFF (offF _ (by decide)), ?_, f, hm.fr hFF (by simpa using hne.symm), fun s v hs => ?_, h2⟩
  · have hb : W.heap[F]? = wr.heap[F]? := hF.blk F h.lt hn
    have := (World.frozen?_of_block (w := wr) (a := ⟨F, o, none⟩) hb).trans (h.free o)
    rw [World.frozen?_setCell]
    exact this
  · intro k hk
    rcases List.mem_cons.1 hk with rfl | hk
    · rintro ⟨cs, fr, h'⟩
      obtain ⟨f', hm', _⟩ := h.map
      obtain ⟨es, c, hm'⟩ := hm'.row
      rw [hm'] at h'
      cases h'
    · rintro ⟨cs, fr, h'⟩
      rcases ho.2 with ⟨rfl, _⟩ | ⟨g, cap, cur, rfl, _, hgg, _⟩
      · simp [Value.ownBlock] at hk
      · simp [Value.ownBlock] at hk
        subst hk
        rw [hgg] at h'
        simp at h'
  · have h1 := h.hbase
    have h2 := hF.size
    have h3 := hFF.size
    omega
  · obtain ⟨ks', ho', hk⟩ := h1 s v hs
    exact ⟨ks', own_fr ho' hFF (offF _ (by decide)), hk⟩
section
variable {P : Program} {ops : Array Oper} {o : Oper} {a : Act} {Q : Exit → Act → World → Prop}
theorem step_entryR {w : World} {K : Act → World → Prop} {E : Prop} (R : World → World → Value → Prop) (hgd : o.guard = none) (t : TypeId) (m k : Operand) (vm vk : Value) (ho : o.op = .mapEntry t m k) (hm : a.eval m = vm) (hk : a.eval k = vk)
    (hr : ∃ v w', (Instr.mapEntry t vm vk).run P w = .ok v w' ∧ R w w' v) (h : ∀ v w', R w w' v → K (a.put o.dst v) w') : if Region.wanted o (yielded ops a.tmps) = true then Oper.wp P o a w K Q else E := by
  obtain ⟨v, w', h1, h2⟩ := hr
  exact step_entry hgd t m k vm vk ho hm hk h1 (h v w' h2)
theorem step_entryStoreR {w : World} {K : Act → World → Prop} {E : Prop} (R : World → Prop) (hgd : o.guard = none) (t : TypeId) (m s x : Operand) (vm vs vx : Value) (ho : o.op = .entryStore t m s x) (hm : a.eval m = vm) (hs : a.eval s = vs) (hx : a.eval x = vx)
    (hr : ∃ w', (Instr.entryStore t vm vs vx).run P w = .ok () w' ∧ R w') (h : ∀ w', R w' → K (a.put o.dst undef) w') : if Region.wanted o (yielded ops a.tmps) = true then Oper.wp P o a w K Q else E := by
  obtain ⟨w', h1, h2⟩ := hr
  exact step_entryStore hgd t m s x vm vs vx ho hm hs hx h1 (h w' h2)
end
/-- What the entry that was looked for allows. -/
def EntryR (W3 : World) (mb kn : Nat) (f : Bs → Option Value) (s : Bs) (W w1 : World) (st : Int) : Prop :=
  Fr [] W3 W ∧ Fr [mb] W w1 ∧ (∃ es c, w1.heap[mb]? = some (.map es c)) ∧ ∀ (w2 : World) (val : Value), w2.heap[mb]? = w1.heap[mb]? → ∃ w3, (Instr.entryStore 246 (.map (some mb)) (.int .i64 st) val).run Tryz.prog w2 = .ok () w3 ∧ MapAt Tryz.prog 291 w3 mb (kn + 1) (upd f s (some val)) ∧ Fr [mb] w2 w3
theorem cell_not_map {w : World} {b o : Nat} {v : Value} (h : w.cell? ⟨b, o, none⟩ = some v) (hm : ∃ es c, w.heap[b]? = some (.map es c)) : False := by
  obtain ⟨es, c, hm⟩ := hm
  simp [World.cell?, hm] at h
theorem FindAt.keep {base F mb kn : Nat} {vb : Value} {b : Bs} {wr W : World} {row : Value} {ks : List Nat} (h : FindAt base wr F mb vb b kn) (hF : Fr (mb :: row.ownBlock.toList) wr W)
    (ho : wr.ownsRow base 3 1 row ks.length (ks.map iv)) : KeepB wr (W.setCell ⟨F, 2, none⟩ (.int .i64 (kn + 1 : Nat))) := by
  have hFF : Fr (F :: mb :: row.ownBlock.toList) wr (W.setCell ⟨F, 2, none⟩ (.int .i64 (kn + 1 : Nat))) := (hF.weaken (fun x hx => .inl (by simp only [List.mem_cons] at hx ⊢; exact .inr hx))).setCell (.inl (by simp)) _
  refine KeepB.of_fr hFF ?_
  intro k hk
  rcases List.mem_cons.1 hk with rfl | hk
  · rintro ⟨cs, fr, h'⟩
    obtain ⟨cs', hr⟩ := h.row
    rw [hr] at h'
    simp at h'
  rcases List.mem_cons.1 hk with rfl | hk
  · rintro ⟨cs, fr, h'⟩
    obtain ⟨f', hm', _⟩ := h.map
    obtain ⟨es, c, hm'⟩ := hm'.row
    rw [hm'] at h'
    cases h'
  · rintro ⟨cs, fr, h'⟩
    rcases ho.2 with ⟨rfl, _⟩ | ⟨g, cap, cur, rfl, _, hgg, _⟩
    · simp [Value.ownBlock] at hk
    · simp [Value.ownBlock] at hk
      subst hk
      rw [hgg] at h'
      simp at h'
theorem know_calls (base F mb : Nat) (vb : Value) (b : Bs) (known i : Nat) (w : World) (h : FindAt base w F mb vb b known) (hki : known ≤ i) (hi : i ≤ b.length) (hb : b.length ≤ 17592186040000) (hF : base ≤ F) (hm : base ≤ mb) :
    Calls Tryz.prog 222 #[.pointer (some ⟨F, 0, none⟩), .int .i64 i] w fun e w' => e = .returned (.tuple #[]) ∧ ∃ known', known' ≤ i ∧ FindAt base w' F mb vb b known' ∧ Below base w w' ∧ KeepB w w' := by
  go_enter Tryz.func222, Tryz.ntmps222
  go_wp2_with fail
  go_loopw [] (fun wr => ∃ kn : Nat, kn ≤ i ∧ FindAt base wr F mb vb b kn ∧ Below base w wr ∧ KeepB w wr) (fun wr => match wr.cell? ⟨F, 2, none⟩ with | some (.int _ k) => (i - k.toNat) | _ => 0)
  case atStart => exact ⟨known, hki, h, (Fr.refl [] w).belowAt (by simp) h.hbase, fun _ _ => rfl⟩
  case round =>
    obtain ⟨kn, hkn, hK, hbe, hkb⟩ := hrel
    clear h
    have c0 := hK.c0
    have c1 := hK.c1
    have c2 := hK.c2
    have f2 := hK.free 2
    obtain ⟨a, c, rfl, h3, h4⟩ := hK.sb.shape
    have e1 : IntKind.i64.wrap ((kn : Int) + 4) = (kn : Int) + 4 := by rw [IntKind.wrap_i64]; omega
    by_cases hlt : kn < i
    · have b1 : decide ((kn : Int) < i) = true := by simp; omega
      have i1 : (kn : Int) < i := by omega
      by_cases h4b : kn + 4 ≤ b.length
      · have b2 : decide ((kn : Int) + 4 ≤ b.length) = true := by simp; omega
        have i2 : (kn : Int) + 4 ≤ b.length := by omega
        go_wp2_with fail
        go_region_held3 (fun w' => w'.cell? ⟨F, 0, none⟩ = some (.slice a b.length c) ∧ w'.cell? ⟨F, 2, none⟩ = some (.int .i64 kn)) (go_keep) (fail)
        have nn := World.new_ne wr _ c0
        have nn2 : F ≠ wr.heap.size := Nat.ne_of_lt hK.lt
        have HA := Lib.hid (fun W (hW : Fr [] wr W) => at_calls (.slice a b.length c) b kn W (hK.sb.fr0 hW) h4b (by omega))
        go_wp2_with fail
        go_region_held3 (fun w' => w'.cell? ⟨F, 0, none⟩ = some (.slice a b.length c) ∧ w'.cell? ⟨F, 2, none⟩ = some (.int .i64 kn)) (first | go_keep | exact ⟨k0, k2⟩)
          ((go_at_call 223; refine (HA.out _ (by first | exact ((Fr.refl _ _).drew).drew | exact (((Fr.refl _ _).drew).drew).alloc _)).mono ?_; rintro e w2 ⟨⟨x, y, z, u, rfl⟩, hF2⟩; simp only [fourV, bv]; have k0 := hF2.cell (p := ⟨F, 0, none⟩) (v := .slice a b.length c) (by first | exact c0 | exact ((Fr.refl [] wr).alloc _).cell c0 (by simp)) (by simp); have k2 := hF2.cell (p := ⟨F, 2, none⟩) (v := .int .i64 kn) (by first | exact c2 | exact ((Fr.refl [] wr).alloc _).cell c2 (by simp)) (by simp); (try have n0 : w2.cell? ⟨wr.heap.size, 0, none⟩ = some (.int .u8 0) := hF2.cell (World.cell?_alloc_new wr.drew.drew #[.int .u8 0, .int .u8 0, .int .u8 0, .int .u8 0] 291 0) (by simp)); (try have q0 : w2.frozen? ⟨wr.heap.size, 0, none⟩ = false := (World.frozen?_of_block (w := wr.drew.drew.alloc (.cells #[.int .u8 0, .int .u8 0, .int .u8 0, .int .u8 0] 291)) (hF2.blk wr.heap.size (by simp) (by simp))).trans (frozen_new wr.drew.drew _ _ _)); (try have n1 : w2.cell? ⟨wr.heap.size, 1, none⟩ = some (.int .u8 0) := hF2.cell (World.cell?_alloc_new wr.drew.drew #[.int .u8 0, .int .u8 0, .int .u8 0, .int .u8 0] 291 1) (by simp)); (try have q1 : w2.frozen? ⟨wr.heap.size, 1, none⟩ = false := (World.frozen?_of_block (w := wr.drew.drew.alloc (.cells #[.int .u8 0, .int .u8 0, .int .u8 0, .int .u8 0] 291)) (hF2.blk wr.heap.size (by simp) (by simp))).trans (frozen_new wr.drew.drew _ _ _)); (try have n2 : w2.cell? ⟨wr.heap.size, 2, none⟩ = some (.int .u8 0) := hF2.cell (World.cell?_alloc_new wr.drew.drew #[.int .u8 0, .int .u8 0, .int .u8 0, .int .u8 0] 291 2) (by simp)); (try have q2 : w2.frozen? ⟨wr.heap.size, 2, none⟩ = false := (World.frozen?_of_block (w := wr.drew.drew.alloc (.cells #[.int .u8 0, .int .u8 0, .int .u8 0, .int .u8 0] 291)) (hF2.blk wr.heap.size (by simp) (by simp))).trans (frozen_new wr.drew.drew _ _ _)); (try have n3 : w2.cell? ⟨wr.heap.size, 3, none⟩ = some (.int .u8 0) := hF2.cell (World.cell?_alloc_new wr.drew.drew #[.int .u8 0, .int .u8 0, .int .u8 0, .int .u8 0] 291 3) (by simp)); (try have q3 : w2.frozen? ⟨wr.heap.size, 3, none⟩ = false := (World.frozen?_of_block (w := wr.drew.drew.alloc (.cells #[.int .u8 0, .int .u8 0, .int .u8 0, .int .u8 0] 291)) (hF2.blk wr.heap.size (by simp) (by simp))).trans (frozen_new wr.drew.drew _ _ _))))
        have hF3 : Fr [] wr (w2.alloc (.cells #[.int .u8 (x.toNat : Int), .int .u8 (y.toNat : Int), .int .u8 (z.toNat : Int), .int .u8 (u.toNat : Int)] 291)) := (((Fr.refl [] wr).drew.drew).trans0 hF2).alloc _
        have g0 := World.cell?_alloc_new w2 #[.int .u8 (x.toNat : Int), .int .u8 (y.toNat : Int), .int .u8 (z.toNat : Int), .int .u8 (u.toNat : Int)] 291 0
        have g1 := World.cell?_alloc_new w2 #[.int .u8 (x.toNat : Int), .int .u8 (y.toNat : Int), .int .u8 (z.toNat : Int), .int .u8 (u.toNat : Int)] 291 1
        have g2 := World.cell?_alloc_new w2 #[.int .u8 (x.toNat : Int), .int .u8 (y.toNat : Int), .int .u8 (z.toNat : Int), .int .u8 (u.toNat : Int)] 291 2
        have g3 := World.cell?_alloc_new w2 #[.int .u8 (x.toNat : Int), .int .u8 (y.toNat : Int), .int .u8 (z.toNat : Int), .int .u8 (u.toNat : Int)] 291 3
        generalize w2.alloc (.cells #[.int .u8 (x.toNat : Int), .int .u8 (y.toNat : Int), .int .u8 (z.toNat : Int), .int .u8 (u.toNat : Int)] 291) = W3 at *
        have hNge : wr.heap.size ≤ w2.heap.size := hF2.size
        generalize w2.heap.size = N at *
        rotate_left
        have hF3 : Fr [] wr ((((w2.setCell ⟨wr.heap.size, 0, none⟩ (.int .u8 (x.toNat : Int))).setCell ⟨wr.heap.size, 1, none⟩ (.int .u8 (y.toNat : Int))).setCell ⟨wr.heap.size, 2, none⟩ (.int .u8 (z.toNat : Int))).setCell ⟨wr.heap.size, 3, none⟩ (.int .u8 (u.toNat : Int))) :=
            (((((((Fr.refl [] wr).drew.drew).alloc _).trans0 hF2).setCell (.inr (Nat.le_refl _)) _).setCell (.inr (Nat.le_refl _)) _).setCell (.inr (Nat.le_refl _)) _).setCell (.inr (Nat.le_refl _)) _
        have hsz2 := hF2.size
        have g3 := cell_set_same ((((w2.setCell ⟨wr.heap.size, 0, none⟩ (.int .u8 (x.toNat : Int))).setCell ⟨wr.heap.size, 1, none⟩ (.int .u8 (y.toNat : Int))).setCell ⟨wr.heap.size, 2, none⟩ (.int .u8 (z.toNat : Int)))) wr.heap.size 3 (.int .u8 (u.toNat : Int)) (.int .u8 0) (by rw [cell_set_ne _ _ _ _ _ _ (.inr (by decide)), cell_set_ne _ _ _ _ _ _ (.inr (by decide)), cell_set_ne _ _ _ _ _ _ (.inr (by decide))]; assumption)
        have s0 := cell_set_same w2 wr.heap.size 0 (.int .u8 (x.toNat : Int)) (.int .u8 0) (by assumption)
        have s1 := cell_set_same (w2.setCell ⟨wr.heap.size, 0, none⟩ (.int .u8 (x.toNat : Int))) wr.heap.size 1 (.int .u8 (y.toNat : Int)) (.int .u8 0) (by rw [cell_set_ne _ _ _ _ _ _ (.inr (by decide))]; assumption)
        have s2 := cell_set_same ((w2.setCell ⟨wr.heap.size, 0, none⟩ (.int .u8 (x.toNat : Int))).setCell ⟨wr.heap.size, 1, none⟩ (.int .u8 (y.toNat : Int))) wr.heap.size 2 (.int .u8 (z.toNat : Int)) (.int .u8 0) (by rw [cell_set_ne _ _ _ _ _ _ (.inr (by decide)), cell_set_ne _ _ _ _ _ _ (.inr (by decide))]; assumption)
        have g0 := (cell_set_ne _ wr.heap.size 3 wr.heap.size 0 (.int .u8 (u.toNat : Int)) (.inr (by decide))).trans ((cell_set_ne _ wr.heap.size 2 wr.heap.size 0 (.int .u8 (z.toNat : Int)) (.inr (by decide))).trans ((cell_set_ne _ wr.heap.size 1 wr.heap.size 0 (.int .u8 (y.toNat : Int)) (.inr (by decide))).trans s0))
        have g1 := (cell_set_ne _ wr.heap.size 3 wr.heap.size 1 (.int .u8 (u.toNat : Int)) (.inr (by decide))).trans ((cell_set_ne _ wr.heap.size 2 wr.heap.size 1 (.int .u8 (z.toNat : Int)) (.inr (by decide))).trans s1)
        have g2 := (cell_set_ne _ wr.heap.size 3 wr.heap.size 2 (.int .u8 (u.toNat : Int)) (.inr (by decide))).trans s2
        clear s0 s1 s2
        generalize (((w2.setCell ⟨wr.heap.size, 0, none⟩ (.int .u8 (x.toNat : Int))).setCell ⟨wr.heap.size, 1, none⟩ (.int .u8 (y.toNat : Int))).setCell ⟨wr.heap.size, 2, none⟩ (.int .u8 (z.toNat : Int))).setCell ⟨wr.heap.size, 3, none⟩ (.int .u8 (u.toNat : Int)) = W3 at *
        obtain ⟨N, hN⟩ : ∃ N, N = wr.heap.size := ⟨_, rfl⟩
        rw [← hN] at g0 g1 g2 g3
        rw [← hN]
        have hNge : wr.heap.size ≤ N := by omega
        clear hN
        rotate_left
        all_goals (
          obtain ⟨f, hmap, hown, hap⟩ := hK.map
          obtain ⟨s, hkey⟩ := key_four x y z u
          have hrowE : ∃ ks : List Nat, wr.ownsRow base 3 1 ((f s).getD (.slice none 0 0)) ks.length (ks.map iv) ∧ ks.length ≤ kn ∧ ∀ k ∈ ks, k < kn := by
            cases hfs : f s with
            | none => exact ⟨[], ⟨rfl, .inl ⟨rfl, rfl⟩⟩, by simp, by simp⟩
            | some r => exact hown s r hfs
          obtain ⟨ks, hro, hks⟩ := hrowE
          have hkl := hks.1
          have hmbW3 : ∃ es c, W3.heap[mb]? = some (.map es c) := (hmap.fr hF3 (by simp)).row
          have hFmb := hK.ne_map
          try simp only [List.getElem?_toArray, List.getElem?_cons_zero, List.getElem?_cons_succ] at g0 g1 g2 g3
          have hNmb : N ≠ mb := by rintro rfl; exact cell_not_map g0 hmbW3
          have m1 := hF3.cell c1 (by simp)
          have m2 := hF3.cell c2 (by simp)
          have hrm : mb ∉ ((f s).getD (.slice none 0 0)).ownBlock.toList := fun hx => own_no_map hro (by simpa [eq_comm] using hx) hmap.row
          have hrF : F ∉ ((f s).getD (.slice none 0 0)).ownBlock.toList := own_ne hro hK.row (by decide)
          have hW : Fr [] W3 (W3.alloc (.cells #[.int .i64 (kn : Int)] 3)).drew := ((Fr.refl _ _).alloc _).drew
          obtain ⟨st, w1, hr, hE1, hE2, hE3⟩ := (hmap.fr (hF3.trans0 hW) (by simp)).entry k_four u_places z_ints hkey (by omega)
          generalize hrowD : (f s).getD (.slice none 0 0) = row at *
          obtain ⟨ra, rc, rfl, hr3, hr4⟩ := (Sl.of_own hro).shape
          have hrN : N ∉ (Value.slice ra ks.length rc).ownBlock.toList := fun hx => by have := (hro.lt N (by simpa [eq_comm] using hx)).2; omega
          have HS := Lib.hid (fun W' (hW : Fr (mb :: (Value.slice ra ks.length rc).ownBlock.toList) W3 W') => (⟨hW.cell m1 ((fun hx => (List.mem_cons.1 hx).elim hFmb hrF)), hW.cell m2 ((fun hx => (List.mem_cons.1 hx).elim hFmb hrF)), hW.cell g0 ((fun hx => (List.mem_cons.1 hx).elim hNmb hrN)), hW.cell g1 ((fun hx => (List.mem_cons.1 hx).elim hNmb hrN)), hW.cell g2 ((fun hx => (List.mem_cons.1 hx).elim hNmb hrN)), hW.cell g3 ((fun hx => (List.mem_cons.1 hx).elim hNmb hrN))⟩ : (W'.cell? ⟨F, 1, none⟩ = some (.map (some mb)) ∧ W'.cell? ⟨F, 2, none⟩ = some (.int .i64 kn) ∧ W'.cell? ⟨N, 0, none⟩ = some (.int .u8 x.toNat) ∧ W'.cell? ⟨N, 1, none⟩ = some (.int .u8 y.toNat) ∧ W'.cell? ⟨N, 2, none⟩ = some (.int .u8 z.toNat) ∧ W'.cell? ⟨N, 3, none⟩ = some (.int .u8 u.toNat))))
          simp only [fourV, bv] at hr
          have hN1 : Fr [mb] W3 w1 := (hW.weaken (by simp)).trans hE1 (by simp)
          have hFr1 : Fr [mb] wr w1 := (hF3.weaken (by simp)).trans hN1 (by simp)
          have hro1 : w1.ownsRow base 3 1 (.slice ra ks.length rc) ks.length (ks.map iv) := own_keep hro hFr1 (fun g hg hx => hrm (by simp at hx; simp [hg, hx]))
          have hlit : Sl w1 3 1 (.slice (some ⟨W3.heap.size, 0, none⟩) 1 1) 1 [iv kn] := (Sl.lit (w := W3) #[iv kn] 1 rfl (by decide)).fr hE1.of_drew ((hmap.fr (hF3.alloc _) (by simp)).off _)
          go_wp2_with fail
          go_region_held3 (fun W' => W'.cell? ⟨F, 1, none⟩ = some (.map (some mb)) ∧ W'.cell? ⟨F, 2, none⟩ = some (.int .i64 kn) ∧ W'.cell? ⟨N, 0, none⟩ = some (.int .u8 x.toNat) ∧ W'.cell? ⟨N, 1, none⟩ = some (.int .u8 y.toNat) ∧ W'.cell? ⟨N, 2, none⟩ = some (.int .u8 z.toNat) ∧ W'.cell? ⟨N, 3, none⟩ = some (.int .u8 u.toNat)) (first | go_keep | exact HS.out _ (hN1.weaken (by simp)) | exact HS2 | exact HS3)
            ((refine step_app base rfl _ _ 289 3 (.int .i64 0) 1 8 rfl u_ints i_int rfl (by decide) (.slice ra ks.length rc) _ _ rfl hro1 1 [iv kn] hlit (one_cell _ rfl) (by omega) (by omega) (by have := hK.hbase; have := hFr1.size; omega) ?_; intro v2 w2 ho2 hg2 hat2
              have hb2 : w2.heap[mb]? = w1.heap[mb]? := hg2.block mb (by obtain ⟨es, c, h⟩ := hE2; exact (Array.getElem?_eq_some_iff.1 h).1) (by simpa [eq_comm] using hrm)
              have hP := hE3 w2 v2 hb2
              obtain ⟨w3, hr3', hm3, hF4⟩ := hP
              have hPL := places_learn hmap hown hap hrowD.symm hks (hF3.trans0 hW) hE1 (Fr.refl [] w1) hg2 hat2 ho2 (by rw [hb2]; exact hE2) hF4 hm3
              have hFl : F < W3.heap.size := Nat.lt_of_lt_of_le hK.lt hF3.size
              have hQ2 : Fr (mb :: (Value.slice ra ks.length rc).ownBlock.toList) W3 w2 := (hN1.weaken (by simp)).grown hg2 (fun k hk => .inl (by simp [hk]))
              have HS2 := HS.out w2 hQ2
              have HS3 := HS.out w3 (hQ2.trans hF4 (by simp))))
          have hFn : F ∉ mb :: (Value.slice ra ks.length rc).ownBlock.toList := fun hx => (List.mem_cons.1 hx).elim hFmb hrF
          have f3 : w3.frozen? ⟨F, 2, none⟩ = false := (World.frozen?_of_block (w := wr) (hPL.2.blk F hK.lt hFn)).trans f2
          have m3 := HS3.2.1
          have e2 : IntKind.i64.wrap ((kn : Int) + 1) = (kn : Int) + 1 := by rw [IntKind.wrap_i64]; omega
          have hstep := Lib.hid (hK.step hPL.1 hPL.2 hro)
          have hkeep := Lib.hid (hK.keep hPL.2 hro)
          have hbel : Below base wr w3 := hPL.2.belowAt (fun k hk => by
            rcases List.mem_cons.1 hk with rfl | hk
            · exact hm
            · exact (hro.lt k (by simpa [eq_comm] using hk)).1) hK.hbase
          clear HS hr hr3' hm3 HS2 HS3 hPL hE3 hE1 hE2
          go_wp2_with fail
          refine ⟨⟨kn + 1, hlt, hstep.out, hbe.trans (hbel.trans (((Fr.refl [F] w3).setCell (.inl (by simp)) _).belowAt (by simpa using hF) (Nat.le_trans hK.hbase hbel.size))), hkb.trans hkeep.out⟩, ?_⟩
          rw [cell_set_same _ _ _ _ _ m3, c2]
          simp only []
          omega)
      · have i2 : (b.length : Int) < (kn : Int) + 4 := by omega
        have b2 : decide ((kn : Int) + 4 ≤ b.length) = false := by simp; omega
        go_wp2_with fail
        go_quiet (fail)
        go_wp2_with fail
        go_end0
        exact ⟨rfl, kn, hkn, hK.fr0 ((Fr.refl _ _).drewN _), hbe.trans (((Fr.refl [] wr).drewN _).belowAt (by simp) hK.hbase), hkb.trans (KeepB.of_fr0 ((Fr.refl [] wr).drewN _))⟩
    · have i1 : (i : Int) ≤ kn := by omega
      have b1 : decide ((kn : Int) < i) = false := by simp; omega
      go_wp2_with fail
      go_quiet (fail)
      go_wp2_with fail
      go_end0
      exact ⟨rfl, kn, hkn, hK.fr0 ((Fr.refl _ _).drewN _), hbe.trans (((Fr.refl [] wr).drewN _).belowAt (by simp) hK.hbase), hkb.trans (KeepB.of_fr0 ((Fr.refl [] wr).drewN _))⟩
end Go.Proofs.YtjelehcnpocnoaaGreatDoor
/- Layer 3, press: a run is laid. -/
namespace Go.Proofs.YtjelehcnpocnoaaGreatDoor
set_option linter.unusedSimpArgs false
set_option linter.unusedVariables false
set_option linter.unnecessarySimpa false
open Go.RowKit
set_option maxRecDepth 100000
set_option maxHeartbeats 4000000

def runEnc (r : Bs) : Bs := if r.length = 0 then [] else putNum (2 * (r.length - 1)) ++ r
theorem pressRun_calls (vo vb : Value) (out r : Bs) (w : World) (ho : Sl w 5 1 vo out.length (out.map bv)) (hr : Sl w 5 1 vb r.length (r.map bv)) (h1 : out.length ≤ 35184372080000) (h2 : r.length ≤ 35184372080000) :
    Calls Tryz.prog 159 #[vo, vb] w fun e w' => ∃ v', e = .returned v' ∧ Sl w' 5 1 v' (out ++ runEnc r).length ((out ++ runEnc r).map bv) ∧ Fr [] w w' := by
  obtain ⟨a1, c1, rfl, h3, h4⟩ := ho.shape
  obtain ⟨a2, c2, rfl, h5, h6⟩ := hr.shape
  by_cases h0 : r.length = 0
  · have HR : Hid (runEnc r = []) := by simp [Hid, runEnc, h0]
    have hb : ((r.length : Int) == 0) = true := by simp [h0]
    go_enter Tryz.func159, Tryz.ntmps159
    go_wp2_with fail
    go_ret
    exact ⟨_, rfl, by rw [HR.out]; simpa using ho, Fr.refl _ _⟩
  · have HR : Hid (runEnc r = putNum (2 * (r.length - 1)) ++ r) := by simp [Hid, runEnc, h0]
    have hb : ((r.length : Int) == 0) = false := by rw [beq_eq_false_iff_ne]; omega
    have e1 : IntKind.i64.wrap ((r.length : Int) - 1) = r.length - 1 := by rw [IntKind.wrap_i64]; omega
    have e2 : IntKind.i64.wrap (2 * ((r.length : Int) - 1)) = 2 * ((r.length : Int) - 1) := by rw [IntKind.wrap_i64]; omega
    have hp := PutNum_calls (.slice a1 out.length c1) out (2 * ((r.length : Int) - 1)) w ho (by omega) (by omega) (by omega)
    have ht : (2 * ((r.length : Int) - 1)).toNat = 2 * (r.length - 1) := by omega
    rw [ht] at hp
    have HP := Lib.hid hp
    have hpn : (putNum (2 * (r.length - 1))).length ≤ 9 := putNum_len9 (by unfold mostNum; omega)
    clear hp ht
    go_enter Tryz.func159, Tryz.ntmps159
    go_wp2_with fail
    refine HP.out.mono ?_
    rintro e w1 ⟨v1, rfl, ho1, hF1⟩
    have hl1 : (out ++ putNum (2 * (r.length - 1))).length ≤ 35184372080009 := by simp; omega
    go_wp2_with (at_builtin; refine wpl_app w.heap.size rfl _ _ 60 5 (.int .u8 0) 1 1 rfl u_bytes i_byte rfl (by decide) v1 _ _ rfl ho1 r.length (r.map bv) (hr.fr0 hF1) (bv_one r) (by omega) (by omega) hF1.size ?_)
    intro v2 w2 ho2 hg2 _
    go_wp2_with fail
    go_ret
    refine ⟨_, rfl, ?_, hF1.grown hg2 (fun k hk => .inr (own_block ho1 k hk))⟩
    rw [HR.out]
    have := Sl.of_own ho2
    simpa [Nat.add_assoc] using this
end Go.Proofs.YtjelehcnpocnoaaGreatDoor
/- Layer 3, press: the longest copy. -/
namespace Go.Proofs.YtjelehcnpocnoaaGreatDoor
set_option linter.unusedSimpArgs false
set_option linter.unusedVariables false
set_option linter.unnecessarySimpa false
open Go.RowKit
set_option maxRecDepth 100000
set_option maxHeartbeats 8000000

/-- A copy that may be told: so long, so far back. -/
def Copy (b : Bs) (i n d : Nat) : Prop := n ≤ 259 ∧ 1 ≤ d ∧ d ≤ 4096 ∧ d ≤ i ∧ i + n ≤ b.length ∧ Alike b (i - d) i n

theorem longest_calls (base F mb : Nat) (vb : Value) (b : Bs) (known i : Nat) (w : World) (h : FindAt base w F mb vb b known) (hki : known ≤ i) (hi : i ≤ b.length) (hb : b.length ≤ 17592186040000) (hF : base ≤ F) (hm : base ≤ mb) :
    Calls Tryz.prog 158 #[.pointer (some ⟨F, 0, none⟩), .int .i64 i] w fun e w' => (∃ n d : Nat, e = .returned (.tuple #[.int .i64 n, .int .i64 d]) ∧ (n = 0 ∨ Copy b i n d)) ∧ ∃ known', known' ≤ i ∧ FindAt base w' F mb vb b known' ∧ Below base w w' ∧ KeepB w w' := by
  have c0 := h.c0
  obtain ⟨a, c, rfl, h3, h4⟩ := h.sb.shape
  have e1 : IntKind.i64.wrap ((i : Int) + 4) = (i : Int) + 4 := by rw [IntKind.wrap_i64]; omega
  have HK := Lib.hid (know_calls base F mb _ b known i w h hki hi hb hF hm)
  by_cases h4b : i + 4 ≤ b.length
  · have b1 : decide ((b.length : Int) < (i : Int) + 4) = false := by simp; omega
    have i1 : (i : Int) + 4 ≤ b.length := by omega
    go_enter Tryz.func158, Tryz.ntmps158
    go_wp2_with fail
    refine HK.out.mono ?_
    rintro e w1 ⟨rfl, kn, hkn, hK, hbe, hkb⟩
    clear HK c0
    have k0 := hK.c0
    have k1 := hK.c1
    obtain ⟨f, hmap, hown, hap⟩ := hK.map
    have HA := Lib.hid (fun W (hW : Fr [] w1 W) => at_calls (.slice a b.length c) b i W (hK.sb.fr0 hW) h4b (by omega))
    have HE := Lib.hid hown
    clear hown hap
    go_wp2_with fail
    go_region_held3 (fun w' => w'.cell? ⟨F, 0, none⟩ = some (.slice a b.length c) ∧ w'.cell? ⟨F, 1, none⟩ = some (.map (some mb))) (first | go_keep | exact ⟨hF2.cell k0 (by simp), hF2.cell k1 (by simp)⟩)
      ((go_at_call 223; refine (HA.out _ (by exact ((Fr.refl _ _).drew))).mono ?_; rintro e w2 ⟨⟨x, y, z, u, rfl⟩, hF2⟩; obtain ⟨s, hkey⟩ := key_four x y z u; have hlk := (hmap.fr hF2.of_drew (by simp)).getK (Maps.Keyed.of_law k_four) u_places z_ints hkey; simp only [fourV, bv] at hlk ⊢))
    have hrowE : ∃ ks : List Nat, w1.ownsRow base 3 1 ((f s).getD (.slice none 0 0)) ks.length (ks.map iv) ∧ ks.length ≤ kn ∧ ∀ k ∈ ks, k < kn := by
      cases hfs : f s with
      | none => exact ⟨[], ⟨rfl, .inl ⟨rfl, rfl⟩⟩, by simp, by simp⟩
      | some r => exact HE.out s r hfs
    clear HE
    generalize (f s).getD (.slice none 0 0) = row at *
    obtain ⟨ks, hro, hk1, hk2⟩ := hrowE
    obtain ⟨ra, rc, rfl, hr3, hr4, hc⟩ := (Sl.of_own hro).open1
    have hF2' : Fr [] w1 w2 := hF2.of_drew
    have e2 : IntKind.i64.wrap ((ks.length : Int) - 1) = (ks.length : Int) - 1 := by rw [IntKind.wrap_i64]; omega
    clear hlk hkey hF2 k0 k1
    go_wp2_with fail
    go_loopw [6, 7, 9] (fun u6 u7 u9 wr => ∃ (n d : Nat) (j : Int), u6 = .int .i64 n ∧ u7 = .int .i64 d ∧ u9 = .int .i64 j ∧ -1 ≤ j ∧ j < ks.length ∧ Hid (n = 0 ∨ Copy b i n d) ∧ n ≤ 259 ∧ Fr [] w1 wr) (fun u6 u7 u9 _ => (intOf u9 + 1).toNat)
    case atStart => exact ⟨0, 0, _, rfl, rfl, rfl, by omega, by omega, .inl rfl, by omega, hF2'⟩
    case round =>
      obtain ⟨n, d, j, rfl, rfl, rfl, hj1, hj2, hcp, hn, hFr⟩ := hrel
      have fin : ∀ W, Fr [] w1 W → ∃ known', known' ≤ i ∧ FindAt base W F mb (.slice a b.length c) b known' ∧ Below base w W ∧ KeepB w W := fun W hW => ⟨kn, hkn, hK.fr0 hW, hbe.trans (hW.belowAt (by simp) hK.hbase), hkb.trans (KeepB.of_fr0 hW)⟩
      have FIN := Lib.hid fin
      clear fin
      by_cases hj : 0 ≤ j
      · obtain ⟨jn, rfl⟩ : ∃ jn : Nat, j = jn := ⟨j.toNat, by omega⟩
        obtain ⟨g, o, rfl, hcell⟩ := hc (by omega)
        have x1 := hcell jn (by omega)
        have hjl : jn < ks.length := by omega
        rw [List.getElem?_map, List.getElem?_eq_getElem hjl] at x1
        have hkv := hk2 _ (List.getElem_mem hjl)
        generalize ks[jn] = kv at x1 hkv
        simp only [Option.map_some, iv] at x1
        have x1' := hFr.cell x1 (by simp)
        have b2 : decide ((0 : Int) ≤ jn) = true := by simp
        have e3 : IntKind.i64.wrap ((i : Int) - kv) = (i : Int) - kv := by rw [IntKind.wrap_i64]; omega
        have e4 : IntKind.i64.wrap ((jn : Int) - 1) = (jn : Int) - 1 := by rw [IntKind.wrap_i64]; omega
        have i2 : (jn : Int) < ks.length := by omega
        clear hc hcell x1
        by_cases hwin : i ≤ kv + 4096
        · have i3 : (i : Int) - kv ≤ 4096 := by omega
          have b3 : decide ((i : Int) - kv ≤ 4096) = true := by simp; omega
          by_cases hmost : n < 259
          · have i4 : (n : Int) < 259 := by omega
            have b4 : decide ((n : Int) < 259) = true := by simp; omega
            have HAl := Lib.hid (fun W (hW : Fr [] w1 W) => alike_calls F (.slice a b.length c) b kv i W (hW.cell hK.c0 (by simp)) (hK.sb.fr0 hW) (by omega) hi (by omega))
            go_wp2_with fail
            refine (HAl.out _ hFr).mono ?_
            rintro e w3 ⟨⟨m, rfl, hm1, hm2, hm3⟩, hF3⟩
            have x3 := hF3.cell x1' (by simp)
            have HM := Lib.hid hm3
            clear hm3 HAl
            by_cases hmn : n < m
            · have i5 : (n : Int) < m := by omega
              have b5 : decide ((n : Int) < m) = true := by simp; omega
              go_wp2_with fail
              go_quiet (fail)
              go_wp2_with fail
              have hd : (i : Int) - kv = ((i - kv : Nat) : Int) := by omega
              refine ⟨⟨m, i - kv, (jn : Int) - 1, rfl, by rw [hd], rfl, by omega, by omega, .inr ⟨hm1, by omega, by omega, by omega, hm2, ?_⟩, hm1, (hFr.trans0 hF3).drewN _⟩, by simp [intOf]⟩
              rw [show i - (i - kv) = kv by omega]
              exact HM.out
            · have i5 : (m : Int) ≤ n := by omega
              have b5 : decide ((n : Int) < m) = false := by simp; omega
              go_wp2_with fail
              exact ⟨⟨n, d, (jn : Int) - 1, rfl, rfl, rfl, by omega, by omega, hcp, by omega, hFr.trans0 hF3⟩, by simp [intOf]⟩
          · have i4 : (259 : Int) ≤ n := by omega
            have b4 : decide ((n : Int) < 259) = false := by simp; omega
            go_wp2_with fail
            refine bodyPost_ret (v := .tuple #[.int .i64 n, .int .i64 d]) (by simp [results, Tryz.results158, go_sem]) rfl ⟨⟨n, d, rfl, hcp.out⟩, FIN.out _ hFr⟩
        · have i3 : (4096 : Int) < (i : Int) - kv := by omega
          have b3 : decide ((i : Int) - kv ≤ 4096) = false := by simp; omega
          go_wp2_with fail
          refine bodyPost_ret (v := .tuple #[.int .i64 n, .int .i64 d]) (by simp [results, Tryz.results158, go_sem]) rfl ⟨⟨n, d, rfl, hcp.out⟩, FIN.out _ hFr⟩
      · have i2 : j < 0 := by omega
        have b2 : decide ((0 : Int) ≤ j) = false := by simp; omega
        clear hc
        go_wp2_with fail
        refine bodyPost_ret (v := .tuple #[.int .i64 n, .int .i64 d]) (by simp [results, Tryz.results158, go_sem]) rfl ⟨⟨n, d, rfl, hcp.out⟩, FIN.out _ hFr⟩
  · have b1 : decide ((b.length : Int) < (i : Int) + 4) = true := by simp; omega
    have i1 : (b.length : Int) < (i : Int) + 4 := by omega
    go_enter Tryz.func158, Tryz.ntmps158
    go_wp2_with fail
    refine bodyPost_ret (v := .tuple #[.int .i64 (0 : Nat), .int .i64 (0 : Nat)]) (by simp [results, Tryz.results158, go_sem]) rfl ⟨⟨0, 0, rfl, .inl rfl⟩, known, hki, h, Below.refl _ _, fun _ _ => rfl⟩
end Go.Proofs.YtjelehcnpocnoaaGreatDoor
/- Layer 3, press: the plain laws of pressing. -/
namespace Go.Proofs.YtjelehcnpocnoaaGreatDoor
set_option linter.unusedSimpArgs false
set_option linter.unusedVariables false
set_option linter.unnecessarySimpa false

theorem appAll_app : ∀ (l k : List Tok) (out : Bs), appAll (l ++ k) out = appAll k (appAll l out)
  | [], _, _ => rfl
  | t :: l, k, out => by rw [List.cons_append, appAll, appAll_app l k, appAll]
theorem okAll_app : ∀ (l k : List Tok) (out : Bs), okAll l out → okAll k (appAll l out) → okAll (l ++ k) out
  | [], _, _, _, h => h
  | t :: l, k, out, h1, h2 => ⟨h1.1, okAll_app l k _ h1.2 h2⟩
theorem encAll_app (l k : List Tok) : encAll (l ++ k) = encAll l ++ encAll k := by simp [encAll]
/-- A copy from bytes that are alike. -/
theorem copyN_alike : ∀ (n d i : Nat) (b : Bs), 1 ≤ d → d ≤ i → i + n ≤ b.length → Alike b (i - d) i n → copyN n d (b.take i) = b.take (i + n)
  | 0, d, i, b, _, _, _, _ => rfl
  | n + 1, d, i, b, h1, h2, h3, h4 => by
    have hl : (b.take i).length = i := by simp; omega
    have h0 := h4 0 (by omega)
    simp only [Nat.add_zero] at h0
    have hi : i < b.length := by omega
    have hg : (b.take i).getD ((b.take i).length - d) 0 = b[i] := by
      rw [hl, List.getD_eq_getElem?_getD, List.getElem?_take]
      rw [if_pos (by omega), h0, List.getElem?_eq_getElem hi]
      rfl
    rw [copyN, hg]
    have ht : b.take i ++ [b[i]] = b.take (i + 1) := by rw [List.take_add_one, List.getElem?_eq_getElem hi]; rfl
    rw [ht]
    have := copyN_alike n d (i + 1) b h1 (by omega) (by omega) (fun j hj => by
      have := h4 (j + 1) (by omega)
      rw [show i + 1 - d + j = i - d + (j + 1) by omega, show i + 1 + j = i + (j + 1) by omega]
      exact this)
    rw [this]
    congr 1
    omega
/-- A run's pieces. -/
def runToks (r : Bs) : List Tok := if r.length = 0 then [] else [.run r]
theorem enc_runToks (r : Bs) : encAll (runToks r) = runEnc r := by
  unfold runToks runEnc
  split <;> simp [encAll, Tok.enc]
theorem app_runToks (r out : Bs) : appAll (runToks r) out = out ++ r := by
  unfold runToks
  split
  · rename_i h
    rw [List.eq_nil_of_length_eq_zero h]; simp [appAll]
  · rfl
theorem ok_runToks (r out : Bs) : okAll (runToks r) out := by
  unfold runToks
  split
  · trivial
  · rename_i h
    exact ⟨by show 1 ≤ r.length; omega, trivial⟩
theorem runEnc_len (r : Bs) (h : r.length ≤ 1000000000) : (runEnc r).length ≤ r.length + 9 := by
  unfold runEnc
  split
  · simp
  · have := putNum_len9 (n := 2 * (r.length - 1)) (by unfold mostNum; omega)
    simp; omega
/-- What was laid so far of bytes of which the first ones are told. -/
def Laid (b : Bs) (frm : Nat) (out : Bs) : Prop := ∃ l, out = putNum b.length ++ encAll l ∧ okAll l [] ∧ appAll l [] = b.take frm ∧ out.length ≤ 9 + 27 * frm
theorem Laid.start (b : Bs) (h : b.length ≤ 1000000000) : Laid b 0 (putNum b.length) := ⟨[], by simp [encAll], trivial, rfl, by simpa using putNum_len9 (n := b.length) (by unfold mostNum; omega)⟩
theorem take_run (b : Bs) (frm i : Nat) (h1 : frm ≤ i) : b.take frm ++ (b.drop frm).take (i - frm) = b.take i := by
  obtain ⟨k, rfl⟩ := Nat.exists_eq_add_of_le h1
  rw [Nat.add_sub_cancel_left, List.take_add]
theorem Laid.copy {b : Bs} {frm i n d : Nat} {out : Bs} (h : Laid b frm out) (h1 : frm ≤ i) (hn : 4 ≤ n) (hc : Copy b i n d) (hb : b.length ≤ 1000000000) :
    Laid b (i + n) (out ++ runEnc ((b.drop frm).take (i - frm)) ++ putNum (2 * (n - 4) + 1) ++ putNum d) := by
  obtain ⟨l, rfl, h2, h3, h4⟩ := h
  obtain ⟨c1, c2, c3, c4, c5, c6⟩ := hc
  have hti : b.take frm ++ (b.drop frm).take (i - frm) = b.take i := take_run b frm i h1
  refine ⟨l ++ runToks ((b.drop frm).take (i - frm)) ++ [.copy n d], ?_, ?_, ?_, ?_⟩
  · rw [encAll_app, encAll_app, enc_runToks]; simp [encAll, Tok.enc]
  · refine okAll_app _ _ _ (okAll_app _ _ _ h2 (ok_runToks _ _)) ?_
    rw [appAll_app, app_runToks, h3, hti]
    exact ⟨⟨hn, c1, c2, by simp; omega, c3⟩, trivial⟩
  · rw [appAll_app, appAll_app, app_runToks, h3, hti]
    exact copyN_alike n d i b c2 c4 c5 c6
  · have e1 := runEnc_len ((b.drop frm).take (i - frm)) (by simp; omega)
    have e2 := putNum_len9 (n := 2 * (n - 4) + 1) (by unfold mostNum; omega)
    have e3 := putNum_len9 (n := d) (by unfold mostNum; omega)
    simp only [List.length_append, List.length_take, List.length_drop] at *
    omega
theorem Laid.last {b : Bs} {frm : Nat} {out : Bs} (h : Laid b frm out) (h1 : frm ≤ b.length) (hb : b.length ≤ 1000000000) : Pressed (out ++ runEnc (b.drop frm)) b ∧ (out ++ runEnc (b.drop frm)).length ≤ 18 + 28 * b.length := by
  obtain ⟨l, rfl, h2, h3, h4⟩ := h
  refine ⟨⟨l ++ runToks (b.drop frm), ?_, okAll_app _ _ _ h2 (ok_runToks _ _), ?_⟩, ?_⟩
  · rw [encAll_app, enc_runToks]; simp
  · rw [appAll_app, app_runToks, h3, List.take_append_drop]
  · have e1 := runEnc_len (b.drop frm) (by simp; omega)
    simp only [List.length_append, List.length_drop] at *
    omega
end Go.Proofs.YtjelehcnpocnoaaGreatDoor
/- Layer 3, press: Press. -/
namespace Go.Proofs.YtjelehcnpocnoaaGreatDoor
set_option linter.unusedSimpArgs false
set_option linter.unusedVariables false
set_option linter.unnecessarySimpa false
open Go.RowKit
set_option maxRecDepth 100000
set_option maxHeartbeats 8000000

theorem Press_calls (vb : Value) (b : Bs) (w : World) (h : Sl w 5 1 vb b.length (b.map bv)) (hb : b.length ≤ 1000000000) :
    Calls Tryz.prog 93 #[vb] w fun e w' => ∃ v' p, e = .returned v' ∧ Sl w' 5 1 v' p.length (p.map bv) ∧ Pressed p b ∧ p.length ≤ 18 + 28 * b.length ∧ Fr [] w w' := by
  obtain ⟨a, c, rfl, h3, h4⟩ := h.shape
  have HP := Lib.hid (fun W => PutNum_calls (.slice none 0 0) [] (b.length : Int) W (Sl.nil _ _ _) (by simp) (by omega) (by omega))
  have hmm := @run_makeMap Tryz.prog
  go_enter Tryz.func93, Tryz.ntmps93
  go_wp2_with fail
  refine (HP.out _).mono ?_
  rintro e w1 ⟨v1, rfl, ho1, hF1⟩
  simp only [List.nil_append, Int.toNat_natCast] at ho1
  have hs1 : (w.alloc (.map #[] 0)).heap.size = w.heap.size + 1 := by simp
  have hFA : Fr [] w ((w.alloc (.map #[] 0)).alloc (.cells #[.slice a b.length c, .map (some w.heap.size), .int .i64 0] 248)) := ((Fr.refl _ _).alloc _).alloc _
  have hK0 : FindAt w.heap.size ((w.alloc (.map #[] 0)).alloc (.cells #[.slice a b.length c, .map (some w.heap.size), .int .i64 0] 248)) (w.heap.size + 1) w.heap.size (.slice a b.length c) b 0 := by
    have q0 := World.cell?_alloc_new (w.alloc (.map #[] 0)) #[.slice a b.length c, .map (some w.heap.size), .int .i64 0] 248
    have q1 := frozen_new (w.alloc (.map #[] 0)) #[.slice a b.length c, .map (some w.heap.size), .int .i64 0] 248
    rw [hs1] at q0 q1
    refine ⟨q0 0, q0 1, q0 2, q1, ⟨#[.slice a b.length c, .map (some w.heap.size), .int .i64 0], ?_⟩, h.fr0 hFA, hFA.size, fun _ => none, (MapAt.made _ _ w).fr ((Fr.refl [] _).alloc _) (by simp), (fun s v hv => by cases hv), (fun s t v u g hv => by cases hv)⟩
    rw [← hs1]; exact heap_alloc_new _ _
  have hK1 := hK0.fr0 hF1
  have hbe1 : Below w.heap.size w w1 := (hFA.trans0 hF1).below
  have hL1 := Lib.hid (Laid.start b hb)
  have hv1 := Sl.of_own ho1
  clear hK0 hFA hF1 HP ho1
  generalize putNum b.length = out1 at *
  go_wp2_with fail
  go_loopw [4, 5, 6] (fun u4 u5 u6 wr => ∃ (out : Bs) (frm i kn : Nat), u5 = .int .i64 frm ∧ u6 = .int .i64 i ∧ frm ≤ i ∧ i ≤ b.length ∧ kn ≤ i ∧ FindAt w.heap.size wr (w.heap.size + 1) w.heap.size (.slice a b.length c) b kn ∧ Below w.heap.size w wr ∧ Sl wr 5 1 u4 out.length (out.map bv) ∧ Hid (Laid b frm out)) (fun u4 u5 u6 _ => b.length - (intOf u6).toNat)
  case atStart => exact ⟨out1, 0, 0, 0, rfl, rfl, by omega, by omega, by omega, hK1, hbe1, hv1, hL1⟩
  case round =>
    obtain ⟨out, frm, i, kn, rfl, rfl, hfi, hi, hkn, hK, hbe, ho, hL⟩ := hrel
    rename_i u4 _ _
    have hlo : out.length ≤ 9 + 27 * frm := by obtain ⟨_, _, _, _, h⟩ := hL.out; exact h
    clear hK1 hbe1 hL1 hv1
    by_cases hlt : i < b.length
    · have b1 : decide ((i : Int) < b.length) = true := by simp; omega
      have i1 : (i : Int) < b.length := by omega
      have HLo := Lib.hid (longest_calls w.heap.size (w.heap.size + 1) w.heap.size _ b kn i wr hK hkn hi (by omega) (by omega) (by omega))
      go_wp2_with fail
      refine HLo.out.mono ?_
      rintro e w2 ⟨⟨n, d, rfl, hc⟩, kn2, hkn2, hK2, hbe2, hkb2⟩
      have ho2 := ho.keepB hkb2
      have HC := Lib.hid hc
      clear hc HLo ho
      by_cases hn : n < 4
      · have b2 : decide ((n : Int) < 4) = true := by simp; omega
        have i2 : (n : Int) < 4 := by omega
        have e1 : IntKind.i64.wrap ((i : Int) + 1) = (i : Int) + 1 := by rw [IntKind.wrap_i64]; omega
        go_wp2_with fail
        exact ⟨⟨out, frm, i + 1, kn2, rfl, by simp, by omega, by omega, by omega, hK2, hbe.trans hbe2, ho2, hL⟩, by simp [intOf]; omega⟩
      · have hcp : Copy b i n d := HC.out.resolve_left (by omega)
        have HC2 := Lib.hid hcp
        obtain ⟨c1, c2, c3, c4, c5, _⟩ := hcp
        have b2 : decide ((n : Int) < 4) = false := by simp; omega
        have i2 : (4 : Int) ≤ n := by omega
        have e1 : IntKind.i64.wrap ((n : Int) - 4) = (n : Int) - 4 := by rw [IntKind.wrap_i64]; omega
        have e2 : IntKind.i64.wrap (2 * ((n : Int) - 4)) = 2 * ((n : Int) - 4) := by rw [IntKind.wrap_i64]; omega
        have e3 : IntKind.i64.wrap (2 * ((n : Int) - 4) + 1) = 2 * ((n : Int) - 4) + 1 := by rw [IntKind.wrap_i64]; omega
        have e4 : IntKind.i64.wrap ((i : Int) + n) = (i : Int) + n := by rw [IntKind.wrap_i64]; omega
        obtain ⟨vr, hvr, hcut⟩ := cut_both (P := Tryz.prog) u_bytes i_byte (by decide) hK2.sb frm i hfi hi _ _ rfl rfl
        simp only [Nat.mul_one] at hvr
        rw [← List.map_drop, ← List.map_take] at hvr
        obtain ⟨r, hr⟩ : ∃ r, r = (b.drop frm).take (i - frm) := ⟨_, rfl⟩
        rw [← hr] at hvr
        have hrl : r.length = i - frm := by rw [hr]; simp; omega
        rw [← hrl] at hvr
        have hrH := Lib.hid hr
        have HR := Lib.hid (pressRun_calls u4 vr out r w2 ho2 hvr (by omega) (by omega))
        have hre : (out ++ runEnc r).length ≤ 36 * b.length + 18 := by have := runEnc_len r (by omega); simp; omega
        generalize hout3 : out ++ runEnc r = out3 at *
        have HP3 := Lib.hid (fun (v : Value) (W : World) (hv : Sl W 5 1 v out3.length (out3.map bv)) => PutNum_calls v out3 (2 * ((n : Int) - 4) + 1) W hv (by omega) (by omega) (by omega))
        have ht : (2 * ((n : Int) - 4) + 1).toNat = 2 * (n - 4) + 1 := by omega
        rw [ht] at HP3
        have hre4 : (out3 ++ putNum (2 * (n - 4) + 1)).length ≤ 36 * b.length + 27 := by have := putNum_len9 (n := 2 * (n - 4) + 1) (by unfold mostNum; omega); simp; omega
        generalize hout4 : out3 ++ putNum (2 * (n - 4) + 1) = out4 at *
        have HP4 := Lib.hid (fun (v : Value) (W : World) (hv : Sl W 5 1 v out4.length (out4.map bv)) => PutNum_calls v out4 (d : Int) W hv (by omega) (by omega) (by omega))
        rw [Int.toNat_natCast] at HP4
        have hLL := Lib.hid (hL.out.copy hfi (by omega) HC2.out hb)
        rw [← hr, hout3, hout4] at hLL
        clear ht HC HC2 hr hout3 hout4
        generalize out4 ++ putNum d = out5 at *
        go_wp2_with fail
        refine HR.out.mono ?_
        rintro e w3 ⟨v3, rfl, ho3, hF3⟩
        clear HR
        go_wp2_with fail
        refine (HP3.out _ _ ho3).mono ?_
        rintro e w4 ⟨v4, rfl, ho4, hF4⟩
        clear HP3
        go_wp2_with fail
        refine (HP4.out _ _ (Sl.of_own ho4)).mono ?_
        rintro e w5 ⟨v5, rfl, ho5, hF5⟩
        clear HP4
        have hFF : Fr [] w2 w5 := (hF3.trans0 hF4).trans0 hF5
        go_wp2_with fail
        exact ⟨⟨out5, i + n, i + n, kn2, by simp, by simp, by omega, by omega, by omega, hK2.fr0 hFF, (hbe.trans hbe2).trans (hFF.belowAt (by simp) hK2.hbase), Sl.of_own ho5, hLL⟩, by simp [intOf]; omega⟩
    · have b1 : decide ((i : Int) < b.length) = false := by simp; omega
      have i1 : (b.length : Int) ≤ i := by omega
      obtain ⟨vr, hvr, hcut⟩ := cut_from (P := Tryz.prog) u_bytes i_byte (by decide) hK.sb frm (by omega) _ rfl
      simp only [Nat.mul_one] at hvr
      rw [← List.map_drop] at hvr
      have hLL := Lib.hid (hL.out.last (by omega) hb)
      obtain ⟨r, hr⟩ : ∃ r, r = b.drop frm := ⟨_, rfl⟩
      rw [← hr] at hvr hLL
      have hrl : r.length = b.length - frm := by rw [hr]; simp
      rw [← hrl] at hvr
      have HR := Lib.hid (pressRun_calls u4 vr out r wr ho hvr (by omega) (by omega))
      clear hr
      generalize out ++ runEnc r = out3 at *
      go_wp2_with fail
      refine HR.out.mono ?_
      rintro e w3 ⟨v3, rfl, ho3, hF3⟩
      clear HR
      go_wp2_with fail
      go_ret
      exact ⟨v3, out3, rfl, ho3, hLL.out.1, hLL.out.2, Fr.of_below (hbe.trans (hF3.belowAt (by simp) hK.hbase))⟩
end Go.Proofs.YtjelehcnpocnoaaGreatDoor
