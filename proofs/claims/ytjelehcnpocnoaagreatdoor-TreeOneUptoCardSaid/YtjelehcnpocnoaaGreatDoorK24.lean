/- Joined: SortL. -/
import Derived.Test.YtjelehcnpocnoaaGreatDoorK16
import Derived.Test.YtjelehcnpocnoaaGreatDoorK23
import Derived.Sort.OwnSorted
/- slices.SortFunc at entries and at files, sorted by their names and by their paths. -/
namespace Go.Proofs.YtjelehcnpocnoaaGreatDoor
set_option linter.unusedSimpArgs false
set_option linter.unusedVariables false
set_option linter.unnecessarySimpa false
open Go.RowKit Go.Sort Go.Shelf
set_option maxRecDepth 100000
set_option maxHeartbeats 4000000

theorem flat_get {α : Type} [Inhabited α] {enc : α → List Value} {k : Nat} (hk : ∀ x, (enc x).length = k) : ∀ (d : List α) (t : Nat), t < d.length * k → (d.flatMap enc)[t]? = some ((enc (d[t / k]!))[t % k]!)
  | [], t, h => by simp at h
  | x :: d, t, h => by
    have k0 : 0 < k := by
      rcases Nat.eq_zero_or_pos k with e | e
      · subst e; simp at h
      · exact e
    rw [List.flatMap_cons]
    by_cases ht : t < k
    · rw [List.getElem?_append_left (by rw [hk]; exact ht), Nat.div_eq_of_lt ht, Nat.mod_eq_of_lt ht]
      have : t < (enc x).length := by rw [hk]; exact ht
      simp [this]
    · have h2 : t - k < d.length * k := by rw [List.length_cons, Nat.succ_mul] at h; omega
      rw [List.getElem?_append_right (by rw [hk]; omega), hk, flat_get hk d (t - k) h2]
      obtain ⟨u, rfl⟩ : ∃ u, t = u + k := ⟨t - k, by omega⟩
      rw [Nat.add_sub_cancel, Nat.add_div_right _ k0, Nat.add_mod_right]
      simp
theorem flat_len {α : Type} {enc : α → List Value} {k : Nat} (hk : ∀ x, (enc x).length = k) (d : List α) : (d.flatMap enc).length = d.length * k := by
  induction d with
  | nil => simp
  | cons x d ih => rw [List.flatMap_cons, List.length_append, ih, hk, List.length_cons, Nat.succ_mul]; omega
theorem sortRow {α : Type} [Inhabited α] {enc : α → List Value} {k : Nat} (hk : ∀ x, (enc x).length = k) {w : World} {base : Nat} {e : TypeId} {v : Value} (d : List α) (h : w.ownsRow base e k v d.length (d.flatMap enc)) (hd : d ≠ []) :
    ∃ g cap, v = .slice (some ⟨g, 0, none⟩) d.length cap ∧ base ≤ g ∧ g < w.heap.size ∧ HoldsK enc k w g 0 d.toArray ∧
      ∀ (d' : Array α) (n : Nat) (os : Array Obj), d'.size = d.length → (sortWorldK enc k w g 0 n d' os).ownsRow base e k v d'.toList.length (d'.toList.flatMap enc) ∧ Fr [g] w (sortWorldK enc k w g 0 n d' os) := by
  obtain ⟨h1, ⟨rfl, h0⟩ | ⟨g, cap, cur, rfl, hb, hg, hn, hc, hs, ht⟩⟩ := h
  · exact absurd (List.length_eq_zero_iff.1 h0) hd
  · have hlt : g < w.heap.size := (Array.getElem?_eq_some_iff.1 hg).1
    refine ⟨g, cap, rfl, hb, hlt, ?_, fun d' n os hd' => ⟨⟨?_, .inr ⟨g, cap, putCells id 0 (flatK enc k d') cur, by simp [hd'], hb, ?_, by simpa [hd'] using hn, hc, by simp [putCells, hs], ?_⟩⟩, ?_⟩⟩
    · intro j hj
      have hj' : j < d.length * k := by simpa using hj
      refine ⟨?_, by simp [World.frozen?, hg]⟩
      have h2 : (cur.toList.take (d.length * k))[j]? = (d.flatMap enc)[j]? := by rw [ht]
      rw [List.getElem?_take_of_lt hj', flat_get hk d j hj'] at h2
      simp only [World.cell?, hg, Nat.zero_add, Option.isSome_none, Bool.false_eq_true, if_false, id]
      rw [← Array.getElem?_toList, h2, get_flatK _ _ _ _ (by simpa using hj')]
      simp
    · rw [flat_len hk]
    · unfold sortWorldK
      rw [heap_grow_old _ _ (by simpa [putRowK, putRow, mapBlock] using hlt)]
      simp [putRowK, putRow, mapBlock, Sort.ahead, Array.getElem?_modify, hg, onCells]
    · apply List.ext_getElem?
      intro t
      have hcur : d.length * k ≤ cur.size := by rw [hs]; exact Nat.mul_le_mul_right _ hn
      by_cases htt : t < d'.toList.length * k
      · rw [List.getElem?_take_of_lt htt, flat_get hk _ _ htt, Array.getElem?_toList]
        have h3 : t < d'.size * k := by simpa using htt
        have h4 : t < cur.size := by rw [hd'] at h3; omega
        simp only [putCells, Array.getElem?_mapIdx, Array.getElem?_eq_getElem h4, Option.map_some]
        rw [if_pos ⟨by omega, by simpa using h3⟩]
        simp only [Nat.sub_zero, id]
        rw [get_flatK _ _ _ _ h3]
        have k0 : 0 < k := by
          rcases Nat.eq_zero_or_pos k with e | e
          · subst e; simp at h3
          · exact e
        have h5 : t / k < d'.size := (Nat.div_lt_iff_lt_mul k0).2 h3
        rw [getElem!_pos d' (t / k) h5, getElem!_pos d'.toList (t / k) (by simpa using h5)]
        simp
      · rw [List.getElem?_eq_none (by rw [List.length_take]; omega), List.getElem?_eq_none (by rw [flat_len hk]; omega)]
    · refine ⟨rfl, rfl, rfl, by simp [sortWorldK, putRowK, putRow, mapBlock, grow, Sort.ahead], fun i hi hne => ?_⟩
      have hne' : g ≠ i := fun e => hne (by simp [e])
      unfold sortWorldK
      rw [heap_grow_old _ _ (by simpa [putRowK, putRow, mapBlock] using hi)]
      simp [putRowK, putRow, mapBlock, Sort.ahead, Array.getElem?_modify, hne']
/-- cmp.Compare at strings. -/
def cmpS (x y : Bs) : Int := if x < y then -1 else if y < x then 1 else 0
theorem isNaN_calls (x : Bs) (w : World) : Calls Tryz.prog 53 #[.string (mk x)] w fun e w' => e = .returned (.bool false) ∧ w' = w := by
  go_enter Tryz.func53, Tryz.ntmps53
  go_wp2_with fail
  go_ret
  exact ⟨rfl, rfl⟩
theorem Compare_calls (x y : Bs) (w : World) : Calls Tryz.prog 29 #[.string (mk x), .string (mk y)] w fun e w' => e = .returned (.int .i64 (cmpS x y)) ∧ w' = w := by
  have hx := fun W => isNaN_calls x W
  have hy := fun W => isNaN_calls y W
  have q1 := mk_toList x
  have q2 := mk_toList y
  have b1 := bytesLess_lt x y
  have b2 := bytesLess_lt y x
  by_cases h1 : x < y
  · rw [decide_eq_true h1] at b1
    have e : cmpS x y = -1 := by simp [cmpS, h1]
    rw [e]
    clear b2 e h1
    go_enter Tryz.func29, Tryz.ntmps29
    go_wp2_with fail
    refine (hx _).mono ?_
    rintro e w1 ⟨rfl, rfl⟩
    go_wp2_with fail
    refine (hy _).mono ?_
    rintro e w2 ⟨rfl, rfl⟩
    go_wp2_with fail
    go_ret
    exact ⟨rfl, rfl⟩
  · rw [decide_eq_false h1] at b1
    by_cases h2 : y < x
    · rw [decide_eq_true h2] at b2
      have e : cmpS x y = 1 := by simp [cmpS, h1, h2]
      have hne : (x == y) = false := by
        rw [beq_eq_false_iff_ne]; rintro rfl; exact absurd h2 (List.lt_irrefl _)
      rw [e]
      clear e h1 h2
      go_enter Tryz.func29, Tryz.ntmps29
      go_wp2_with fail
      refine (hx _).mono ?_
      rintro e w1 ⟨rfl, rfl⟩
      go_wp2_with fail
      refine (hy _).mono ?_
      rintro e w2 ⟨rfl, rfl⟩
      go_wp2_with fail
      go_ret
      exact ⟨rfl, rfl⟩
    · rw [decide_eq_false h2] at b2
      have e : cmpS x y = 0 := by simp [cmpS, h1, h2]
      have hne : (x == y) = true := by
        rw [beq_iff_eq]; exact List.le_antisymm (List.not_lt.1 h2) (List.not_lt.1 h1)
      rw [e]
      clear e h1 h2
      go_enter Tryz.func29, Tryz.ntmps29
      go_wp2_with fail
      refine (hx _).mono ?_
      rintro e w1 ⟨rfl, rfl⟩
      go_wp2_with fail
      refine (hy _).mono ?_
      rintro e w2 ⟨rfl, rfl⟩
      go_wp2_with fail
      go_ret
      exact ⟨rfl, rfl⟩
theorem ltOf_cmpS {α : Type} (g : α → Bs) (x y : α) : ltOf (fun x y => cmpS (g x) (g y)) x y = decide (g x < g y) := by
  unfold ltOf cmpS
  by_cases h1 : g x < g y
  · simp [h1]
  · by_cases h2 : g y < g x <;> simp [h1, h2]
theorem swo_cmpS {α : Type} (g : α → Bs) : SWO (ltOf fun x y : α => cmpS (g x) (g y)) where
  irrefl x := by rw [ltOf_cmpS]; simp [List.lt_irrefl]
  trans x y z h1 h2 := by rw [ltOf_cmpS] at *; simp only [decide_eq_true_eq] at *; exact List.lt_trans h1 h2
  ntrans x y z h1 h2 := by
    rw [ltOf_cmpS] at *
    simp only [decide_eq_false_iff_not, List.not_lt] at *
    exact List.le_trans h2 h1
theorem less_ent (x y : Ent) (W : World) : Calls Tryz.prog 58 #[.agg (ev x).toArray, .agg (ev y).toArray] W fun e w' => e = .returned (.int .i64 (cmpS x.name y.name)) ∧ ∃ q os', w' = grow (W.drewN q) os' := by
  obtain ⟨xn, xd, xi⟩ := x
  obtain ⟨yn, yd, yi⟩ := y
  have hcon := fun W => Compare_calls xn yn W
  generalize hr : cmpS xn yn = r at *
  have e1 : (ev ⟨xn, xd, xi⟩).toArray = #[.string (mk xn), .bool xd, .string (mk xi)] := rfl
  have e2 : (ev ⟨yn, yd, yi⟩).toArray = #[.string (mk yn), .bool yd, .string (mk yi)] := rfl
  rw [e1, e2]
  go_enter Tryz.func58, Tryz.ntmps58
  go_wp2_with (go_at_call 29; refine (hcon _).mono ?_; rintro e w' ⟨rfl, rfl⟩)
  go_ret
  exact ⟨by subst hr; rfl, 0, _, by rw [alloc_eq_grow, alloc_eq_grow, grow_grow]; rfl⟩
theorem less_fl (x y : Fl) (W : World) : Calls Tryz.prog 28 #[.agg (fv x).toArray, .agg (fv y).toArray] W fun e w' => e = .returned (.int .i64 (cmpS x.path y.path)) ∧ ∃ q os', w' = grow (W.drewN q) os' := by
  obtain ⟨xn, xi⟩ := x
  obtain ⟨yn, yi⟩ := y
  have hcon := fun W => Compare_calls xn yn W
  generalize hr : cmpS xn yn = r at *
  have e1 : (fv ⟨xn, xi⟩).toArray = #[.string (mk xn), .string (mk xi)] := rfl
  have e2 : (fv ⟨yn, yi⟩).toArray = #[.string (mk yn), .string (mk yi)] := rfl
  rw [e1, e2]
  go_enter Tryz.func28, Tryz.ntmps28
  go_wp2_with (go_at_call 29; refine (hcon _).mono ?_; rintro e w' ⟨rfl, rfl⟩)
  go_ret
  exact ⟨by subst hr; rfl, 0, _, by rw [alloc_eq_grow, alloc_eq_grow, grow_grow]; rfl⟩
theorem perm_of_in {α : Type} [Inhabited α] {d d' : Array α} (h : PermIn 0 d.size d d') : d'.toList.Perm d.toList := by
  obtain ⟨h1, _, h2⟩ := h
  have e1 : d'.extract 0 d.size = d' := by rw [← h1]; simp
  have e2 : d.extract 0 d.size = d := by simp
  rwa [e1, e2] at h2
theorem sorted_of_in {α : Type} [Inhabited α] {lt : α → α → Bool} {d : Array α} (h : SortedIn lt 0 d.size d) : d.toList.Pairwise (fun x y => lt y x = false) := by
  rw [List.pairwise_iff_getElem]
  intro i j hi hj hij
  have := h i j (by omega) hij (by simpa using hj)
  rw [getElem!_pos d j (by simpa using hj), getElem!_pos d i (by simpa using hi)] at this
  simpa using this
instance : Inhabited Ent := ⟨⟨[], false, []⟩⟩
instance : Inhabited Fl := ⟨⟨[], []⟩⟩
theorem sortEnts (v : Value) (l : List Ent) (base : Nat) (w : World) (h : w.ownsRow base 70 3 v l.length (evs l)) (hl : l.length ≤ 1000000) :
    Calls Tryz.prog 57 #[v, .func (.func 58) #[] #[]] w fun e w' =>
      e = .returned (.tuple #[]) ∧ ∃ l' : List Ent, l'.Perm l ∧ l'.Pairwise (fun x y => x.name ≤ y.name) ∧ w'.ownsRow base 70 3 v l'.length (evs l') ∧ Fr v.ownBlock.toList w w' := by
  have hk : ∀ x : Ent, (ev x).length = 3 := fun _ => rfl
  by_cases hd : l = []
  · subst hd
    obtain ⟨p, cap, rfl⟩ : ∃ p cap, v = .slice p 0 cap := by
      rcases h.2 with ⟨rfl, _⟩ | ⟨g, cap, cur, rfl, _⟩ <;> exact ⟨_, _, rfl⟩
    refine (AnyF.slices_SortFunc_none Tryz.sortEnt p cap _ w).mono ?_
    rintro e w' ⟨rfl, rfl⟩
    exact ⟨rfl, [], .refl _, .nil, h, Fr.refl _ _⟩
  · obtain ⟨g, cap, rfl, hb, hg, hH, hpost⟩ := sortRow hk l h hd
    have eg : ∀ args w, (callFunc 58 args).run Tryz.prog w = .ok (.enter 58 args) w := enters_of Tryz.func58 (by kernel_rfl) rfl
    have hone : ∀ x : Ent, ∀ u ∈ ev x, u.oneCell' = true := fun x u hu => by
      simp only [ev, List.mem_cons, List.not_mem_nil, or_false] at hu
      rcases hu with rfl | rfl | rfl <;> rfl
    refine (AnyQ.slices_SortFunc Tryz.sortEnt 3 (fun _ => by kernel_rfl) (fun _ => by kernel_rfl) ev hk hone (fun x y => cmpS x.name y.name) (swo_cmpS Ent.name) 58 #[] g 0 cap l.toArray w eg (fun _ _ _ _ x y => less_ent x y _) hH hg (by simp; omega)).mono ?_
    rintro e w' ⟨rfl, d', n, os, hp, hs, rfl⟩
    have hsz : d'.size = l.length := by simpa using hp.1
    obtain ⟨k1, k2⟩ := hpost d' n os hsz
    have hs' : SortedIn (ltOf fun x y : Ent => cmpS x.name y.name) 0 d'.size d' := by simpa [hsz] using hs
    refine ⟨rfl, d'.toList, by simpa using perm_of_in hp, (sorted_of_in hs').imp (fun {x y} hxy => ?_), k1, k2⟩
    rw [ltOf_cmpS] at hxy
    simpa using hxy
theorem sortFls (v : Value) (l : List Fl) (base : Nat) (w : World) (h : w.ownsRow base 40 2 v l.length (fvs l)) (hl : l.length ≤ 1000000) :
    Calls Tryz.prog 27 #[v, .func (.func 28) #[] #[]] w fun e w' =>
      e = .returned (.tuple #[]) ∧ ∃ l' : List Fl, l'.Perm l ∧ l'.Pairwise (fun x y => x.path ≤ y.path) ∧ w'.ownsRow base 40 2 v l'.length (fvs l') ∧ Fr v.ownBlock.toList w w' := by
  have hk : ∀ x : Fl, (fv x).length = 2 := fun _ => rfl
  by_cases hd : l = []
  · subst hd
    obtain ⟨p, cap, rfl⟩ : ∃ p cap, v = .slice p 0 cap := by
      rcases h.2 with ⟨rfl, _⟩ | ⟨g, cap, cur, rfl, _⟩ <;> exact ⟨_, _, rfl⟩
    refine (AnyF.slices_SortFunc_none Tryz.sortFile p cap _ w).mono ?_
    rintro e w' ⟨rfl, rfl⟩
    exact ⟨rfl, [], .refl _, .nil, h, Fr.refl _ _⟩
  · obtain ⟨g, cap, rfl, hb, hg, hH, hpost⟩ := sortRow hk l h hd
    have eg : ∀ args w, (callFunc 28 args).run Tryz.prog w = .ok (.enter 28 args) w := enters_of Tryz.func28 (by kernel_rfl) rfl
    have hone : ∀ x : Fl, ∀ u ∈ fv x, u.oneCell' = true := fun x u hu => by
      simp only [fv, List.mem_cons, List.not_mem_nil, or_false] at hu
      rcases hu with rfl | rfl <;> rfl
    refine (AnyQ.slices_SortFunc Tryz.sortFile 2 (fun _ => by kernel_rfl) (fun _ => by kernel_rfl) fv hk hone (fun x y => cmpS x.path y.path) (swo_cmpS Fl.path) 28 #[] g 0 cap l.toArray w eg (fun _ _ _ _ x y => less_fl x y _) hH hg (by simp; omega)).mono ?_
    rintro e w' ⟨rfl, d', n, os, hp, hs, rfl⟩
    have hsz : d'.size = l.length := by simpa using hp.1
    obtain ⟨k1, k2⟩ := hpost d' n os hsz
    have hs' : SortedIn (ltOf fun x y : Fl => cmpS x.path y.path) 0 d'.size d' := by simpa [hsz] using hs
    refine ⟨rfl, d'.toList, by simpa using perm_of_in hp, (sorted_of_in hs').imp (fun {x y} hxy => ?_), k1, k2⟩
    rw [ltOf_cmpS] at hxy
    simpa using hxy
end Go.Proofs.YtjelehcnpocnoaaGreatDoor
