/- Joined: TreeV Check Under. -/
import Derived.Test.YtjelehcnpocnoaaGreatDoorK10
import Derived.Test.YtjelehcnpocnoaaGreatDoorK15
import Derived.Laws.RangeAny
import Derived.Test.YtjelehcnpocnoaaGreatDoorK02
import Derived.Test.YtjelehcnpocnoaaGreatDoorK01
/- Layer 13, trees: files in memory; runes and slashes. -/
namespace Go.Proofs.YtjelehcnpocnoaaGreatDoor
set_option linter.unusedSimpArgs false
set_option linter.unusedVariables false
set_option linter.unnecessarySimpa false
open Go.RowKit
set_option maxRecDepth 100000
set_option maxHeartbeats 4000000

structure Fl where
  path : Bs
  id : Bs
deriving DecidableEq
def fv (f : Fl) : List Value := [.string (mk f.path), .string (mk f.id)]
def fvs (l : List Fl) : List Value := l.flatMap fv
theorem fvs_length (l : List Fl) : (fvs l).length = l.length * 2 := by
  induction l with
  | nil => rfl
  | cons x l ih => simp only [fvs, List.flatMap_cons, List.length_append] at *; rw [ih]; simp [fv]; omega
theorem fvs_get : ∀ (l : List Fl) (j : Nat) (f : Fl), l[j]? = some f → (fvs l)[j * 2]? = some (.string (mk f.path)) ∧ (fvs l)[j * 2 + 1]? = some (.string (mk f.id))
  | [], j, f, h => by simp at h
  | x :: l, 0, f, h => by
    obtain rfl : x = f := by simpa using h
    simp [fvs, fv]
  | x :: l, j + 1, f, h => by
    have := fvs_get l j f (by simpa using h)
    have hs : fvs (x :: l) = fv x ++ fvs l := rfl
    rw [hs]
    have h3 : (fv x).length = 2 := rfl
    rw [List.getElem?_append_right (by omega), List.getElem?_append_right (by omega), h3]
    rw [show (j + 1) * 2 - 2 = j * 2 by omega, show (j + 1) * 2 + 1 - 2 = j * 2 + 1 by omega]
    exact this
theorem fvs_app (l k : List Fl) : fvs (l ++ k) = fvs l ++ fvs k := by simp [fvs]
theorem fv_one (l : List Fl) : ∀ u ∈ fvs l, u.oneCell' = true := by
  intro u hu
  simp only [fvs, List.mem_flatMap, fv, List.mem_cons, List.not_mem_nil, or_false] at hu
  obtain ⟨e, _, rfl | rfl⟩ := hu <;> rfl
/-- A slice of files (of the element type e: the program's or the document's). -/
abbrev Fs (w : World) (e : TypeId) (v : Value) (l : List Fl) : Prop := Sl w e 2 v l.length (fvs l)
theorem Fs.open2 {w : World} {e : TypeId} {v : Value} {l : List Fl} (h : Fs w e v l) : ∃ a c, v = .slice a l.length c ∧ l.length ≤ c ∧ c ≤ 9223372036854775807 ∧ (0 < l.length → ∃ b o, a = some ⟨b, o, none⟩ ∧
    ∀ j f, l[j]? = some f → w.cell? ⟨b, o + j * 2, none⟩ = some (.string (mk f.path)) ∧ w.cell? ⟨b, o + j * 2 + 1, none⟩ = some (.string (mk f.id))) := by
  obtain ⟨h1, a, c, rfl, h2, h3, h4, h5⟩ := h
  refine ⟨a, c, rfl, h2, by simp only [maxLen] at h3; omega, fun hn => ?_⟩
  obtain ⟨b, o, cs, fr, rfl, hb, hc⟩ := h5 hn
  refine ⟨b, o, rfl, fun j f hf => ?_⟩
  obtain ⟨g1, g2⟩ := fvs_get l j f hf
  refine ⟨?_, ?_⟩
  · simp [World.cell?, hb, hc _ _ g1]
  · have := hc _ _ g2
    rw [← Nat.add_assoc] at this
    simp [World.cell?, hb, this]
/-- What one step of a range over a string sees of slashes. -/
theorem dec_slash (s : ByteArray) (p : Nat) (hp : p < s.size) : 1 ≤ (Utf8.decode s p).2 ∧ ((Utf8.decode s p).1 = 47 ↔ (s.get! p).toNat = 47) ∧ ∀ j, p < j → j < p + (Utf8.decode s p).2 → j < s.size ∧ (s.get! j).toNat ≠ 47 := by
  unfold Utf8.decode
  simp only [Nat.add_zero, Utf8.runeError]
  have key : ∀ k, ((s.get! (p + k)).toNat / 64 == 2) = true → (s.get! (p + k)).toNat ≠ 47 := fun k h e => by rw [e] at h; simp at h
  split
  · rename_i h
    exact ⟨Nat.le_refl _, Iff.rfl, fun j h1 h2 => by omega⟩
  · rename_i h
    split
    · rename_i h1
      simp only [Bool.and_eq_true, decide_eq_true_eq] at h1
      split
      · rename_i h2
        refine ⟨by omega, ⟨fun e => by simp only at e; omega, fun e => by omega⟩, fun j a b => ?_⟩
        obtain rfl : j = p + 1 := by simp only at b; omega
        exact ⟨h1.2.1, key 1 h1.2.2⟩
      · exact ⟨Nat.le_refl _, ⟨fun e => by simp only at e; omega, fun e => by omega⟩, fun j h1 h2 => by simp only at h2; omega⟩
    · split
      · rename_i h1
        simp only [Bool.and_eq_true, decide_eq_true_eq] at h1
        split
        · rename_i h2
          refine ⟨by omega, ⟨fun e => by simp only [Bool.and_eq_true, decide_eq_true_eq] at h2 e; omega, fun e => by omega⟩, fun j a b => ?_⟩
          rcases (show j = p + 1 ∨ j = p + 2 by simp only at b; omega) with rfl | rfl
          · exact ⟨h1.1.2.1, key 1 h1.1.2.2⟩
          · exact ⟨h1.2.1, key 2 h1.2.2⟩
        · exact ⟨Nat.le_refl _, ⟨fun e => by simp only at e; omega, fun e => by omega⟩, fun j h1 h2 => by simp only at h2; omega⟩
      · split
        · rename_i h1
          simp only [Bool.and_eq_true, decide_eq_true_eq] at h1
          split
          · rename_i h2
            refine ⟨by omega, ⟨fun e => by simp only [Bool.and_eq_true, decide_eq_true_eq] at h2 e; omega, fun e => by omega⟩, fun j a b => ?_⟩
            rcases (show j = p + 1 ∨ j = p + 2 ∨ j = p + 3 by simp only at b; omega) with rfl | rfl | rfl
            · exact ⟨h1.1.1.2.1, key 1 h1.1.1.2.2⟩
            · exact ⟨h1.1.2.1, key 2 h1.1.2.2⟩
            · exact ⟨h1.2.1, key 3 h1.2.2⟩
          · exact ⟨Nat.le_refl _, ⟨fun e => by simp only at e; omega, fun e => by omega⟩, fun j h1 h2 => by simp only at h2; omega⟩
        · exact ⟨Nat.le_refl _, ⟨fun e => by simp only at e; omega, fun e => by omega⟩, fun j h1 h2 => by simp only at h2; omega⟩
end Go.Proofs.YtjelehcnpocnoaaGreatDoor
/- Layer 13, trees: Check. -/
namespace Go.Proofs.YtjelehcnpocnoaaGreatDoor
set_option linter.unusedSimpArgs false
set_option linter.unusedVariables false
set_option linter.unnecessarySimpa false
open Go.RowKit
set_option maxRecDepth 100000
set_option maxHeartbeats 8000000

theorem u_known : Tryz.prog.underlying 97 = some (.map 9 3) := by kernel_rfl
theorem z_int (W : World) : (zeroValue 3).run Tryz.prog W = .ok (.int .i64 0) W := by kernel_rfl
def chkOne (l : List Fl) (k : Nat) (f : Fl) : Prop := namedOk f.path = true ∧ f.id.length = 32 ∧ (∀ g, 0 < k → l[k - 1]? = some g → g.path < f.path) ∧ ∀ i, f.path[i]? = some 47 → ∀ g ∈ l.take (k + 1), g.path ≠ f.path.take i
def checkOk (l : List Fl) : Prop := (∀ k f, l[k]? = some f → chkOne l k f) ∧ l.length ≤ 4096
def knownF (l : List Fl) : Bs → Option Value := fun p => if (l.map Fl.path).contains p then some (.int .i64 1) else none
theorem knownF_put (l : List Fl) (f : Fl) : upd (knownF l) f.path (some (.int .i64 1)) = knownF (l ++ [f]) := by
  funext p
  unfold upd knownF
  by_cases h : p = f.path
  · simp [h]
  · simp [h]
theorem TCheck_calls (m : Int) (v : Value) (l : List Fl) (w : World) (h : Fs w 40 v l) (hl : l.length ≤ 1000000) (hs : ∀ f ∈ l, f.path.length ≤ 4000000 ∧ f.id.length ≤ 4000000) (hm : w.cell? ⟨0, 0, none⟩ = some (.int .i64 m)) :
    Calls Tryz.prog 18 #[v] w fun e w' => ∃ r : Int, e = .returned (.int .i64 r) ∧ ((r = 0 ∧ checkOk l) ∨ (r = 1 ∧ ¬ checkOk l)) ∧ Fr [] w w' := by
  obtain ⟨a, c, rfl, h3, h4, hc⟩ := Fs.open2 h
  have hmm := @run_makeMap Tryz.prog
  have hM0 := MapAt.made Tryz.prog 9 w
  have hFA : Fr [] w (w.alloc (.map #[] 0)) := (Fr.refl _ _).alloc _
  have hsA : (w.alloc (.map #[] 0)).heap.size = w.heap.size + 1 := by simp
  go_enter Tryz.func18, Tryz.ntmps18
  go_wp2_with fail
  clear hmm
  generalize w.alloc (.map #[] 0) = w0 at *
  go_loopw [11] (fun i wr => ∃ k : Nat, i = .int .i64 k ∧ k ≤ l.length ∧ MapAt Tryz.prog 9 wr w.heap.size k (knownF (l.take k)) ∧ Fr [w.heap.size] w0 wr ∧ Hid (∀ j f, j < k → l[j]? = some f → chkOne l j f)) (fun i _ => l.length - (intOf i).toNat)
  case atStart => exact ⟨0, rfl, by omega, hM0, Fr.refl _ _, fun j f hj => absurd hj (by omega)⟩
  case round =>
    obtain ⟨k, rfl, hk, hM, hF, hall⟩ := hrel
    have hFw : Fr [] w wr := (hFA.trans hF (by simp))
    by_cases hlt : k < l.length
    · obtain ⟨g, o, rfl, hcell⟩ := hc (by omega)
      have hg := List.getElem?_eq_getElem hlt
      obtain ⟨x1, x2⟩ := hcell k _ hg
      have hsz := hs _ (List.getElem_mem hlt)
      have b1 : decide ((k : Int) < l.length) = true := by simp; omega
      have i1 : (k : Int) < l.length := by omega
      generalize hfe : l[k] = f at *
      obtain ⟨ph, idn⟩ := f
      simp only at x1 x2 hsz
      have x1' := hFw.cell x1 (by simp)
      have x2' := hFw.cell x2 (by simp)
      have hFc : Fr [] wr (wr.alloc (.cells #[.string (mk ph), .string (mk idn)] 40)) := (Fr.refl _ _).alloc _
      have nz := World.cell?_alloc_new wr #[.string (mk ph), .string (mk idn)] 40 0
      have n1 := World.cell?_alloc_new wr #[.string (mk ph), .string (mk idn)] 40 1
      generalize hWc : wr.alloc (.cells #[.string (mk ph), .string (mk idn)] 40) = WC at *
      have HN := Lib.hid (fun W (hW : Fr [] WC W) => Named_calls ph m W (by omega) (hW.cell (hFc.cell (hFw.cell hm (by simp)) (by simp)) (by simp)))
      have zi := mk_size idn
      have hbad : ¬ chkOne l k ⟨ph, idn⟩ → ¬ checkOk l := fun hn hc => hn (hc.1 k _ hg)
      by_cases hnm : namedOk ph = true
      · rw [hnm] at HN
        by_cases h32 : idn.length = 32
        · have e32 : ((idn.length : Int) == 32) = true := by rw [beq_iff_eq]; omega
          rcases k with _ | j
          · have HBD := Lib.hid hbad
            have HG := Lib.hid hg
            simp only [Nat.zero_mul, Nat.add_zero] at x1' x2'
            clear hbad hg
            have HORD : Hid (∀ g : Fl, 0 < 0 → l[0 - 1]? = some g → g.path < ph) := fun g hx => absurd hx (by omega)
            go_wp2_with fail
            refine wp_region_noPanic ?_
            refine wp_region_Z (fun w' : World => w'.cell? ⟨wr.heap.size, 0, none⟩ = some (.string (mk ph)) ∧ w'.cell? ⟨wr.heap.size, 1, none⟩ = some (.string (mk idn))) 99 (by kernel_rfl) ?_
            have hS : (fun w' : World => w'.cell? ⟨wr.heap.size, 0, none⟩ = some (.string (mk ph)) ∧ w'.cell? ⟨wr.heap.size, 1, none⟩ = some (.string (mk idn))) WC.drew := ⟨nz, n1⟩
            refine wpAnyZ_take (i := 0) (oi := _) (v := ?_) rfl (by kernel_rfl) (by kernel_rfl) (by kernel_rfl) (by kernel_rfl) (fun _ _ _ h => h) (Or.inl ⟨by kernel_rfl, ?_⟩) hS ?_
            rotate_left
            · (intro w hSw; (try dsimp only at hSw); go_simp); try with_reducible rfl
            simp only [Act.put, List.setIfInBounds_toArray, List.set_cons_zero, List.set_cons_succ, List.getElem_toArray, List.getElem_cons_succ, List.getElem_cons_zero]
            refine wpAnyZ_take (i := 1) (oi := _) (v := ?_) rfl (by kernel_rfl) (by kernel_rfl) (by kernel_rfl) (by kernel_rfl) (fun _ _ _ h => h) (Or.inl ⟨by kernel_rfl, ?_⟩) hS ?_
            rotate_left
            · (intro w hSw; (try dsimp only at hSw); go_simp); try with_reducible rfl
            simp only [Act.put, List.setIfInBounds_toArray, List.set_cons_zero, List.set_cons_succ, List.getElem_toArray, List.getElem_cons_succ, List.getElem_cons_zero]
            refine wpAnyZ_one (i := 2) (by kernel_rfl) rfl (fun K hK => ?_)
            go_simp
            go_at_call 26
            refine (HN.out _ ((Fr.refl _ _).drew)).mono ?_
            rintro e w2 ⟨rfl, hF2⟩
            have hF2' : Fr [] WC w2 := hF2.of_drew
            clear HN
            refine hK.out _ _ (fun _ => ⟨hF2'.cell nz (by simp), hF2'.cell n1 (by simp)⟩) (fun hHeld => ?_)
            clear hK K
            try simp only [Act.put, List.setIfInBounds_toArray, List.set_cons_zero, List.set_cons_succ, List.getElem_toArray, List.getElem_cons_succ, List.getElem_cons_zero]
            refine wpAnyZ_take (i := 3) (oi := _) (v := ?_) rfl (by kernel_rfl) (by kernel_rfl) (by kernel_rfl) (by kernel_rfl) (fun _ _ _ h => h) (Or.inl ⟨by kernel_rfl, ?_⟩) (hHeld (by decide)) ?_
            rotate_left
            · (intro w hSw; (try dsimp only at hSw); go_simp); try with_reducible rfl
            simp only [Act.put, List.setIfInBounds_toArray, List.set_cons_zero, List.set_cons_succ, List.getElem_toArray, List.getElem_cons_succ, List.getElem_cons_zero]
            refine wpAnyZ_take (i := 4) (oi := _) (v := ?_) rfl (by kernel_rfl) (by kernel_rfl) (by kernel_rfl) (by kernel_rfl) (fun _ _ _ h => h) (Or.inl ⟨by kernel_rfl, ?_⟩) (hHeld (by decide)) ?_
            rotate_left
            · (intro w hSw; (try dsimp only at hSw); go_simp); try with_reducible rfl
            simp only [Act.put, List.setIfInBounds_toArray, List.set_cons_zero, List.set_cons_succ, List.getElem_toArray, List.getElem_cons_succ, List.getElem_cons_zero]
            refine wpAnyZ_take (i := 5) (oi := _) (v := ?_) rfl (by kernel_rfl) (by kernel_rfl) (by kernel_rfl) (by kernel_rfl) (fun _ _ _ h => h) (Or.inl ⟨by kernel_rfl, ?_⟩) (hHeld (by decide)) ?_
            rotate_left
            · (intro w hSw; (try dsimp only at hSw); go_simp); try with_reducible rfl
            simp only [Act.put, List.setIfInBounds_toArray, List.set_cons_zero, List.set_cons_succ, List.getElem_toArray, List.getElem_cons_succ, List.getElem_cons_zero]
            refine wpAnyZ_take (i := 6) (oi := _) (v := ?_) rfl (by kernel_rfl) (by kernel_rfl) (by kernel_rfl) (by kernel_rfl) (fun _ _ _ h => h) (Or.inl ⟨by kernel_rfl, ?_⟩) (hHeld (by decide)) ?_
            rotate_left
            · (intro w hSw; (try dsimp only at hSw); go_simp); try with_reducible rfl
            simp only [Act.put, List.setIfInBounds_toArray, List.set_cons_zero, List.set_cons_succ, List.getElem_toArray, List.getElem_cons_succ, List.getElem_cons_zero]
            refine wpAnyZ_take (i := 7) (oi := _) (v := ?_) rfl (by kernel_rfl) (by kernel_rfl) (by kernel_rfl) (by kernel_rfl) (fun _ _ _ h => h) (Or.inl ⟨by kernel_rfl, ?_⟩) (hHeld (by decide)) ?_
            rotate_left
            · (intro w hSw; (try dsimp only at hSw); go_simp); try with_reducible rfl
            simp only [Act.put, List.setIfInBounds_toArray, List.set_cons_zero, List.set_cons_succ, List.getElem_toArray, List.getElem_cons_succ, List.getElem_cons_zero]
            refine wpAnyZ_take (i := 8) (oi := _) (v := ?_) rfl (by kernel_rfl) (by kernel_rfl) (by kernel_rfl) (by kernel_rfl) (fun _ _ _ h => h) (Or.inl ⟨by kernel_rfl, ?_⟩) (hHeld (by decide)) ?_
            rotate_left
            · (intro w hSw; (try dsimp only at hSw); go_simp); try with_reducible rfl
            simp only [Act.put, List.setIfInBounds_toArray, List.set_cons_zero, List.set_cons_succ, List.getElem_toArray, List.getElem_cons_succ, List.getElem_cons_zero]
            refine wpAnyZ_take (i := 9) (oi := _) (v := ?_) rfl (by kernel_rfl) (by kernel_rfl) (by kernel_rfl) (by kernel_rfl) (fun _ _ _ h => h) (Or.inl ⟨by kernel_rfl, ?_⟩) (hHeld (by decide)) ?_
            rotate_left
            · (intro w hSw; (try dsimp only at hSw); go_simp); try with_reducible rfl
            simp only [Act.put, List.setIfInBounds_toArray, List.set_cons_zero, List.set_cons_succ, List.getElem_toArray, List.getElem_cons_succ, List.getElem_cons_zero]
            refine wpAnyZ_take (i := 10) (oi := _) (v := ?_) rfl (by kernel_rfl) (by kernel_rfl) (by kernel_rfl) (by kernel_rfl) (fun _ _ _ h => h) (Or.inl ⟨by kernel_rfl, ?_⟩) (hHeld (by decide)) ?_
            rotate_left
            · (intro w hSw; (try dsimp only at hSw); go_simp); try with_reducible rfl
            simp only [Act.put, List.setIfInBounds_toArray, List.set_cons_zero, List.set_cons_succ, List.getElem_toArray, List.getElem_cons_succ, List.getElem_cons_zero]
            refine wpAnyZ_take (i := 11) (oi := _) (v := ?_) rfl (by kernel_rfl) (by kernel_rfl) (by kernel_rfl) (by kernel_rfl) (fun _ _ _ h => h) (Or.inl ⟨by kernel_rfl, ?_⟩) (hHeld (by decide)) ?_
            rotate_left
            · (intro w hSw; (try dsimp only at hSw); go_simp); try with_reducible rfl
            simp only [Act.put, List.setIfInBounds_toArray, List.set_cons_zero, List.set_cons_succ, List.getElem_toArray, List.getElem_cons_succ, List.getElem_cons_zero]
            refine wpAnyZ_take (i := 12) (oi := _) (v := ?_) rfl (by kernel_rfl) (by kernel_rfl) (by kernel_rfl) (by kernel_rfl) (fun _ _ _ h => h) (Or.inl ⟨by kernel_rfl, ?_⟩) (hHeld (by decide)) ?_
            rotate_left
            · (intro w hSw; (try dsimp only at hSw); go_simp); try with_reducible rfl
            simp only [Act.put, List.setIfInBounds_toArray, List.set_cons_zero, List.set_cons_succ, List.getElem_toArray, List.getElem_cons_succ, List.getElem_cons_zero]
            refine wpAnyZ_take (i := 13) (oi := _) (v := ?_) rfl (by kernel_rfl) (by kernel_rfl) (by kernel_rfl) (by kernel_rfl) (fun _ _ _ h => h) (Or.inl ⟨by kernel_rfl, ?_⟩) (hHeld (by decide)) ?_
            rotate_left
            · (intro w hSw; (try dsimp only at hSw); go_simp); try with_reducible rfl
            simp only [Act.put, List.setIfInBounds_toArray, List.set_cons_zero, List.set_cons_succ, List.getElem_toArray, List.getElem_cons_succ, List.getElem_cons_zero]
            refine wpAnyZ_take (i := 14) (oi := _) (v := undef) rfl (by kernel_rfl) (by kernel_rfl) (by kernel_rfl) (by kernel_rfl) (fun _ _ _ h => h) (Or.inr ⟨by kernel_rfl, rfl⟩) (hHeld (by decide)) ?_
            simp only [Act.put, List.setIfInBounds_toArray, List.set_cons_zero, List.set_cons_succ, List.getElem_toArray, List.getElem_cons_succ, List.getElem_cons_zero]
            refine wpAnyZ_take (i := 15) (oi := _) (v := undef) rfl (by kernel_rfl) (by kernel_rfl) (by kernel_rfl) (by kernel_rfl) (fun _ _ _ h => h) (Or.inr ⟨by kernel_rfl, rfl⟩) (hHeld (by decide)) ?_
            simp only [Act.put, List.setIfInBounds_toArray, List.set_cons_zero, List.set_cons_succ, List.getElem_toArray, List.getElem_cons_succ, List.getElem_cons_zero]
            refine wpAnyZ_take (i := 16) (oi := _) (v := undef) rfl (by kernel_rfl) (by kernel_rfl) (by kernel_rfl) (by kernel_rfl) (fun _ _ _ h => h) (Or.inr ⟨by kernel_rfl, rfl⟩) (hHeld (by decide)) ?_
            simp only [Act.put, List.setIfInBounds_toArray, List.set_cons_zero, List.set_cons_succ, List.getElem_toArray, List.getElem_cons_succ, List.getElem_cons_zero]
            refine wpAnyZ_take (i := 17) (oi := _) (v := undef) rfl (by kernel_rfl) (by kernel_rfl) (by kernel_rfl) (by kernel_rfl) (fun _ _ _ h => h) (Or.inr ⟨by kernel_rfl, rfl⟩) (hHeld (by decide)) ?_
            simp only [Act.put, List.setIfInBounds_toArray, List.set_cons_zero, List.set_cons_succ, List.getElem_toArray, List.getElem_cons_succ, List.getElem_cons_zero]
            refine wpAnyZ_take (i := 18) (oi := _) (v := undef) rfl (by kernel_rfl) (by kernel_rfl) (by kernel_rfl) (by kernel_rfl) (fun _ _ _ h => h) (Or.inr ⟨by kernel_rfl, rfl⟩) (hHeld (by decide)) ?_
            simp only [Act.put, List.setIfInBounds_toArray, List.set_cons_zero, List.set_cons_succ, List.getElem_toArray, List.getElem_cons_succ, List.getElem_cons_zero]
            refine wpAnyZ_take (i := 19) (oi := _) (v := undef) rfl (by kernel_rfl) (by kernel_rfl) (by kernel_rfl) (by kernel_rfl) (fun _ _ _ h => h) (Or.inr ⟨by kernel_rfl, rfl⟩) (hHeld (by decide)) ?_
            simp only [Act.put, List.setIfInBounds_toArray, List.set_cons_zero, List.set_cons_succ, List.getElem_toArray, List.getElem_cons_succ, List.getElem_cons_zero]
            refine wpAnyZ_take (i := 20) (oi := _) (v := undef) rfl (by kernel_rfl) (by kernel_rfl) (by kernel_rfl) (by kernel_rfl) (fun _ _ _ h => h) (Or.inr ⟨by kernel_rfl, rfl⟩) (hHeld (by decide)) ?_
            simp only [Act.put, List.setIfInBounds_toArray, List.set_cons_zero, List.set_cons_succ, List.getElem_toArray, List.getElem_cons_succ, List.getElem_cons_zero]
            refine wpAnyZ_take (i := 21) (oi := _) (v := undef) rfl (by kernel_rfl) (by kernel_rfl) (by kernel_rfl) (by kernel_rfl) (fun _ _ _ h => h) (Or.inr ⟨by kernel_rfl, rfl⟩) (hHeld (by decide)) ?_
            simp only [Act.put, List.setIfInBounds_toArray, List.set_cons_zero, List.set_cons_succ, List.getElem_toArray, List.getElem_cons_succ, List.getElem_cons_zero]
            refine wpAnyZ_take (i := 22) (oi := _) (v := undef) rfl (by kernel_rfl) (by kernel_rfl) (by kernel_rfl) (by kernel_rfl) (fun _ _ _ h => h) (Or.inr ⟨by kernel_rfl, rfl⟩) (hHeld (by decide)) ?_
            simp only [Act.put, List.setIfInBounds_toArray, List.set_cons_zero, List.set_cons_succ, List.getElem_toArray, List.getElem_cons_succ, List.getElem_cons_zero]
            refine wpAnyZ_take (i := 23) (oi := _) (v := ?_) rfl (by kernel_rfl) (by kernel_rfl) (by kernel_rfl) (by kernel_rfl) (fun _ _ _ h => h) (Or.inl ⟨by kernel_rfl, ?_⟩) (hHeld (by decide)) ?_
            rotate_left
            · (intro w hSw; (try dsimp only at hSw); go_simp); try with_reducible rfl
            simp only [Act.put, List.setIfInBounds_toArray, List.set_cons_zero, List.set_cons_succ, List.getElem_toArray, List.getElem_cons_succ, List.getElem_cons_zero]
            refine wpAnyZ_take (i := 24) (oi := _) (v := ?_) rfl (by kernel_rfl) (by kernel_rfl) (by kernel_rfl) (by kernel_rfl) (fun _ _ _ h => h) (Or.inl ⟨by kernel_rfl, ?_⟩) (hHeld (by decide)) ?_
            rotate_left
            · (intro w hSw; (try dsimp only at hSw); go_simp); try with_reducible rfl
            simp only [Act.put, List.setIfInBounds_toArray, List.set_cons_zero, List.set_cons_succ, List.getElem_toArray, List.getElem_cons_succ, List.getElem_cons_zero]
            refine wpAnyZ_done (by kernel_rfl) ?_ _
            refine NoPanic.normal ?_
            have hMw2 : MapAt Tryz.prog 9 w2 w.heap.size (0) (knownF (l.take (0))) := hM.fr (hFc.trans0 hF2') (by simp)
            obtain ⟨w3, hput, hM3, hF3⟩ := hMw2.put u_string u_known (by omega) ph (by simp only [maxLen]; omega) (.int .i64 1)
            have htk : l.take (0) ++ [⟨ph, idn⟩] = l.take (0 + 1) := by rw [show l.take (0 + 1) = l.take (0) ++ l[0]?.toList from List.take_add_one, HG.out]; rfl
            have hkp : upd (knownF (l.take (0))) ph (some (.int .i64 1)) = knownF (l.take (0 + 1)) := by rw [← htk]; exact knownF_put (l.take (0)) ⟨ph, idn⟩
            rw [hkp] at hM3
            have hwl : w.heap.size < wr.heap.size := by have := hF.size; omega
            have zz3 := hF3.cell (hF2'.cell nz (by simp)) (by simp; omega)
            have hFr3 : Fr [w.heap.size] wr w3 := ((hFc.trans0 hF2').weaken (by simp)).trans hF3 (by simp)
            have hus := u_string
            have zp := mk_size ph
            clear hkp htk nz n1 hWc
            go_wp2_with fail
            go_loopw [] (fun wr2 => ∃ pos : Nat, wr2 = w3.iter (mk ph) pos ∧ pos ≤ ph.length ∧ Hid (∀ i, i < pos → ph[i]? = some 47 → ∀ g ∈ l.take (0 + 1), g.path ≠ ph.take i)) (fun wr2 => ph.length - wr2.iterPos w3.heap.size)
            case atStart => exact ⟨0, rfl, by omega, fun i hi => absurd hi (by omega)⟩
            case round =>
              obtain ⟨pos, rfl, hpl, hin⟩ := hrel
              have hFi : Fr [] w3 (w3.iter (mk ph) pos) := (Fr.refl _ _).alloc _
              have hwi : Fr [] w (w3.iter (mk ph) pos) := Fr.of_below (((hFw.weaken (by simp)).trans hFr3 (by simp) : Fr [w.heap.size] w w3).trans0 hFi |>.belowAt (by simp) (Nat.le_refl _))
              by_cases hpos : pos < ph.length
              · have hp2 : pos < (mk ph).size := by omega
                have hnx := fun ty => run_next_any (P := Tryz.prog) w3 (mk ph) pos ty hp2
                obtain ⟨d1, d2, d3⟩ := dec_slash (mk ph) pos hp2
                obtain ⟨dc, hdc⟩ : ∃ dc, Utf8.decode (mk ph) pos = dc := ⟨_, rfl⟩
                rw [hdc] at d1 d2 d3
                simp only [hdc] at hnx
                obtain ⟨ch, wd⟩ := dc
                have D2 := Lib.hid d2
                have D3 := Lib.hid d3
                simp only at d1 hnx
                have hget : ∀ i, i < ph.length → ((mk ph).get! i).toNat = (ph.getD i 0).toNat := fun i hi => by
                  simp [ByteArray.get!, mk, hi]
                have HGET := Lib.hid hget
                have hwb : pos + wd ≤ ph.length := by
                  rcases Nat.lt_or_ge 1 wd with h1 | h1
                  · have := (D3.out (pos + wd - 1) (by omega) (by show pos + wd - 1 < pos + wd; omega)).1
                    omega
                  · omega
                have hskip : Hid (∀ i, pos < i → i < pos + wd → ph[i]? ≠ some 47) := fun i h1 h2 h3 => by
                  obtain ⟨h4, h5⟩ := D3.out i h1 h2
                  obtain ⟨h6, h7⟩ := List.getElem?_eq_some_iff.1 h3
                  rw [HGET.out i h6, List.getD_eq_getElem?_getD, h3] at h5
                  exact h5 rfl
                have hFi2 : Fr [] w3 (w3.iter (mk ph) (pos + wd)) := (Fr.refl _ _).alloc _
                have zz4 := hFi2.cell zz3 (by simp)
                have hwi2 : Fr [] w (w3.iter (mk ph) (pos + wd)) := Fr.of_below (((hFw.weaken (by simp)).trans hFr3 (by simp) : Fr [w.heap.size] w w3).trans0 hFi2 |>.belowAt (by simp) (Nat.le_refl _))
                clear d2 d3 hget hdc
                by_cases h47 : ch = 47
                · subst h47
                  have hph : ph[pos]? = some 47 := by
                    have := D2.out.1 rfl
                    rw [HGET.out pos hpos, List.getD_eq_getElem?_getD, List.getElem?_eq_getElem hpos] at this
                    rw [List.getElem?_eq_getElem hpos]
                    exact congrArg some (UInt8.toNat_inj.1 this)
                  have HPH := Lib.hid hph
                  have hex : (mk ph).extract 0 pos = mk (ph.take pos) := by
                    rw [← mk_bl ((mk ph).extract 0 pos)]
                    simp [bl, mk]
                  have ip : (pos : Int) ≤ ph.length := by omega
                  have hlk := fun W (hW : Fr [] w3 W) => (hM3.fr hW (by simp)).get u_string u_known z_int (ph.take pos) (by simp only [maxLen, List.length_take]; omega)
                  have hlk1 := hlk _ hFi2
                  by_cases hkn : (l.take (0 + 1)).map Fl.path |>.contains (ph.take pos)
                  · have hkf : knownF (l.take (0 + 1)) (ph.take pos) = some (.int .i64 1) := by unfold knownF; rw [if_pos hkn]
                    rw [hkf] at hlk1
                    have hno := HBD.out (fun h => by
                      obtain ⟨q, hq1, hq2⟩ := List.mem_map.1 (List.contains_iff_mem.1 hkn)
                      exact h.2.2.2 pos HPH.out q hq1 hq2)
                    have HNO := Lib.hid hno
                    clear hno hkn hkf hlk hph
                    go_wp2_with fail
                    go_ret
                    exact ⟨1, rfl, .inr ⟨rfl, HNO.out⟩, hwi2⟩
                  · have hkf : knownF (l.take (0 + 1)) (ph.take pos) = none := by unfold knownF; rw [if_neg hkn]
                    rw [hkf] at hlk1
                    have hnk : Hid (∀ g ∈ l.take (0 + 1), g.path ≠ ph.take pos) := fun q hq e => hkn (List.contains_iff_mem.2 (List.mem_map.2 ⟨q, hq, e⟩))
                    clear hkn hkf hlk hph
                    go_wp2_with fail
                    refine ⟨⟨pos + wd, rfl, hwb, fun i hi h3 => ?_⟩, by simp only [World.iterPos_iter]; omega⟩
                    rcases Nat.lt_trichotomy i pos with h4 | rfl | h4
                    · exact hin.out i h4 h3
                    · exact hnk.out
                    · exact absurd h3 (hskip.out i h4 hi)
                · have h47b : ((ch : Int) == 47) = false := by rw [beq_eq_false_iff_ne]; omega
                  have HN47 := Lib.hid h47
                  clear h47
                  go_wp2_with fail
                  refine ⟨⟨pos + wd, rfl, hwb, fun i hi h3 => ?_⟩, by simp only [World.iterPos_iter]; omega⟩
                  rcases Nat.lt_trichotomy i pos with h4 | rfl | h4
                  · exact hin.out i h4 h3
                  · refine absurd (D2.out.2 ?_) HN47.out
                    rw [HGET.out i hpos, List.getD_eq_getElem?_getD, h3]
                    rfl
                  · exact absurd h3 (hskip.out i h4 hi)
              · obtain rfl : pos = ph.length := by omega
                have hnx := fun ty => run_next_end (P := Tryz.prog) w3 (mk ph) ph.length ty (by omega)
                have hone : chkOne l (0) ⟨ph, idn⟩ := ⟨hnm, h32, HORD.out, fun i h3 => hin.out i (List.getElem?_eq_some_iff.1 h3).1 h3⟩
                have HONE := Lib.hid hone
                have HALL := Lib.hid (fun (q : Nat) (f : Fl) (hq : q < 0 + 1) (hf : l[q]? = some f) => (show chkOne l q f from by
                  rcases Nat.lt_or_ge q (0) with h4 | h4
                  · exact hall.out q f h4 hf
                  · obtain rfl : q = 0 := by omega
                    rw [HG.out] at hf
                    obtain rfl : (⟨ph, idn⟩ : Fl) = f := by simpa using hf
                    exact HONE.out))
                clear hone
                go_wp2_with fail
                exact ⟨⟨0 + 1, by simp, by omega, hM3.fr hFi (by simp), ((hF.trans hFr3 (by simp))).trans0 hFi, HALL.out⟩, by simp [intOf]; omega⟩
          · have hkm : j < l.length := by omega
            have hg' := List.getElem?_eq_getElem hkm
            obtain ⟨y1, _⟩ := hcell j _ hg'
            generalize hpe : l[j] = pf at *
            obtain ⟨pp, pid⟩ := pf
            simp only at y1
            have yc := hFc.cell (hFw.cell y1 (by simp)) (by simp)
            have j2 : (j : Int) < l.length := by omega
            have e3 : IntKind.i64.wrap ((j : Int) + 1 - 1) = (j : Int) := by rw [IntKind.wrap_i64]; omega
            have e4 : IntKind.i64.wrap (j : Int) = (j : Int) := by rw [IntKind.wrap_i64]; omega
            have b2 : decide ((0 : Int) < (j : Int) + 1) = true := by simp
            have j3 : (0 : Int) < (j : Int) + 1 := by omega
            have q1 := mk_toList ph
            have q2 := mk_toList pp
            have HBD := Lib.hid hbad
            have HG := Lib.hid hg
            have HG' := Lib.hid hg'
            clear hbad hg hg'
            by_cases hlo : pp < ph
            · have hbl : Op.bytesLess pp ph = true := by rw [bytesLess_lt]; simpa using hlo
              have HORD : Hid (∀ g : Fl, 0 < j + 1 → l[j + 1 - 1]? = some g → g.path < ph) := fun q _ hq => by
                rw [show j + 1 - 1 = j by omega, HG'.out] at hq
                obtain rfl : (⟨pp, pid⟩ : Fl) = q := by simpa using hq
                exact hlo
              have e5 : IntKind.i64.wrap ((j : Int) + 1 + 1) = (j : Int) + 1 + 1 := by rw [IntKind.wrap_i64]; omega
              go_wp2_with fail
              refine wp_region_noPanic ?_
              refine wp_region_Z (fun w' : World => w'.cell? ⟨wr.heap.size, 0, none⟩ = some (.string (mk ph)) ∧ w'.cell? ⟨wr.heap.size, 1, none⟩ = some (.string (mk idn)) ∧ w'.cell? ⟨g, o + j * 2, none⟩ = some (.string (mk pp))) 99 (by kernel_rfl) ?_
              have hS : (fun w' : World => w'.cell? ⟨wr.heap.size, 0, none⟩ = some (.string (mk ph)) ∧ w'.cell? ⟨wr.heap.size, 1, none⟩ = some (.string (mk idn)) ∧ w'.cell? ⟨g, o + j * 2, none⟩ = some (.string (mk pp))) WC.drew := ⟨nz, n1, yc⟩
              refine wpAnyZ_take (i := 0) (oi := _) (v := ?_) rfl (by kernel_rfl) (by kernel_rfl) (by kernel_rfl) (by kernel_rfl) (fun _ _ _ h => h) (Or.inl ⟨by kernel_rfl, ?_⟩) hS ?_
              rotate_left
              · (intro w hSw; (try dsimp only at hSw); go_simp); try with_reducible rfl
              simp only [Act.put, List.setIfInBounds_toArray, List.set_cons_zero, List.set_cons_succ, List.getElem_toArray, List.getElem_cons_succ, List.getElem_cons_zero]
              refine wpAnyZ_take (i := 1) (oi := _) (v := ?_) rfl (by kernel_rfl) (by kernel_rfl) (by kernel_rfl) (by kernel_rfl) (fun _ _ _ h => h) (Or.inl ⟨by kernel_rfl, ?_⟩) hS ?_
              rotate_left
              · (intro w hSw; (try dsimp only at hSw); go_simp); try with_reducible rfl
              simp only [Act.put, List.setIfInBounds_toArray, List.set_cons_zero, List.set_cons_succ, List.getElem_toArray, List.getElem_cons_succ, List.getElem_cons_zero]
              refine wpAnyZ_one (i := 2) (by kernel_rfl) rfl (fun K hK => ?_)
              go_simp
              go_at_call 26
              refine (HN.out _ ((Fr.refl _ _).drew)).mono ?_
              rintro e w2 ⟨rfl, hF2⟩
              have hF2' : Fr [] WC w2 := hF2.of_drew
              clear HN
              refine hK.out _ _ (fun _ => ⟨hF2'.cell nz (by simp), hF2'.cell n1 (by simp), hF2'.cell yc (by simp)⟩) (fun hHeld => ?_)
              clear hK K
              try simp only [Act.put, List.setIfInBounds_toArray, List.set_cons_zero, List.set_cons_succ, List.getElem_toArray, List.getElem_cons_succ, List.getElem_cons_zero]
              refine wpAnyZ_take (i := 3) (oi := _) (v := ?_) rfl (by kernel_rfl) (by kernel_rfl) (by kernel_rfl) (by kernel_rfl) (fun _ _ _ h => h) (Or.inl ⟨by kernel_rfl, ?_⟩) (hHeld (by decide)) ?_
              rotate_left
              · (intro w hSw; (try dsimp only at hSw); go_simp); try with_reducible rfl
              simp only [Act.put, List.setIfInBounds_toArray, List.set_cons_zero, List.set_cons_succ, List.getElem_toArray, List.getElem_cons_succ, List.getElem_cons_zero]
              refine wpAnyZ_take (i := 4) (oi := _) (v := ?_) rfl (by kernel_rfl) (by kernel_rfl) (by kernel_rfl) (by kernel_rfl) (fun _ _ _ h => h) (Or.inl ⟨by kernel_rfl, ?_⟩) (hHeld (by decide)) ?_
              rotate_left
              · (intro w hSw; (try dsimp only at hSw); go_simp); try with_reducible rfl
              simp only [Act.put, List.setIfInBounds_toArray, List.set_cons_zero, List.set_cons_succ, List.getElem_toArray, List.getElem_cons_succ, List.getElem_cons_zero]
              refine wpAnyZ_take (i := 5) (oi := _) (v := ?_) rfl (by kernel_rfl) (by kernel_rfl) (by kernel_rfl) (by kernel_rfl) (fun _ _ _ h => h) (Or.inl ⟨by kernel_rfl, ?_⟩) (hHeld (by decide)) ?_
              rotate_left
              · (intro w hSw; (try dsimp only at hSw); go_simp); try with_reducible rfl
              simp only [Act.put, List.setIfInBounds_toArray, List.set_cons_zero, List.set_cons_succ, List.getElem_toArray, List.getElem_cons_succ, List.getElem_cons_zero]
              refine wpAnyZ_take (i := 6) (oi := _) (v := ?_) rfl (by kernel_rfl) (by kernel_rfl) (by kernel_rfl) (by kernel_rfl) (fun _ _ _ h => h) (Or.inl ⟨by kernel_rfl, ?_⟩) (hHeld (by decide)) ?_
              rotate_left
              · (intro w hSw; (try dsimp only at hSw); go_simp); try with_reducible rfl
              simp only [Act.put, List.setIfInBounds_toArray, List.set_cons_zero, List.set_cons_succ, List.getElem_toArray, List.getElem_cons_succ, List.getElem_cons_zero]
              refine wpAnyZ_take (i := 7) (oi := _) (v := ?_) rfl (by kernel_rfl) (by kernel_rfl) (by kernel_rfl) (by kernel_rfl) (fun _ _ _ h => h) (Or.inl ⟨by kernel_rfl, ?_⟩) (hHeld (by decide)) ?_
              rotate_left
              · (intro w hSw; (try dsimp only at hSw); go_simp); try with_reducible rfl
              simp only [Act.put, List.setIfInBounds_toArray, List.set_cons_zero, List.set_cons_succ, List.getElem_toArray, List.getElem_cons_succ, List.getElem_cons_zero]
              refine wpAnyZ_take (i := 8) (oi := _) (v := ?_) rfl (by kernel_rfl) (by kernel_rfl) (by kernel_rfl) (by kernel_rfl) (fun _ _ _ h => h) (Or.inl ⟨by kernel_rfl, ?_⟩) (hHeld (by decide)) ?_
              rotate_left
              · (intro w hSw; (try dsimp only at hSw); go_simp); try with_reducible rfl
              simp only [Act.put, List.setIfInBounds_toArray, List.set_cons_zero, List.set_cons_succ, List.getElem_toArray, List.getElem_cons_succ, List.getElem_cons_zero]
              refine wpAnyZ_take (i := 9) (oi := _) (v := ?_) rfl (by kernel_rfl) (by kernel_rfl) (by kernel_rfl) (by kernel_rfl) (fun _ _ _ h => h) (Or.inl ⟨by kernel_rfl, ?_⟩) (hHeld (by decide)) ?_
              rotate_left
              · (intro w hSw; (try dsimp only at hSw); go_simp); try with_reducible rfl
              simp only [Act.put, List.setIfInBounds_toArray, List.set_cons_zero, List.set_cons_succ, List.getElem_toArray, List.getElem_cons_succ, List.getElem_cons_zero]
              refine wpAnyZ_take (i := 10) (oi := _) (v := ?_) rfl (by kernel_rfl) (by kernel_rfl) (by kernel_rfl) (by kernel_rfl) (fun _ _ _ h => h) (Or.inl ⟨by kernel_rfl, ?_⟩) (hHeld (by decide)) ?_
              rotate_left
              · (intro w hSw; (try dsimp only at hSw); go_simp); try with_reducible rfl
              simp only [Act.put, List.setIfInBounds_toArray, List.set_cons_zero, List.set_cons_succ, List.getElem_toArray, List.getElem_cons_succ, List.getElem_cons_zero]
              refine wpAnyZ_take (i := 11) (oi := _) (v := ?_) rfl (by kernel_rfl) (by kernel_rfl) (by kernel_rfl) (by kernel_rfl) (fun _ _ _ h => h) (Or.inl ⟨by kernel_rfl, ?_⟩) (hHeld (by decide)) ?_
              rotate_left
              · (intro w hSw; (try dsimp only at hSw); go_simp); try with_reducible rfl
              simp only [Act.put, List.setIfInBounds_toArray, List.set_cons_zero, List.set_cons_succ, List.getElem_toArray, List.getElem_cons_succ, List.getElem_cons_zero]
              refine wpAnyZ_take (i := 12) (oi := _) (v := ?_) rfl (by kernel_rfl) (by kernel_rfl) (by kernel_rfl) (by kernel_rfl) (fun _ _ _ h => h) (Or.inl ⟨by kernel_rfl, ?_⟩) (hHeld (by decide)) ?_
              rotate_left
              · (intro w hSw; (try dsimp only at hSw); go_simp); try with_reducible rfl
              simp only [Act.put, List.setIfInBounds_toArray, List.set_cons_zero, List.set_cons_succ, List.getElem_toArray, List.getElem_cons_succ, List.getElem_cons_zero]
              refine wpAnyZ_take (i := 13) (oi := _) (v := ?_) rfl (by kernel_rfl) (by kernel_rfl) (by kernel_rfl) (by kernel_rfl) (fun _ _ _ h => h) (Or.inl ⟨by kernel_rfl, ?_⟩) (hHeld (by decide)) ?_
              rotate_left
              · (intro w hSw; (try dsimp only at hSw); go_simp); try with_reducible rfl
              simp only [Act.put, List.setIfInBounds_toArray, List.set_cons_zero, List.set_cons_succ, List.getElem_toArray, List.getElem_cons_succ, List.getElem_cons_zero]
              refine wpAnyZ_take (i := 14) (oi := _) (v := ?_) rfl (by kernel_rfl) (by kernel_rfl) (by kernel_rfl) (by kernel_rfl) (fun _ _ _ h => h) (Or.inl ⟨by kernel_rfl, ?_⟩) (hHeld (by decide)) ?_
              rotate_left
              · (intro w hSw; (try dsimp only at hSw); go_simp); try with_reducible rfl
              simp only [Act.put, List.setIfInBounds_toArray, List.set_cons_zero, List.set_cons_succ, List.getElem_toArray, List.getElem_cons_succ, List.getElem_cons_zero]
              refine wpAnyZ_take (i := 15) (oi := _) (v := ?_) rfl (by kernel_rfl) (by kernel_rfl) (by kernel_rfl) (by kernel_rfl) (fun _ _ _ h => h) (Or.inl ⟨by kernel_rfl, ?_⟩) (hHeld (by decide)) ?_
              rotate_left
              · (intro w hSw; (try dsimp only at hSw); go_simp); try with_reducible rfl
              simp only [Act.put, List.setIfInBounds_toArray, List.set_cons_zero, List.set_cons_succ, List.getElem_toArray, List.getElem_cons_succ, List.getElem_cons_zero]
              refine wpAnyZ_take (i := 16) (oi := _) (v := ?_) rfl (by kernel_rfl) (by kernel_rfl) (by kernel_rfl) (by kernel_rfl) (fun _ _ _ h => h) (Or.inl ⟨by kernel_rfl, ?_⟩) (hHeld (by decide)) ?_
              rotate_left
              · (intro w hSw; (try dsimp only at hSw); go_simp); try with_reducible rfl
              simp only [Act.put, List.setIfInBounds_toArray, List.set_cons_zero, List.set_cons_succ, List.getElem_toArray, List.getElem_cons_succ, List.getElem_cons_zero]
              refine wpAnyZ_take (i := 17) (oi := _) (v := ?_) rfl (by kernel_rfl) (by kernel_rfl) (by kernel_rfl) (by kernel_rfl) (fun _ _ _ h => h) (Or.inl ⟨by kernel_rfl, ?_⟩) (hHeld (by decide)) ?_
              rotate_left
              · (intro w hSw; (try dsimp only at hSw); go_simp); try with_reducible rfl
              simp only [Act.put, List.setIfInBounds_toArray, List.set_cons_zero, List.set_cons_succ, List.getElem_toArray, List.getElem_cons_succ, List.getElem_cons_zero]
              refine wpAnyZ_take (i := 18) (oi := _) (v := ?_) rfl (by kernel_rfl) (by kernel_rfl) (by kernel_rfl) (by kernel_rfl) (fun _ _ _ h => h) (Or.inl ⟨by kernel_rfl, ?_⟩) (hHeld (by decide)) ?_
              rotate_left
              · (intro w hSw; (try dsimp only at hSw); go_simp); try with_reducible rfl
              simp only [Act.put, List.setIfInBounds_toArray, List.set_cons_zero, List.set_cons_succ, List.getElem_toArray, List.getElem_cons_succ, List.getElem_cons_zero]
              refine wpAnyZ_take (i := 19) (oi := _) (v := ?_) rfl (by kernel_rfl) (by kernel_rfl) (by kernel_rfl) (by kernel_rfl) (fun _ _ _ h => h) (Or.inl ⟨by kernel_rfl, ?_⟩) (hHeld (by decide)) ?_
              rotate_left
              · (intro w hSw; (try dsimp only at hSw); go_simp); try with_reducible rfl
              simp only [Act.put, List.setIfInBounds_toArray, List.set_cons_zero, List.set_cons_succ, List.getElem_toArray, List.getElem_cons_succ, List.getElem_cons_zero]
              refine wpAnyZ_take (i := 20) (oi := _) (v := ?_) rfl (by kernel_rfl) (by kernel_rfl) (by kernel_rfl) (by kernel_rfl) (fun _ _ _ h => h) (Or.inl ⟨by kernel_rfl, ?_⟩) (hHeld (by decide)) ?_
              rotate_left
              · (intro w hSw; (try dsimp only at hSw); go_simp); try with_reducible rfl
              simp only [Act.put, List.setIfInBounds_toArray, List.set_cons_zero, List.set_cons_succ, List.getElem_toArray, List.getElem_cons_succ, List.getElem_cons_zero]
              refine wpAnyZ_take (i := 21) (oi := _) (v := ?_) rfl (by kernel_rfl) (by kernel_rfl) (by kernel_rfl) (by kernel_rfl) (fun _ _ _ h => h) (Or.inl ⟨by kernel_rfl, ?_⟩) (hHeld (by decide)) ?_
              rotate_left
              · (intro w hSw; (try dsimp only at hSw); go_simp); try with_reducible rfl
              simp only [Act.put, List.setIfInBounds_toArray, List.set_cons_zero, List.set_cons_succ, List.getElem_toArray, List.getElem_cons_succ, List.getElem_cons_zero]
              refine wpAnyZ_take (i := 22) (oi := _) (v := ?_) rfl (by kernel_rfl) (by kernel_rfl) (by kernel_rfl) (by kernel_rfl) (fun _ _ _ h => h) (Or.inl ⟨by kernel_rfl, ?_⟩) (hHeld (by decide)) ?_
              rotate_left
              · (intro w hSw; (try dsimp only at hSw); go_simp); try with_reducible rfl
              simp only [Act.put, List.setIfInBounds_toArray, List.set_cons_zero, List.set_cons_succ, List.getElem_toArray, List.getElem_cons_succ, List.getElem_cons_zero]
              refine wpAnyZ_take (i := 23) (oi := _) (v := ?_) rfl (by kernel_rfl) (by kernel_rfl) (by kernel_rfl) (by kernel_rfl) (fun _ _ _ h => h) (Or.inl ⟨by kernel_rfl, ?_⟩) (hHeld (by decide)) ?_
              rotate_left
              · (intro w hSw; (try dsimp only at hSw); go_simp); try with_reducible rfl
              simp only [Act.put, List.setIfInBounds_toArray, List.set_cons_zero, List.set_cons_succ, List.getElem_toArray, List.getElem_cons_succ, List.getElem_cons_zero]
              refine wpAnyZ_take (i := 24) (oi := _) (v := ?_) rfl (by kernel_rfl) (by kernel_rfl) (by kernel_rfl) (by kernel_rfl) (fun _ _ _ h => h) (Or.inl ⟨by kernel_rfl, ?_⟩) (hHeld (by decide)) ?_
              rotate_left
              · (intro w hSw; (try dsimp only at hSw); go_simp); try with_reducible rfl
              simp only [Act.put, List.setIfInBounds_toArray, List.set_cons_zero, List.set_cons_succ, List.getElem_toArray, List.getElem_cons_succ, List.getElem_cons_zero]
              refine wpAnyZ_done (by kernel_rfl) ?_ _
              refine NoPanic.normal ?_
              have hMw2 : MapAt Tryz.prog 9 w2 w.heap.size ((j + 1)) (knownF (l.take ((j + 1)))) := hM.fr (hFc.trans0 hF2') (by simp)
              obtain ⟨w3, hput, hM3, hF3⟩ := hMw2.put u_string u_known (by omega) ph (by simp only [maxLen]; omega) (.int .i64 1)
              have htk : l.take ((j + 1)) ++ [⟨ph, idn⟩] = l.take ((j + 1) + 1) := by rw [show l.take ((j + 1) + 1) = l.take ((j + 1)) ++ l[(j + 1)]?.toList from List.take_add_one, HG.out]; rfl
              have hkp : upd (knownF (l.take ((j + 1)))) ph (some (.int .i64 1)) = knownF (l.take ((j + 1) + 1)) := by rw [← htk]; exact knownF_put (l.take ((j + 1))) ⟨ph, idn⟩
              rw [hkp] at hM3
              have hwl : w.heap.size < wr.heap.size := by have := hF.size; omega
              have zz3 := hF3.cell (hF2'.cell nz (by simp)) (by simp; omega)
              have hFr3 : Fr [w.heap.size] wr w3 := ((hFc.trans0 hF2').weaken (by simp)).trans hF3 (by simp)
              have hus := u_string
              have zp := mk_size ph
              clear hkp htk nz n1 hWc
              go_wp2_with fail
              go_loopw [] (fun wr2 => ∃ pos : Nat, wr2 = w3.iter (mk ph) pos ∧ pos ≤ ph.length ∧ Hid (∀ i, i < pos → ph[i]? = some 47 → ∀ g ∈ l.take ((j + 1) + 1), g.path ≠ ph.take i)) (fun wr2 => ph.length - wr2.iterPos w3.heap.size)
              case atStart => exact ⟨0, rfl, by omega, fun i hi => absurd hi (by omega)⟩
              case round =>
                obtain ⟨pos, rfl, hpl, hin⟩ := hrel
                have hFi : Fr [] w3 (w3.iter (mk ph) pos) := (Fr.refl _ _).alloc _
                have hwi : Fr [] w (w3.iter (mk ph) pos) := Fr.of_below (((hFw.weaken (by simp)).trans hFr3 (by simp) : Fr [w.heap.size] w w3).trans0 hFi |>.belowAt (by simp) (Nat.le_refl _))
                by_cases hpos : pos < ph.length
                · have hp2 : pos < (mk ph).size := by omega
                  have hnx := fun ty => run_next_any (P := Tryz.prog) w3 (mk ph) pos ty hp2
                  obtain ⟨d1, d2, d3⟩ := dec_slash (mk ph) pos hp2
                  obtain ⟨dc, hdc⟩ : ∃ dc, Utf8.decode (mk ph) pos = dc := ⟨_, rfl⟩
                  rw [hdc] at d1 d2 d3
                  simp only [hdc] at hnx
                  obtain ⟨ch, wd⟩ := dc
                  have D2 := Lib.hid d2
                  have D3 := Lib.hid d3
                  simp only at d1 hnx
                  have hget : ∀ i, i < ph.length → ((mk ph).get! i).toNat = (ph.getD i 0).toNat := fun i hi => by
                    simp [ByteArray.get!, mk, hi]
                  have HGET := Lib.hid hget
                  have hwb : pos + wd ≤ ph.length := by
                    rcases Nat.lt_or_ge 1 wd with h1 | h1
                    · have := (D3.out (pos + wd - 1) (by omega) (by show pos + wd - 1 < pos + wd; omega)).1
                      omega
                    · omega
                  have hskip : Hid (∀ i, pos < i → i < pos + wd → ph[i]? ≠ some 47) := fun i h1 h2 h3 => by
                    obtain ⟨h4, h5⟩ := D3.out i h1 h2
                    obtain ⟨h6, h7⟩ := List.getElem?_eq_some_iff.1 h3
                    rw [HGET.out i h6, List.getD_eq_getElem?_getD, h3] at h5
                    exact h5 rfl
                  have hFi2 : Fr [] w3 (w3.iter (mk ph) (pos + wd)) := (Fr.refl _ _).alloc _
                  have zz4 := hFi2.cell zz3 (by simp)
                  have hwi2 : Fr [] w (w3.iter (mk ph) (pos + wd)) := Fr.of_below (((hFw.weaken (by simp)).trans hFr3 (by simp) : Fr [w.heap.size] w w3).trans0 hFi2 |>.belowAt (by simp) (Nat.le_refl _))
                  clear d2 d3 hget hdc
                  by_cases h47 : ch = 47
                  · subst h47
                    have hph : ph[pos]? = some 47 := by
                      have := D2.out.1 rfl
                      rw [HGET.out pos hpos, List.getD_eq_getElem?_getD, List.getElem?_eq_getElem hpos] at this
                      rw [List.getElem?_eq_getElem hpos]
                      exact congrArg some (UInt8.toNat_inj.1 this)
                    have HPH := Lib.hid hph
                    have hex : (mk ph).extract 0 pos = mk (ph.take pos) := by
                      rw [← mk_bl ((mk ph).extract 0 pos)]
                      simp [bl, mk]
                    have ip : (pos : Int) ≤ ph.length := by omega
                    have hlk := fun W (hW : Fr [] w3 W) => (hM3.fr hW (by simp)).get u_string u_known z_int (ph.take pos) (by simp only [maxLen, List.length_take]; omega)
                    have hlk1 := hlk _ hFi2
                    by_cases hkn : (l.take ((j + 1) + 1)).map Fl.path |>.contains (ph.take pos)
                    · have hkf : knownF (l.take ((j + 1) + 1)) (ph.take pos) = some (.int .i64 1) := by unfold knownF; rw [if_pos hkn]
                      rw [hkf] at hlk1
                      have hno := HBD.out (fun h => by
                        obtain ⟨q, hq1, hq2⟩ := List.mem_map.1 (List.contains_iff_mem.1 hkn)
                        exact h.2.2.2 pos HPH.out q hq1 hq2)
                      have HNO := Lib.hid hno
                      clear hno hkn hkf hlk hph
                      go_wp2_with fail
                      go_ret
                      exact ⟨1, rfl, .inr ⟨rfl, HNO.out⟩, hwi2⟩
                    · have hkf : knownF (l.take ((j + 1) + 1)) (ph.take pos) = none := by unfold knownF; rw [if_neg hkn]
                      rw [hkf] at hlk1
                      have hnk : Hid (∀ g ∈ l.take ((j + 1) + 1), g.path ≠ ph.take pos) := fun q hq e => hkn (List.contains_iff_mem.2 (List.mem_map.2 ⟨q, hq, e⟩))
                      clear hkn hkf hlk hph
                      go_wp2_with fail
                      refine ⟨⟨pos + wd, rfl, hwb, fun i hi h3 => ?_⟩, by simp only [World.iterPos_iter]; omega⟩
                      rcases Nat.lt_trichotomy i pos with h4 | rfl | h4
                      · exact hin.out i h4 h3
                      · exact hnk.out
                      · exact absurd h3 (hskip.out i h4 hi)
                  · have h47b : ((ch : Int) == 47) = false := by rw [beq_eq_false_iff_ne]; omega
                    have HN47 := Lib.hid h47
                    clear h47
                    go_wp2_with fail
                    refine ⟨⟨pos + wd, rfl, hwb, fun i hi h3 => ?_⟩, by simp only [World.iterPos_iter]; omega⟩
                    rcases Nat.lt_trichotomy i pos with h4 | rfl | h4
                    · exact hin.out i h4 h3
                    · refine absurd (D2.out.2 ?_) HN47.out
                      rw [HGET.out i hpos, List.getD_eq_getElem?_getD, h3]
                      rfl
                    · exact absurd h3 (hskip.out i h4 hi)
                · obtain rfl : pos = ph.length := by omega
                  have hnx := fun ty => run_next_end (P := Tryz.prog) w3 (mk ph) ph.length ty (by omega)
                  have hone : chkOne l ((j + 1)) ⟨ph, idn⟩ := ⟨hnm, h32, HORD.out, fun i h3 => hin.out i (List.getElem?_eq_some_iff.1 h3).1 h3⟩
                  have HONE := Lib.hid hone
                  have HALL := Lib.hid (fun (q : Nat) (f : Fl) (hq : q < (j + 1) + 1) (hf : l[q]? = some f) => (show chkOne l q f from by
                    rcases Nat.lt_or_ge q ((j + 1)) with h4 | h4
                    · exact hall.out q f h4 hf
                    · obtain rfl : q = (j + 1) := by omega
                      rw [HG.out] at hf
                      obtain rfl : (⟨ph, idn⟩ : Fl) = f := by simpa using hf
                      exact HONE.out))
                  clear hone
                  go_wp2_with fail
                  exact ⟨⟨(j + 1) + 1, by simp, by omega, hM3.fr hFi (by simp), ((hF.trans hFr3 (by simp))).trans0 hFi, HALL.out⟩, by simp [intOf]; omega⟩
            · have hbl : Op.bytesLess pp ph = false := by rw [bytesLess_lt]; simpa using hlo
              go_wp2_with fail
              refine wp_region_noPanic ?_
              refine wp_region_Z (fun w' : World => w'.cell? ⟨wr.heap.size, 0, none⟩ = some (.string (mk ph)) ∧ w'.cell? ⟨wr.heap.size, 1, none⟩ = some (.string (mk idn)) ∧ w'.cell? ⟨g, o + j * 2, none⟩ = some (.string (mk pp))) 99 (by kernel_rfl) ?_
              have hS : (fun w' : World => w'.cell? ⟨wr.heap.size, 0, none⟩ = some (.string (mk ph)) ∧ w'.cell? ⟨wr.heap.size, 1, none⟩ = some (.string (mk idn)) ∧ w'.cell? ⟨g, o + j * 2, none⟩ = some (.string (mk pp))) WC.drew := ⟨nz, n1, yc⟩
              refine wpAnyZ_take (i := 0) (oi := _) (v := ?_) rfl (by kernel_rfl) (by kernel_rfl) (by kernel_rfl) (by kernel_rfl) (fun _ _ _ h => h) (Or.inl ⟨by kernel_rfl, ?_⟩) hS ?_
              rotate_left
              · (intro w hSw; (try dsimp only at hSw); go_simp); try with_reducible rfl
              simp only [Act.put, List.setIfInBounds_toArray, List.set_cons_zero, List.set_cons_succ, List.getElem_toArray, List.getElem_cons_succ, List.getElem_cons_zero]
              refine wpAnyZ_take (i := 1) (oi := _) (v := ?_) rfl (by kernel_rfl) (by kernel_rfl) (by kernel_rfl) (by kernel_rfl) (fun _ _ _ h => h) (Or.inl ⟨by kernel_rfl, ?_⟩) hS ?_
              rotate_left
              · (intro w hSw; (try dsimp only at hSw); go_simp); try with_reducible rfl
              simp only [Act.put, List.setIfInBounds_toArray, List.set_cons_zero, List.set_cons_succ, List.getElem_toArray, List.getElem_cons_succ, List.getElem_cons_zero]
              refine wpAnyZ_one (i := 2) (by kernel_rfl) rfl (fun K hK => ?_)
              go_simp
              go_at_call 26
              refine (HN.out _ ((Fr.refl _ _).drew)).mono ?_
              rintro e w2 ⟨rfl, hF2⟩
              have hF2' : Fr [] WC w2 := hF2.of_drew
              clear HN
              refine hK.out _ _ (fun _ => ⟨hF2'.cell nz (by simp), hF2'.cell n1 (by simp), hF2'.cell yc (by simp)⟩) (fun hHeld => ?_)
              clear hK K
              try simp only [Act.put, List.setIfInBounds_toArray, List.set_cons_zero, List.set_cons_succ, List.getElem_toArray, List.getElem_cons_succ, List.getElem_cons_zero]
              refine wpAnyZ_take (i := 3) (oi := _) (v := ?_) rfl (by kernel_rfl) (by kernel_rfl) (by kernel_rfl) (by kernel_rfl) (fun _ _ _ h => h) (Or.inl ⟨by kernel_rfl, ?_⟩) (hHeld (by decide)) ?_
              rotate_left
              · (intro w hSw; (try dsimp only at hSw); go_simp); try with_reducible rfl
              simp only [Act.put, List.setIfInBounds_toArray, List.set_cons_zero, List.set_cons_succ, List.getElem_toArray, List.getElem_cons_succ, List.getElem_cons_zero]
              refine wpAnyZ_take (i := 4) (oi := _) (v := ?_) rfl (by kernel_rfl) (by kernel_rfl) (by kernel_rfl) (by kernel_rfl) (fun _ _ _ h => h) (Or.inl ⟨by kernel_rfl, ?_⟩) (hHeld (by decide)) ?_
              rotate_left
              · (intro w hSw; (try dsimp only at hSw); go_simp); try with_reducible rfl
              simp only [Act.put, List.setIfInBounds_toArray, List.set_cons_zero, List.set_cons_succ, List.getElem_toArray, List.getElem_cons_succ, List.getElem_cons_zero]
              refine wpAnyZ_take (i := 5) (oi := _) (v := ?_) rfl (by kernel_rfl) (by kernel_rfl) (by kernel_rfl) (by kernel_rfl) (fun _ _ _ h => h) (Or.inl ⟨by kernel_rfl, ?_⟩) (hHeld (by decide)) ?_
              rotate_left
              · (intro w hSw; (try dsimp only at hSw); go_simp); try with_reducible rfl
              simp only [Act.put, List.setIfInBounds_toArray, List.set_cons_zero, List.set_cons_succ, List.getElem_toArray, List.getElem_cons_succ, List.getElem_cons_zero]
              refine wpAnyZ_take (i := 6) (oi := _) (v := ?_) rfl (by kernel_rfl) (by kernel_rfl) (by kernel_rfl) (by kernel_rfl) (fun _ _ _ h => h) (Or.inl ⟨by kernel_rfl, ?_⟩) (hHeld (by decide)) ?_
              rotate_left
              · (intro w hSw; (try dsimp only at hSw); go_simp); try with_reducible rfl
              simp only [Act.put, List.setIfInBounds_toArray, List.set_cons_zero, List.set_cons_succ, List.getElem_toArray, List.getElem_cons_succ, List.getElem_cons_zero]
              refine wpAnyZ_take (i := 7) (oi := _) (v := ?_) rfl (by kernel_rfl) (by kernel_rfl) (by kernel_rfl) (by kernel_rfl) (fun _ _ _ h => h) (Or.inl ⟨by kernel_rfl, ?_⟩) (hHeld (by decide)) ?_
              rotate_left
              · (intro w hSw; (try dsimp only at hSw); go_simp); try with_reducible rfl
              simp only [Act.put, List.setIfInBounds_toArray, List.set_cons_zero, List.set_cons_succ, List.getElem_toArray, List.getElem_cons_succ, List.getElem_cons_zero]
              refine wpAnyZ_take (i := 8) (oi := _) (v := ?_) rfl (by kernel_rfl) (by kernel_rfl) (by kernel_rfl) (by kernel_rfl) (fun _ _ _ h => h) (Or.inl ⟨by kernel_rfl, ?_⟩) (hHeld (by decide)) ?_
              rotate_left
              · (intro w hSw; (try dsimp only at hSw); go_simp); try with_reducible rfl
              simp only [Act.put, List.setIfInBounds_toArray, List.set_cons_zero, List.set_cons_succ, List.getElem_toArray, List.getElem_cons_succ, List.getElem_cons_zero]
              refine wpAnyZ_take (i := 9) (oi := _) (v := ?_) rfl (by kernel_rfl) (by kernel_rfl) (by kernel_rfl) (by kernel_rfl) (fun _ _ _ h => h) (Or.inl ⟨by kernel_rfl, ?_⟩) (hHeld (by decide)) ?_
              rotate_left
              · (intro w hSw; (try dsimp only at hSw); go_simp); try with_reducible rfl
              simp only [Act.put, List.setIfInBounds_toArray, List.set_cons_zero, List.set_cons_succ, List.getElem_toArray, List.getElem_cons_succ, List.getElem_cons_zero]
              refine wpAnyZ_take (i := 10) (oi := _) (v := ?_) rfl (by kernel_rfl) (by kernel_rfl) (by kernel_rfl) (by kernel_rfl) (fun _ _ _ h => h) (Or.inl ⟨by kernel_rfl, ?_⟩) (hHeld (by decide)) ?_
              rotate_left
              · (intro w hSw; (try dsimp only at hSw); go_simp); try with_reducible rfl
              simp only [Act.put, List.setIfInBounds_toArray, List.set_cons_zero, List.set_cons_succ, List.getElem_toArray, List.getElem_cons_succ, List.getElem_cons_zero]
              refine wpAnyZ_take (i := 11) (oi := _) (v := ?_) rfl (by kernel_rfl) (by kernel_rfl) (by kernel_rfl) (by kernel_rfl) (fun _ _ _ h => h) (Or.inl ⟨by kernel_rfl, ?_⟩) (hHeld (by decide)) ?_
              rotate_left
              · (intro w hSw; (try dsimp only at hSw); go_simp); try with_reducible rfl
              simp only [Act.put, List.setIfInBounds_toArray, List.set_cons_zero, List.set_cons_succ, List.getElem_toArray, List.getElem_cons_succ, List.getElem_cons_zero]
              refine wpAnyZ_take (i := 12) (oi := _) (v := ?_) rfl (by kernel_rfl) (by kernel_rfl) (by kernel_rfl) (by kernel_rfl) (fun _ _ _ h => h) (Or.inl ⟨by kernel_rfl, ?_⟩) (hHeld (by decide)) ?_
              rotate_left
              · (intro w hSw; (try dsimp only at hSw); go_simp); try with_reducible rfl
              simp only [Act.put, List.setIfInBounds_toArray, List.set_cons_zero, List.set_cons_succ, List.getElem_toArray, List.getElem_cons_succ, List.getElem_cons_zero]
              refine wpAnyZ_take (i := 13) (oi := _) (v := ?_) rfl (by kernel_rfl) (by kernel_rfl) (by kernel_rfl) (by kernel_rfl) (fun _ _ _ h => h) (Or.inl ⟨by kernel_rfl, ?_⟩) (hHeld (by decide)) ?_
              rotate_left
              · (intro w hSw; (try dsimp only at hSw); go_simp); try with_reducible rfl
              simp only [Act.put, List.setIfInBounds_toArray, List.set_cons_zero, List.set_cons_succ, List.getElem_toArray, List.getElem_cons_succ, List.getElem_cons_zero]
              refine wpAnyZ_take (i := 14) (oi := _) (v := ?_) rfl (by kernel_rfl) (by kernel_rfl) (by kernel_rfl) (by kernel_rfl) (fun _ _ _ h => h) (Or.inl ⟨by kernel_rfl, ?_⟩) (hHeld (by decide)) ?_
              rotate_left
              · (intro w hSw; (try dsimp only at hSw); go_simp); try with_reducible rfl
              simp only [Act.put, List.setIfInBounds_toArray, List.set_cons_zero, List.set_cons_succ, List.getElem_toArray, List.getElem_cons_succ, List.getElem_cons_zero]
              refine wpAnyZ_take (i := 15) (oi := _) (v := ?_) rfl (by kernel_rfl) (by kernel_rfl) (by kernel_rfl) (by kernel_rfl) (fun _ _ _ h => h) (Or.inl ⟨by kernel_rfl, ?_⟩) (hHeld (by decide)) ?_
              rotate_left
              · (intro w hSw; (try dsimp only at hSw); go_simp); try with_reducible rfl
              simp only [Act.put, List.setIfInBounds_toArray, List.set_cons_zero, List.set_cons_succ, List.getElem_toArray, List.getElem_cons_succ, List.getElem_cons_zero]
              refine wpAnyZ_take (i := 16) (oi := _) (v := ?_) rfl (by kernel_rfl) (by kernel_rfl) (by kernel_rfl) (by kernel_rfl) (fun _ _ _ h => h) (Or.inl ⟨by kernel_rfl, ?_⟩) (hHeld (by decide)) ?_
              rotate_left
              · (intro w hSw; (try dsimp only at hSw); go_simp); try with_reducible rfl
              simp only [Act.put, List.setIfInBounds_toArray, List.set_cons_zero, List.set_cons_succ, List.getElem_toArray, List.getElem_cons_succ, List.getElem_cons_zero]
              refine wpAnyZ_take (i := 17) (oi := _) (v := ?_) rfl (by kernel_rfl) (by kernel_rfl) (by kernel_rfl) (by kernel_rfl) (fun _ _ _ h => h) (Or.inl ⟨by kernel_rfl, ?_⟩) (hHeld (by decide)) ?_
              rotate_left
              · (intro w hSw; (try dsimp only at hSw); go_simp); try with_reducible rfl
              simp only [Act.put, List.setIfInBounds_toArray, List.set_cons_zero, List.set_cons_succ, List.getElem_toArray, List.getElem_cons_succ, List.getElem_cons_zero]
              refine wpAnyZ_take (i := 18) (oi := _) (v := ?_) rfl (by kernel_rfl) (by kernel_rfl) (by kernel_rfl) (by kernel_rfl) (fun _ _ _ h => h) (Or.inl ⟨by kernel_rfl, ?_⟩) (hHeld (by decide)) ?_
              rotate_left
              · (intro w hSw; (try dsimp only at hSw); go_simp); try with_reducible rfl
              simp only [Act.put, List.setIfInBounds_toArray, List.set_cons_zero, List.set_cons_succ, List.getElem_toArray, List.getElem_cons_succ, List.getElem_cons_zero]
              refine wpAnyZ_take (i := 19) (oi := _) (v := ?_) rfl (by kernel_rfl) (by kernel_rfl) (by kernel_rfl) (by kernel_rfl) (fun _ _ _ h => h) (Or.inl ⟨by kernel_rfl, ?_⟩) (hHeld (by decide)) ?_
              rotate_left
              · (intro w hSw; (try dsimp only at hSw); go_simp); try with_reducible rfl
              simp only [Act.put, List.setIfInBounds_toArray, List.set_cons_zero, List.set_cons_succ, List.getElem_toArray, List.getElem_cons_succ, List.getElem_cons_zero]
              refine wpAnyZ_take (i := 20) (oi := _) (v := ?_) rfl (by kernel_rfl) (by kernel_rfl) (by kernel_rfl) (by kernel_rfl) (fun _ _ _ h => h) (Or.inl ⟨by kernel_rfl, ?_⟩) (hHeld (by decide)) ?_
              rotate_left
              · (intro w hSw; (try dsimp only at hSw); go_simp); try with_reducible rfl
              simp only [Act.put, List.setIfInBounds_toArray, List.set_cons_zero, List.set_cons_succ, List.getElem_toArray, List.getElem_cons_succ, List.getElem_cons_zero]
              refine wpAnyZ_take (i := 21) (oi := _) (v := ?_) rfl (by kernel_rfl) (by kernel_rfl) (by kernel_rfl) (by kernel_rfl) (fun _ _ _ h => h) (Or.inl ⟨by kernel_rfl, ?_⟩) (hHeld (by decide)) ?_
              rotate_left
              · (intro w hSw; (try dsimp only at hSw); go_simp); try with_reducible rfl
              simp only [Act.put, List.setIfInBounds_toArray, List.set_cons_zero, List.set_cons_succ, List.getElem_toArray, List.getElem_cons_succ, List.getElem_cons_zero]
              refine wpAnyZ_take (i := 22) (oi := _) (v := ?_) rfl (by kernel_rfl) (by kernel_rfl) (by kernel_rfl) (by kernel_rfl) (fun _ _ _ h => h) (Or.inl ⟨by kernel_rfl, ?_⟩) (hHeld (by decide)) ?_
              rotate_left
              · (intro w hSw; (try dsimp only at hSw); go_simp); try with_reducible rfl
              simp only [Act.put, List.setIfInBounds_toArray, List.set_cons_zero, List.set_cons_succ, List.getElem_toArray, List.getElem_cons_succ, List.getElem_cons_zero]
              refine wpAnyZ_take (i := 23) (oi := _) (v := ?_) rfl (by kernel_rfl) (by kernel_rfl) (by kernel_rfl) (by kernel_rfl) (fun _ _ _ h => h) (Or.inl ⟨by kernel_rfl, ?_⟩) (hHeld (by decide)) ?_
              rotate_left
              · (intro w hSw; (try dsimp only at hSw); go_simp); try with_reducible rfl
              simp only [Act.put, List.setIfInBounds_toArray, List.set_cons_zero, List.set_cons_succ, List.getElem_toArray, List.getElem_cons_succ, List.getElem_cons_zero]
              refine wpAnyZ_take (i := 24) (oi := _) (v := ?_) rfl (by kernel_rfl) (by kernel_rfl) (by kernel_rfl) (by kernel_rfl) (fun _ _ _ h => h) (Or.inl ⟨by kernel_rfl, ?_⟩) (hHeld (by decide)) ?_
              rotate_left
              · (intro w hSw; (try dsimp only at hSw); go_simp); try with_reducible rfl
              simp only [Act.put, List.setIfInBounds_toArray, List.set_cons_zero, List.set_cons_succ, List.getElem_toArray, List.getElem_cons_succ, List.getElem_cons_zero]
              refine wpAnyZ_done (by kernel_rfl) ?_ _
              refine NoPanic.normal ?_
              have hno := HBD.out (fun h => hlo (h.2.2.1 ⟨pp, pid⟩ (by omega) (by simpa using HG'.out)))
              have HNO := Lib.hid hno
              clear hno
              go_wp2_with fail
              go_ret
              exact ⟨1, rfl, .inr ⟨rfl, HNO.out⟩, (hFw.trans0 hFc).trans0 hF2'⟩
        · have e32 : ((idn.length : Int) == 32) = false := by rw [beq_eq_false_iff_ne]; omega
          have e32n : ((idn.length : Int) != 32) = true := by rw [bne, e32]; rfl
          have hno := hbad (fun h => h32 h.2.1)
          have HNO := Lib.hid hno
          clear hno hbad
          go_wp2_with fail
          refine wp_region_noPanic ?_
          refine wp_region_Z (fun w' : World => w'.cell? ⟨wr.heap.size, 0, none⟩ = some (.string (mk ph)) ∧ w'.cell? ⟨wr.heap.size, 1, none⟩ = some (.string (mk idn))) 99 (by kernel_rfl) ?_
          have hS : (fun w' : World => w'.cell? ⟨wr.heap.size, 0, none⟩ = some (.string (mk ph)) ∧ w'.cell? ⟨wr.heap.size, 1, none⟩ = some (.string (mk idn))) WC.drew := ⟨nz, n1⟩
          refine wpAnyZ_take (i := 0) (oi := _) (v := ?_) rfl (by kernel_rfl) (by kernel_rfl) (by kernel_rfl) (by kernel_rfl) (fun _ _ _ h => h) (Or.inl ⟨by kernel_rfl, ?_⟩) hS ?_
          rotate_left
          · (intro w hSw; (try dsimp only at hSw); go_simp); try with_reducible rfl
          simp only [Act.put, List.setIfInBounds_toArray, List.set_cons_zero, List.set_cons_succ, List.getElem_toArray, List.getElem_cons_succ, List.getElem_cons_zero]
          refine wpAnyZ_take (i := 1) (oi := _) (v := ?_) rfl (by kernel_rfl) (by kernel_rfl) (by kernel_rfl) (by kernel_rfl) (fun _ _ _ h => h) (Or.inl ⟨by kernel_rfl, ?_⟩) hS ?_
          rotate_left
          · (intro w hSw; (try dsimp only at hSw); go_simp); try with_reducible rfl
          simp only [Act.put, List.setIfInBounds_toArray, List.set_cons_zero, List.set_cons_succ, List.getElem_toArray, List.getElem_cons_succ, List.getElem_cons_zero]
          refine wpAnyZ_one (i := 2) (by kernel_rfl) rfl (fun K hK => ?_)
          go_simp
          go_at_call 26
          refine (HN.out _ ((Fr.refl _ _).drew)).mono ?_
          rintro e w2 ⟨rfl, hF2⟩
          have hF2' : Fr [] WC w2 := hF2.of_drew
          clear HN
          refine hK.out _ _ (fun _ => ⟨hF2'.cell nz (by simp), hF2'.cell n1 (by simp)⟩) (fun hHeld => ?_)
          clear hK K
          try simp only [Act.put, List.setIfInBounds_toArray, List.set_cons_zero, List.set_cons_succ, List.getElem_toArray, List.getElem_cons_succ, List.getElem_cons_zero]
          refine wpAnyZ_take (i := 3) (oi := _) (v := ?_) rfl (by kernel_rfl) (by kernel_rfl) (by kernel_rfl) (by kernel_rfl) (fun _ _ _ h => h) (Or.inl ⟨by kernel_rfl, ?_⟩) (hHeld (by decide)) ?_
          rotate_left
          · (intro w hSw; (try dsimp only at hSw); go_simp); try with_reducible rfl
          simp only [Act.put, List.setIfInBounds_toArray, List.set_cons_zero, List.set_cons_succ, List.getElem_toArray, List.getElem_cons_succ, List.getElem_cons_zero]
          refine wpAnyZ_take (i := 4) (oi := _) (v := ?_) rfl (by kernel_rfl) (by kernel_rfl) (by kernel_rfl) (by kernel_rfl) (fun _ _ _ h => h) (Or.inl ⟨by kernel_rfl, ?_⟩) (hHeld (by decide)) ?_
          rotate_left
          · (intro w hSw; (try dsimp only at hSw); go_simp); try with_reducible rfl
          simp only [Act.put, List.setIfInBounds_toArray, List.set_cons_zero, List.set_cons_succ, List.getElem_toArray, List.getElem_cons_succ, List.getElem_cons_zero]
          refine wpAnyZ_take (i := 5) (oi := _) (v := ?_) rfl (by kernel_rfl) (by kernel_rfl) (by kernel_rfl) (by kernel_rfl) (fun _ _ _ h => h) (Or.inl ⟨by kernel_rfl, ?_⟩) (hHeld (by decide)) ?_
          rotate_left
          · (intro w hSw; (try dsimp only at hSw); go_simp); try with_reducible rfl
          simp only [Act.put, List.setIfInBounds_toArray, List.set_cons_zero, List.set_cons_succ, List.getElem_toArray, List.getElem_cons_succ, List.getElem_cons_zero]
          refine wpAnyZ_take (i := 6) (oi := _) (v := ?_) rfl (by kernel_rfl) (by kernel_rfl) (by kernel_rfl) (by kernel_rfl) (fun _ _ _ h => h) (Or.inl ⟨by kernel_rfl, ?_⟩) (hHeld (by decide)) ?_
          rotate_left
          · (intro w hSw; (try dsimp only at hSw); go_simp); try with_reducible rfl
          simp only [Act.put, List.setIfInBounds_toArray, List.set_cons_zero, List.set_cons_succ, List.getElem_toArray, List.getElem_cons_succ, List.getElem_cons_zero]
          refine wpAnyZ_take (i := 7) (oi := _) (v := ?_) rfl (by kernel_rfl) (by kernel_rfl) (by kernel_rfl) (by kernel_rfl) (fun _ _ _ h => h) (Or.inl ⟨by kernel_rfl, ?_⟩) (hHeld (by decide)) ?_
          rotate_left
          · (intro w hSw; (try dsimp only at hSw); go_simp); try with_reducible rfl
          simp only [Act.put, List.setIfInBounds_toArray, List.set_cons_zero, List.set_cons_succ, List.getElem_toArray, List.getElem_cons_succ, List.getElem_cons_zero]
          refine wpAnyZ_take (i := 8) (oi := _) (v := ?_) rfl (by kernel_rfl) (by kernel_rfl) (by kernel_rfl) (by kernel_rfl) (fun _ _ _ h => h) (Or.inl ⟨by kernel_rfl, ?_⟩) (hHeld (by decide)) ?_
          rotate_left
          · (intro w hSw; (try dsimp only at hSw); go_simp); try with_reducible rfl
          simp only [Act.put, List.setIfInBounds_toArray, List.set_cons_zero, List.set_cons_succ, List.getElem_toArray, List.getElem_cons_succ, List.getElem_cons_zero]
          refine wpAnyZ_take (i := 9) (oi := _) (v := ?_) rfl (by kernel_rfl) (by kernel_rfl) (by kernel_rfl) (by kernel_rfl) (fun _ _ _ h => h) (Or.inl ⟨by kernel_rfl, ?_⟩) (hHeld (by decide)) ?_
          rotate_left
          · (intro w hSw; (try dsimp only at hSw); go_simp); try with_reducible rfl
          simp only [Act.put, List.setIfInBounds_toArray, List.set_cons_zero, List.set_cons_succ, List.getElem_toArray, List.getElem_cons_succ, List.getElem_cons_zero]
          refine wpAnyZ_take (i := 10) (oi := _) (v := ?_) rfl (by kernel_rfl) (by kernel_rfl) (by kernel_rfl) (by kernel_rfl) (fun _ _ _ h => h) (Or.inl ⟨by kernel_rfl, ?_⟩) (hHeld (by decide)) ?_
          rotate_left
          · (intro w hSw; (try dsimp only at hSw); go_simp); try with_reducible rfl
          simp only [Act.put, List.setIfInBounds_toArray, List.set_cons_zero, List.set_cons_succ, List.getElem_toArray, List.getElem_cons_succ, List.getElem_cons_zero]
          refine wpAnyZ_take (i := 11) (oi := _) (v := undef) rfl (by kernel_rfl) (by kernel_rfl) (by kernel_rfl) (by kernel_rfl) (fun _ _ _ h => h) (Or.inr ⟨by kernel_rfl, rfl⟩) (hHeld (by decide)) ?_
          simp only [Act.put, List.setIfInBounds_toArray, List.set_cons_zero, List.set_cons_succ, List.getElem_toArray, List.getElem_cons_succ, List.getElem_cons_zero]
          refine wpAnyZ_take (i := 12) (oi := _) (v := undef) rfl (by kernel_rfl) (by kernel_rfl) (by kernel_rfl) (by kernel_rfl) (fun _ _ _ h => h) (Or.inr ⟨by kernel_rfl, rfl⟩) (hHeld (by decide)) ?_
          simp only [Act.put, List.setIfInBounds_toArray, List.set_cons_zero, List.set_cons_succ, List.getElem_toArray, List.getElem_cons_succ, List.getElem_cons_zero]
          refine wpAnyZ_take (i := 13) (oi := _) (v := undef) rfl (by kernel_rfl) (by kernel_rfl) (by kernel_rfl) (by kernel_rfl) (fun _ _ _ h => h) (Or.inr ⟨by kernel_rfl, rfl⟩) (hHeld (by decide)) ?_
          simp only [Act.put, List.setIfInBounds_toArray, List.set_cons_zero, List.set_cons_succ, List.getElem_toArray, List.getElem_cons_succ, List.getElem_cons_zero]
          refine wpAnyZ_take (i := 14) (oi := _) (v := undef) rfl (by kernel_rfl) (by kernel_rfl) (by kernel_rfl) (by kernel_rfl) (fun _ _ _ h => h) (Or.inr ⟨by kernel_rfl, rfl⟩) (hHeld (by decide)) ?_
          simp only [Act.put, List.setIfInBounds_toArray, List.set_cons_zero, List.set_cons_succ, List.getElem_toArray, List.getElem_cons_succ, List.getElem_cons_zero]
          refine wpAnyZ_take (i := 15) (oi := _) (v := undef) rfl (by kernel_rfl) (by kernel_rfl) (by kernel_rfl) (by kernel_rfl) (fun _ _ _ h => h) (Or.inr ⟨by kernel_rfl, rfl⟩) (hHeld (by decide)) ?_
          simp only [Act.put, List.setIfInBounds_toArray, List.set_cons_zero, List.set_cons_succ, List.getElem_toArray, List.getElem_cons_succ, List.getElem_cons_zero]
          refine wpAnyZ_take (i := 16) (oi := _) (v := undef) rfl (by kernel_rfl) (by kernel_rfl) (by kernel_rfl) (by kernel_rfl) (fun _ _ _ h => h) (Or.inr ⟨by kernel_rfl, rfl⟩) (hHeld (by decide)) ?_
          simp only [Act.put, List.setIfInBounds_toArray, List.set_cons_zero, List.set_cons_succ, List.getElem_toArray, List.getElem_cons_succ, List.getElem_cons_zero]
          refine wpAnyZ_take (i := 17) (oi := _) (v := undef) rfl (by kernel_rfl) (by kernel_rfl) (by kernel_rfl) (by kernel_rfl) (fun _ _ _ h => h) (Or.inr ⟨by kernel_rfl, rfl⟩) (hHeld (by decide)) ?_
          simp only [Act.put, List.setIfInBounds_toArray, List.set_cons_zero, List.set_cons_succ, List.getElem_toArray, List.getElem_cons_succ, List.getElem_cons_zero]
          refine wpAnyZ_take (i := 18) (oi := _) (v := undef) rfl (by kernel_rfl) (by kernel_rfl) (by kernel_rfl) (by kernel_rfl) (fun _ _ _ h => h) (Or.inr ⟨by kernel_rfl, rfl⟩) (hHeld (by decide)) ?_
          simp only [Act.put, List.setIfInBounds_toArray, List.set_cons_zero, List.set_cons_succ, List.getElem_toArray, List.getElem_cons_succ, List.getElem_cons_zero]
          refine wpAnyZ_take (i := 19) (oi := _) (v := undef) rfl (by kernel_rfl) (by kernel_rfl) (by kernel_rfl) (by kernel_rfl) (fun _ _ _ h => h) (Or.inr ⟨by kernel_rfl, rfl⟩) (hHeld (by decide)) ?_
          simp only [Act.put, List.setIfInBounds_toArray, List.set_cons_zero, List.set_cons_succ, List.getElem_toArray, List.getElem_cons_succ, List.getElem_cons_zero]
          refine wpAnyZ_take (i := 20) (oi := _) (v := undef) rfl (by kernel_rfl) (by kernel_rfl) (by kernel_rfl) (by kernel_rfl) (fun _ _ _ h => h) (Or.inr ⟨by kernel_rfl, rfl⟩) (hHeld (by decide)) ?_
          simp only [Act.put, List.setIfInBounds_toArray, List.set_cons_zero, List.set_cons_succ, List.getElem_toArray, List.getElem_cons_succ, List.getElem_cons_zero]
          refine wpAnyZ_take (i := 21) (oi := _) (v := undef) rfl (by kernel_rfl) (by kernel_rfl) (by kernel_rfl) (by kernel_rfl) (fun _ _ _ h => h) (Or.inr ⟨by kernel_rfl, rfl⟩) (hHeld (by decide)) ?_
          simp only [Act.put, List.setIfInBounds_toArray, List.set_cons_zero, List.set_cons_succ, List.getElem_toArray, List.getElem_cons_succ, List.getElem_cons_zero]
          refine wpAnyZ_take (i := 22) (oi := _) (v := undef) rfl (by kernel_rfl) (by kernel_rfl) (by kernel_rfl) (by kernel_rfl) (fun _ _ _ h => h) (Or.inr ⟨by kernel_rfl, rfl⟩) (hHeld (by decide)) ?_
          simp only [Act.put, List.setIfInBounds_toArray, List.set_cons_zero, List.set_cons_succ, List.getElem_toArray, List.getElem_cons_succ, List.getElem_cons_zero]
          refine wpAnyZ_take (i := 23) (oi := _) (v := undef) rfl (by kernel_rfl) (by kernel_rfl) (by kernel_rfl) (by kernel_rfl) (fun _ _ _ h => h) (Or.inr ⟨by kernel_rfl, rfl⟩) (hHeld (by decide)) ?_
          simp only [Act.put, List.setIfInBounds_toArray, List.set_cons_zero, List.set_cons_succ, List.getElem_toArray, List.getElem_cons_succ, List.getElem_cons_zero]
          refine wpAnyZ_take (i := 24) (oi := _) (v := ?_) rfl (by kernel_rfl) (by kernel_rfl) (by kernel_rfl) (by kernel_rfl) (fun _ _ _ h => h) (Or.inl ⟨by kernel_rfl, ?_⟩) (hHeld (by decide)) ?_
          rotate_left
          · (intro w hSw; (try dsimp only at hSw); go_simp); try with_reducible rfl
          simp only [Act.put, List.setIfInBounds_toArray, List.set_cons_zero, List.set_cons_succ, List.getElem_toArray, List.getElem_cons_succ, List.getElem_cons_zero]
          refine wpAnyZ_done (by kernel_rfl) ?_ _
          refine NoPanic.normal ?_
          go_wp2_with fail
          go_ret
          exact ⟨1, rfl, .inr ⟨rfl, HNO.out⟩, (hFw.trans0 hFc).trans0 hF2'⟩
      · have hno := hbad (fun h => hnm h.1)
        have HNO := Lib.hid hno
        have hnm : namedOk ph = false := by simpa using hnm
        rw [hnm] at HN
        clear hno hbad
        go_wp2_with fail
        refine wp_region_noPanic ?_
        refine wp_region_Z (fun w' : World => w'.cell? ⟨wr.heap.size, 0, none⟩ = some (.string (mk ph)) ∧ w'.cell? ⟨wr.heap.size, 1, none⟩ = some (.string (mk idn))) 99 (by kernel_rfl) ?_
        have hS : (fun w' : World => w'.cell? ⟨wr.heap.size, 0, none⟩ = some (.string (mk ph)) ∧ w'.cell? ⟨wr.heap.size, 1, none⟩ = some (.string (mk idn))) WC.drew := ⟨nz, n1⟩
        refine wpAnyZ_take (i := 0) (oi := _) (v := ?_) rfl (by kernel_rfl) (by kernel_rfl) (by kernel_rfl) (by kernel_rfl) (fun _ _ _ h => h) (Or.inl ⟨by kernel_rfl, ?_⟩) hS ?_
        rotate_left
        · (intro w hSw; (try dsimp only at hSw); go_simp); try with_reducible rfl
        simp only [Act.put, List.setIfInBounds_toArray, List.set_cons_zero, List.set_cons_succ, List.getElem_toArray, List.getElem_cons_succ, List.getElem_cons_zero]
        refine wpAnyZ_take (i := 1) (oi := _) (v := ?_) rfl (by kernel_rfl) (by kernel_rfl) (by kernel_rfl) (by kernel_rfl) (fun _ _ _ h => h) (Or.inl ⟨by kernel_rfl, ?_⟩) hS ?_
        rotate_left
        · (intro w hSw; (try dsimp only at hSw); go_simp); try with_reducible rfl
        simp only [Act.put, List.setIfInBounds_toArray, List.set_cons_zero, List.set_cons_succ, List.getElem_toArray, List.getElem_cons_succ, List.getElem_cons_zero]
        refine wpAnyZ_one (i := 2) (by kernel_rfl) rfl (fun K hK => ?_)
        go_simp
        go_at_call 26
        refine (HN.out _ ((Fr.refl _ _).drew)).mono ?_
        rintro e w2 ⟨rfl, hF2⟩
        have hF2' : Fr [] WC w2 := hF2.of_drew
        clear HN
        refine hK.out _ _ (fun _ => ⟨hF2'.cell nz (by simp), hF2'.cell n1 (by simp)⟩) (fun hHeld => ?_)
        clear hK K
        try simp only [Act.put, List.setIfInBounds_toArray, List.set_cons_zero, List.set_cons_succ, List.getElem_toArray, List.getElem_cons_succ, List.getElem_cons_zero]
        refine wpAnyZ_take (i := 3) (oi := _) (v := ?_) rfl (by kernel_rfl) (by kernel_rfl) (by kernel_rfl) (by kernel_rfl) (fun _ _ _ h => h) (Or.inl ⟨by kernel_rfl, ?_⟩) (hHeld (by decide)) ?_
        rotate_left
        · (intro w hSw; (try dsimp only at hSw); go_simp); try with_reducible rfl
        simp only [Act.put, List.setIfInBounds_toArray, List.set_cons_zero, List.set_cons_succ, List.getElem_toArray, List.getElem_cons_succ, List.getElem_cons_zero]
        refine wpAnyZ_take (i := 4) (oi := _) (v := ?_) rfl (by kernel_rfl) (by kernel_rfl) (by kernel_rfl) (by kernel_rfl) (fun _ _ _ h => h) (Or.inl ⟨by kernel_rfl, ?_⟩) (hHeld (by decide)) ?_
        rotate_left
        · (intro w hSw; (try dsimp only at hSw); go_simp); try with_reducible rfl
        simp only [Act.put, List.setIfInBounds_toArray, List.set_cons_zero, List.set_cons_succ, List.getElem_toArray, List.getElem_cons_succ, List.getElem_cons_zero]
        refine wpAnyZ_take (i := 5) (oi := _) (v := undef) rfl (by kernel_rfl) (by kernel_rfl) (by kernel_rfl) (by kernel_rfl) (fun _ _ _ h => h) (Or.inr ⟨by kernel_rfl, rfl⟩) (hHeld (by decide)) ?_
        simp only [Act.put, List.setIfInBounds_toArray, List.set_cons_zero, List.set_cons_succ, List.getElem_toArray, List.getElem_cons_succ, List.getElem_cons_zero]
        refine wpAnyZ_take (i := 6) (oi := _) (v := undef) rfl (by kernel_rfl) (by kernel_rfl) (by kernel_rfl) (by kernel_rfl) (fun _ _ _ h => h) (Or.inr ⟨by kernel_rfl, rfl⟩) (hHeld (by decide)) ?_
        simp only [Act.put, List.setIfInBounds_toArray, List.set_cons_zero, List.set_cons_succ, List.getElem_toArray, List.getElem_cons_succ, List.getElem_cons_zero]
        refine wpAnyZ_take (i := 7) (oi := _) (v := undef) rfl (by kernel_rfl) (by kernel_rfl) (by kernel_rfl) (by kernel_rfl) (fun _ _ _ h => h) (Or.inr ⟨by kernel_rfl, rfl⟩) (hHeld (by decide)) ?_
        simp only [Act.put, List.setIfInBounds_toArray, List.set_cons_zero, List.set_cons_succ, List.getElem_toArray, List.getElem_cons_succ, List.getElem_cons_zero]
        refine wpAnyZ_take (i := 8) (oi := _) (v := undef) rfl (by kernel_rfl) (by kernel_rfl) (by kernel_rfl) (by kernel_rfl) (fun _ _ _ h => h) (Or.inr ⟨by kernel_rfl, rfl⟩) (hHeld (by decide)) ?_
        simp only [Act.put, List.setIfInBounds_toArray, List.set_cons_zero, List.set_cons_succ, List.getElem_toArray, List.getElem_cons_succ, List.getElem_cons_zero]
        refine wpAnyZ_take (i := 9) (oi := _) (v := ?_) rfl (by kernel_rfl) (by kernel_rfl) (by kernel_rfl) (by kernel_rfl) (fun _ _ _ h => h) (Or.inl ⟨by kernel_rfl, ?_⟩) (hHeld (by decide)) ?_
        rotate_left
        · (intro w hSw; (try dsimp only at hSw); go_simp); try with_reducible rfl
        simp only [Act.put, List.setIfInBounds_toArray, List.set_cons_zero, List.set_cons_succ, List.getElem_toArray, List.getElem_cons_succ, List.getElem_cons_zero]
        refine wpAnyZ_take (i := 10) (oi := _) (v := ?_) rfl (by kernel_rfl) (by kernel_rfl) (by kernel_rfl) (by kernel_rfl) (fun _ _ _ h => h) (Or.inl ⟨by kernel_rfl, ?_⟩) (hHeld (by decide)) ?_
        rotate_left
        · (intro w hSw; (try dsimp only at hSw); go_simp); try with_reducible rfl
        simp only [Act.put, List.setIfInBounds_toArray, List.set_cons_zero, List.set_cons_succ, List.getElem_toArray, List.getElem_cons_succ, List.getElem_cons_zero]
        refine wpAnyZ_take (i := 11) (oi := _) (v := undef) rfl (by kernel_rfl) (by kernel_rfl) (by kernel_rfl) (by kernel_rfl) (fun _ _ _ h => h) (Or.inr ⟨by kernel_rfl, rfl⟩) (hHeld (by decide)) ?_
        simp only [Act.put, List.setIfInBounds_toArray, List.set_cons_zero, List.set_cons_succ, List.getElem_toArray, List.getElem_cons_succ, List.getElem_cons_zero]
        refine wpAnyZ_take (i := 12) (oi := _) (v := undef) rfl (by kernel_rfl) (by kernel_rfl) (by kernel_rfl) (by kernel_rfl) (fun _ _ _ h => h) (Or.inr ⟨by kernel_rfl, rfl⟩) (hHeld (by decide)) ?_
        simp only [Act.put, List.setIfInBounds_toArray, List.set_cons_zero, List.set_cons_succ, List.getElem_toArray, List.getElem_cons_succ, List.getElem_cons_zero]
        refine wpAnyZ_take (i := 13) (oi := _) (v := undef) rfl (by kernel_rfl) (by kernel_rfl) (by kernel_rfl) (by kernel_rfl) (fun _ _ _ h => h) (Or.inr ⟨by kernel_rfl, rfl⟩) (hHeld (by decide)) ?_
        simp only [Act.put, List.setIfInBounds_toArray, List.set_cons_zero, List.set_cons_succ, List.getElem_toArray, List.getElem_cons_succ, List.getElem_cons_zero]
        refine wpAnyZ_take (i := 14) (oi := _) (v := undef) rfl (by kernel_rfl) (by kernel_rfl) (by kernel_rfl) (by kernel_rfl) (fun _ _ _ h => h) (Or.inr ⟨by kernel_rfl, rfl⟩) (hHeld (by decide)) ?_
        simp only [Act.put, List.setIfInBounds_toArray, List.set_cons_zero, List.set_cons_succ, List.getElem_toArray, List.getElem_cons_succ, List.getElem_cons_zero]
        refine wpAnyZ_take (i := 15) (oi := _) (v := undef) rfl (by kernel_rfl) (by kernel_rfl) (by kernel_rfl) (by kernel_rfl) (fun _ _ _ h => h) (Or.inr ⟨by kernel_rfl, rfl⟩) (hHeld (by decide)) ?_
        simp only [Act.put, List.setIfInBounds_toArray, List.set_cons_zero, List.set_cons_succ, List.getElem_toArray, List.getElem_cons_succ, List.getElem_cons_zero]
        refine wpAnyZ_take (i := 16) (oi := _) (v := undef) rfl (by kernel_rfl) (by kernel_rfl) (by kernel_rfl) (by kernel_rfl) (fun _ _ _ h => h) (Or.inr ⟨by kernel_rfl, rfl⟩) (hHeld (by decide)) ?_
        simp only [Act.put, List.setIfInBounds_toArray, List.set_cons_zero, List.set_cons_succ, List.getElem_toArray, List.getElem_cons_succ, List.getElem_cons_zero]
        refine wpAnyZ_take (i := 17) (oi := _) (v := undef) rfl (by kernel_rfl) (by kernel_rfl) (by kernel_rfl) (by kernel_rfl) (fun _ _ _ h => h) (Or.inr ⟨by kernel_rfl, rfl⟩) (hHeld (by decide)) ?_
        simp only [Act.put, List.setIfInBounds_toArray, List.set_cons_zero, List.set_cons_succ, List.getElem_toArray, List.getElem_cons_succ, List.getElem_cons_zero]
        refine wpAnyZ_take (i := 18) (oi := _) (v := undef) rfl (by kernel_rfl) (by kernel_rfl) (by kernel_rfl) (by kernel_rfl) (fun _ _ _ h => h) (Or.inr ⟨by kernel_rfl, rfl⟩) (hHeld (by decide)) ?_
        simp only [Act.put, List.setIfInBounds_toArray, List.set_cons_zero, List.set_cons_succ, List.getElem_toArray, List.getElem_cons_succ, List.getElem_cons_zero]
        refine wpAnyZ_take (i := 19) (oi := _) (v := undef) rfl (by kernel_rfl) (by kernel_rfl) (by kernel_rfl) (by kernel_rfl) (fun _ _ _ h => h) (Or.inr ⟨by kernel_rfl, rfl⟩) (hHeld (by decide)) ?_
        simp only [Act.put, List.setIfInBounds_toArray, List.set_cons_zero, List.set_cons_succ, List.getElem_toArray, List.getElem_cons_succ, List.getElem_cons_zero]
        refine wpAnyZ_take (i := 20) (oi := _) (v := undef) rfl (by kernel_rfl) (by kernel_rfl) (by kernel_rfl) (by kernel_rfl) (fun _ _ _ h => h) (Or.inr ⟨by kernel_rfl, rfl⟩) (hHeld (by decide)) ?_
        simp only [Act.put, List.setIfInBounds_toArray, List.set_cons_zero, List.set_cons_succ, List.getElem_toArray, List.getElem_cons_succ, List.getElem_cons_zero]
        refine wpAnyZ_take (i := 21) (oi := _) (v := undef) rfl (by kernel_rfl) (by kernel_rfl) (by kernel_rfl) (by kernel_rfl) (fun _ _ _ h => h) (Or.inr ⟨by kernel_rfl, rfl⟩) (hHeld (by decide)) ?_
        simp only [Act.put, List.setIfInBounds_toArray, List.set_cons_zero, List.set_cons_succ, List.getElem_toArray, List.getElem_cons_succ, List.getElem_cons_zero]
        refine wpAnyZ_take (i := 22) (oi := _) (v := undef) rfl (by kernel_rfl) (by kernel_rfl) (by kernel_rfl) (by kernel_rfl) (fun _ _ _ h => h) (Or.inr ⟨by kernel_rfl, rfl⟩) (hHeld (by decide)) ?_
        simp only [Act.put, List.setIfInBounds_toArray, List.set_cons_zero, List.set_cons_succ, List.getElem_toArray, List.getElem_cons_succ, List.getElem_cons_zero]
        refine wpAnyZ_take (i := 23) (oi := _) (v := undef) rfl (by kernel_rfl) (by kernel_rfl) (by kernel_rfl) (by kernel_rfl) (fun _ _ _ h => h) (Or.inr ⟨by kernel_rfl, rfl⟩) (hHeld (by decide)) ?_
        simp only [Act.put, List.setIfInBounds_toArray, List.set_cons_zero, List.set_cons_succ, List.getElem_toArray, List.getElem_cons_succ, List.getElem_cons_zero]
        refine wpAnyZ_take (i := 24) (oi := _) (v := ?_) rfl (by kernel_rfl) (by kernel_rfl) (by kernel_rfl) (by kernel_rfl) (fun _ _ _ h => h) (Or.inl ⟨by kernel_rfl, ?_⟩) (hHeld (by decide)) ?_
        rotate_left
        · (intro w hSw; (try dsimp only at hSw); go_simp); try with_reducible rfl
        simp only [Act.put, List.setIfInBounds_toArray, List.set_cons_zero, List.set_cons_succ, List.getElem_toArray, List.getElem_cons_succ, List.getElem_cons_zero]
        refine wpAnyZ_done (by kernel_rfl) ?_ _
        refine NoPanic.normal ?_
        go_wp2_with fail
        go_ret
        exact ⟨1, rfl, .inr ⟨rfl, HNO.out⟩, (hFw.trans0 hFc).trans0 hF2'⟩
    · obtain rfl : k = l.length := by omega
      have b1 : decide (((l.length : Nat) : Int) < l.length) = false := by simp
      by_cases h4096 : l.length ≤ 4096
      · have b2 : decide ((4096 : Int) < l.length) = false := by simp; omega
        have i2 : (l.length : Int) ≤ 4096 := by omega
        have HOK := Lib.hid (show checkOk l from ⟨fun q f hq => hall.out q f (List.getElem?_eq_some_iff.1 hq).1 hq, h4096⟩)
        clear hc hM
        go_wp2_with fail
        go_ret
        exact ⟨0, rfl, .inl ⟨rfl, HOK.out⟩, hFw⟩
      · have b2 : decide ((4096 : Int) < l.length) = true := by simp; omega
        have i2 : (4096 : Int) < l.length := by omega
        have HOK := Lib.hid (show ¬ checkOk l from fun h => h4096 h.2)
        clear hc hM
        go_wp2_with fail
        go_ret
        exact ⟨1, rfl, .inr ⟨rfl, HOK.out⟩, hFw⟩
end Go.Proofs.YtjelehcnpocnoaaGreatDoor
/- Layer 13, trees: Under, Find. -/
namespace Go.Proofs.YtjelehcnpocnoaaGreatDoor
set_option linter.unusedSimpArgs false
set_option linter.unusedVariables false
set_option linter.unnecessarySimpa false
open Go.RowKit
set_option maxRecDepth 100000
set_option maxHeartbeats 4000000

def underOf (p d : Bs) : Bool := Lib.hasPrefix p (d ++ [47])
theorem Under_calls (p d : Bs) (w : World) (h1 : p.length ≤ 1000000000) (h2 : d.length ≤ 1000000000) :
    Calls Tryz.prog 16 #[.string (mk p), .string (mk d)] w fun e w' => e = .returned (.bool (underOf p d)) ∧ w' = w := by
  have hm : mk d ++ (⟨#[47]⟩ : ByteArray) = mk (d ++ [47]) := mk_app d [47]
  have hz := mk_size d
  have hb1 : (mk p).data.toList = p := bl_mk p
  have hb2 : (mk (d ++ [47])).data.toList = d ++ [47] := bl_mk _
  go_enter Tryz.func16, Tryz.ntmps16
  go_wp2_with fail
  refine (Tryz.strings_HasPrefix (mk p) (mk (d ++ [47])) w).mono ?_
  rintro e w1 ⟨rfl, rfl⟩
  rw [hb1, hb2]
  go_wp2_with fail
  go_ret
  exact ⟨rfl, rfl⟩
theorem find1_calls (f : Fl) (p : Bs) (Pc : Nat) (w : World) (hp : w.cell? ⟨Pc, 0, none⟩ = some (.string (mk p))) :
    Calls Tryz.prog 35 #[.agg #[.string (mk f.path), .string (mk f.id)], .pointer (some ⟨Pc, 0, none⟩)] w fun e w' => e = .returned (.bool (f.path == p)) ∧ Fr [] w w' := by
  obtain ⟨ph, idn⟩ := f
  have q1 := mk_toList ph
  have q2 := mk_toList p
  have hFc : Fr [] w (w.alloc (.cells #[.string (mk ph), .string (mk idn)] 40)) := (Fr.refl _ _).alloc _
  have n0 := World.cell?_alloc_new w #[.string (mk ph), .string (mk idn)] 40 0
  have pc := hFc.cell hp (by simp)
  generalize hWc : w.alloc (.cells #[.string (mk ph), .string (mk idn)] 40) = WC at *
  go_enter Tryz.func35, Tryz.ntmps35
  go_wp2_with fail
  go_ret
  exact ⟨rfl, hFc⟩
theorem indexF_calls (v : Value) (l : List Fl) (p : Bs) (Pc : Nat) (w : World) (h : Fs w 40 v l) (hl : l.length ≤ 1000000) (hp : w.cell? ⟨Pc, 0, none⟩ = some (.string (mk p))) :
    Calls Tryz.prog 34 #[v, .func (.func 35) #[] #[.pointer (some ⟨Pc, 0, none⟩)]] w fun e w' =>
      ((e = .returned (.int .i64 (-1)) ∧ ∀ f ∈ l, f.path ≠ p) ∨ (∃ (k : Nat) (f : Fl), e = .returned (.int .i64 k) ∧ l[k]? = some f ∧ f.path = p ∧ ∀ j g, j < k → l[j]? = some g → g.path ≠ p)) ∧ Fr [] w w' := by
  obtain ⟨a, c, rfl, h3, h4, hc⟩ := Fs.open2 h
  go_enter Tryz.func34, Tryz.ntmps34
  go_wp2_with fail
  go_loopw [8] (fun i wr => ∃ k : Nat, i = .int .i64 k ∧ k ≤ l.length ∧ Fr [] w wr ∧ Hid (∀ j g, j < k → l[j]? = some g → g.path ≠ p)) (fun i _ => l.length - (intOf i).toNat)
  case atStart => exact ⟨0, rfl, by omega, Fr.refl _ _, fun j g hj => absurd hj (by omega)⟩
  case round =>
    obtain ⟨k, rfl, hk, hF, hall⟩ := hrel
    by_cases hlt : k < l.length
    · obtain ⟨g, o, rfl, hcell⟩ := hc (by omega)
      have hg := List.getElem?_eq_getElem hlt
      obtain ⟨x1, x2⟩ := hcell k _ hg
      have HG := Lib.hid hg
      generalize l[k] = f at *
      obtain ⟨ph, idn⟩ := f
      simp only at x1 x2
      have x1' := hF.cell x1 (by simp)
      have x2' := hF.cell x2 (by simp)
      have b1 : decide ((k : Int) < l.length) = true := by simp; omega
      have i1 : (k : Int) < l.length := by omega
      have e1 : IntKind.i64.wrap ((k : Int) + 1) = (k : Int) + 1 := by rw [IntKind.wrap_i64]; omega
      have H1 := Lib.hid (find1_calls ⟨ph, idn⟩ p Pc wr (hF.cell hp (by simp)))
      clear hcell hc hg x1 x2
      by_cases hpe : ph = p
      · have hb : ((⟨ph, idn⟩ : Fl).path == p) = true := by simpa using hpe
        rw [hb] at H1
        have HPE := Lib.hid hpe
        clear hb hpe
        go_wp2_with fail
        refine H1.out.mono ?_
        rintro e w2 ⟨rfl, hF2⟩
        go_wp2_with fail
        go_ret
        exact ⟨.inr ⟨k, ⟨ph, idn⟩, rfl, HG.out, HPE.out, hall.out⟩, hF.trans0 hF2⟩
      · have hb : ((⟨ph, idn⟩ : Fl).path == p) = false := by simpa using hpe
        rw [hb] at H1
        have HPE := Lib.hid hpe
        clear hb hpe
        go_wp2_with fail
        refine H1.out.mono ?_
        rintro e w2 ⟨rfl, hF2⟩
        go_wp2_with fail
        refine ⟨⟨k + 1, by simp, by omega, hF.trans0 hF2, fun j q hj hq => ?_⟩, by simp [intOf]; omega⟩
        rcases Nat.lt_or_ge j k with h5 | h5
        · exact hall.out j q h5 hq
        · obtain rfl : j = k := by omega
          rw [HG.out] at hq
          obtain rfl : (⟨ph, idn⟩ : Fl) = q := by simpa using hq
          exact HPE.out
    · obtain rfl : k = l.length := by omega
      have b1 : decide (((l.length : Nat) : Int) < l.length) = false := by simp
      clear hc
      go_wp2_with fail
      go_ret
      refine ⟨.inl ⟨rfl, fun f hf => ?_⟩, hF⟩
      obtain ⟨j, hj⟩ := List.getElem?_of_mem hf
      exact hall.out j f (List.getElem?_eq_some_iff.1 hj).1 hj
theorem Find_calls (v : Value) (l : List Fl) (p : Bs) (w : World) (h : Fs w 40 v l) (hl : l.length ≤ 1000000) (hne : ∃ f : Fl, f ∈ l ∧ f.path = p) :
    Calls Tryz.prog 17 #[v, .string (mk p)] w fun e w' => (∃ f ∈ l, f.path = p ∧ e = .returned (.string (mk f.id))) ∧ Fr [] w w' := by
  obtain ⟨a, c, rfl, h3, h4, hc⟩ := Fs.open2 h
  have hFA : Fr [] w (w.alloc (.cells #[.string (mk p)] 9)) := (Fr.refl _ _).alloc _
  have H1 := Lib.hid (indexF_calls _ l p w.heap.size (w.alloc (.cells #[.string (mk p)] 9)) (h.fr0 hFA) hl (World.cell?_alloc_new w #[_] _ 0))
  go_enter Tryz.func17, Tryz.ntmps17
  go_wp2_with fail
  refine H1.out.mono ?_
  rintro e w1 ⟨⟨rfl, hno⟩ | ⟨k, f, rfl, hk, hp, hfirst⟩, hF1⟩
  · obtain ⟨f, hk, hp⟩ := hne
    exact absurd hp (hno f hk)
  · have hlt := (List.getElem?_eq_some_iff.1 hk).1
    obtain ⟨g, o, rfl, hcell⟩ := hc (by omega)
    obtain ⟨x1, x2⟩ := hcell k _ hk
    have hFw : Fr [] w w1 := hFA.trans0 hF1
    have x2' := hFw.cell x2 (by simp)
    have i1 : (k : Int) < l.length := by omega
    have HK := Lib.hid hk
    have HP := Lib.hid hp
    clear hcell hc x1 x2 hk hp hne hfirst
    go_wp2_with fail
    go_ret
    exact ⟨⟨f, List.mem_of_getElem? HK.out, HP.out, rfl⟩, hFw⟩
end Go.Proofs.YtjelehcnpocnoaaGreatDoor
