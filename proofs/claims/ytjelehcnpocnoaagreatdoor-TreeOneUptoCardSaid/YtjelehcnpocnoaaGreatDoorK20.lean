/- Joined: Keys. -/
import Derived.Test.YtjelehcnpocnoaaGreatDoorK06
import Derived.Test.YtjelehcnpocnoaaGreatDoorK19
import Derived.Sort.KeysCollected
/- slices.Sorted(maps.Keys(m)) at a map with strings for keys. -/
namespace Go.Proofs.YtjelehcnpocnoaaGreatDoor
set_option linter.unusedSimpArgs false
set_option linter.unusedVariables false
set_option linter.unnecessarySimpa false
open Go.RowKit Go.Maps
set_option maxRecDepth 100000
set_option maxHeartbeats 2000000

/-- The keys of a map, rising. -/
structure KeysOf (f : Bs → Option Value) (ss : List Bs) : Prop where
  nodup : ss.Nodup
  rise : ss.Pairwise (fun x y => x ≤ y)
  mem : ∀ x, x ∈ ss ↔ (f x).isSome = true
theorem leB_trans : ∀ a b c : List UInt8, decide (a ≤ b) = true → decide (b ≤ c) = true → decide (a ≤ c) = true := fun a b c h1 h2 => by
  simp only [decide_eq_true_eq] at *; exact List.le_trans h1 h2
theorem leB_total : ∀ a b : List UInt8, (decide (a ≤ b) || decide (b ≤ a)) = true := fun a b => by
  simp only [Bool.or_eq_true, decide_eq_true_eq]; exact List.le_total a b
theorem encStr_sv : encStr = sv := rfl

theorem keys_of {P : Program} {k t e : TypeId} {w : World} {b n : Nat} {f : Bs → Option Value} {D : DataW Value} (hown : w.ownsMap P k Rv b n D) (hf : ∀ s, f s = lookD D s) (hk : P.underlying k = some .string) (ht : P.underlying t = some (.map k e)) {z : Value} (hz : ∀ W, (zeroValue e).run P W = .ok z W)
    {ss : List Bs} (hp : ss.Perm (strKeys D)) : KeysOf f (ss.mergeSort (fun x y => decide (x ≤ y))) := by
  obtain ⟨es, hD, hpw, _⟩ := hown.entries (Maps.string_keyed hk)
  obtain ⟨es', hD', hko⟩ := hown.keysOf
  obtain rfl : es = es' := by rw [hD] at hD'; simpa using hD'
  have hle := strKeys_le hown hk
  have hM : MapAt P k w b n f := ⟨D, hown, hf⟩
  subst hD
  have hstr : ∀ p ∈ es, ∃ x, p.1 = .string x := fun p hp => by obtain ⟨v, hv⟩ := hko p hp; obtain ⟨x, _, hx, _⟩ := Maps.keyOf_str hk hv; exact ⟨x, hx⟩
  have hnd : (strKeys (.map es)).Nodup := by
    refine List.pairwise_map.2 (hpw.imp_of_mem fun {p q} hp' hq' hne e => hne ?_)
    obtain ⟨a, ha⟩ := hstr p hp'
    obtain ⟨b, hb⟩ := hstr q hq'
    rw [ha, hb] at e ⊢
    exact congrArg _ e
  have hmem : ∀ x, x ∈ strKeys (.map es) ↔ has (.map es) (.string x) = true := by
    intro x
    rw [has_eq, List.any_eq_true]
    show x ∈ es.map (fun p => strOf p.1) ↔ _
    rw [List.mem_map]
    constructor
    · rintro ⟨p, hp', rfl⟩
      obtain ⟨a, ha⟩ := hstr p hp'
      exact ⟨p, hp', by rw [ha]; simp [Lit.sameKey, strOf]⟩
    · rintro ⟨p, hp', hs⟩
      obtain ⟨a, ha⟩ := hstr p hp'
      rw [ha] at hs
      exact ⟨p, hp', by rw [ha]; simpa [Lit.sameKey, strOf] using hs⟩
  have hp2 := (List.mergeSort_perm ss (fun x y => decide (x ≤ y))).trans hp
  refine ⟨(hp2.nodup_iff).2 hnd, (List.pairwise_mergeSort leB_trans leB_total ss).imp (by simp), fun x => ?_⟩
  rw [hp2.mem_iff, hmem x]
  constructor
  · intro h
    have hx := hle x ((hmem x).2 h)
    obtain ⟨D', hD', hf', hh, _⟩ := hM.has_iff hk ht hz x hx
    have : lookD (.map es) x = lookD D' x := (hf x).symm.trans hf'
    obtain ⟨es2, clock, hb, F, hs, hDD⟩ := hown
    obtain ⟨es3, clock3, hb3, F3, hs3, hDD3⟩ := hD'
    rw [hb] at hb3; cases hb3
    rw [hDD3, ← hDD] at hh
    rw [← hh]; exact h
  · intro h
    rw [hf x] at h
    unfold lookD at h
    by_cases hh : has (.map es) (.string x) = true
    · exact hh
    · rw [if_neg hh] at h; cases h

theorem Names_calls (p mb : Nat) (d : Dk) (w : World) (h : DiskAt w p mb d) (hn : d.puts ≤ 1048576) :
    Calls Tryz.prog 62 #[.pointer (some ⟨p, 0, none⟩)] w fun e w' => ∃ (v : Value) (ss : List Bs), e = .returned v ∧ w'.ownsRow w.heap.size 9 1 v ss.length (ss.map sv) ∧ ss.Nodup ∧ ss.Pairwise (fun x y => x ≤ y) ∧ (∀ x, x ∈ ss ↔ (d.files x).isSome = true) ∧ Fr [] w w' := by
  have c1 := h.cmap
  obtain ⟨f, ⟨D, hown, hf⟩, h2⟩ := h.map
  have hsz := hown.size_le
  have H1 := callsIn_wide.1 (Tryz.maps_Keys_113 (some mb) w)
  have H2 := callsIn_wide.1 (Tryz.slices_Sorted_keys_55_113 mb d.puts D Rv w hown (by simp only [maxLen]; omega) (by omega))
  have HD : Hid (w.ownsMap Tryz.prog 9 Rv mb d.puts D ∧ (∀ s, f s = lookD D s) ∧ (∀ s, match d.files s with
    | none => f s = none
    | some b => ∃ v, f s = some v ∧ Sl w 5 1 v b.length (b.map bv))) := ⟨hown, hf, h2⟩
  clear hown hf h2 hsz
  go_enter Tryz.func62, Tryz.ntmps62
  go_wp2_with fail
  refine (made_calls p mb d w h).mono ?_
  rintro e w1 ⟨rfl, rfl⟩
  go_wp2_with fail
  refine H1.mono ?_
  rintro e w2 ⟨rfl, rfl⟩
  go_wp2_with fail
  refine H2.mono ?_
  rintro e w3 ⟨v, ss, rfl, hperm, hrow, hnil, hbel⟩
  have HP := Lib.hid hperm
  clear hperm hnil
  go_wp2_with fail
  go_ret
  obtain ⟨hown, hf, h2⟩ := HD.out
  have hK := keys_of hown hf u_string u_files z_bytes HP.out
  refine ⟨_, ss.mergeSort (fun x y => decide (x ≤ y)), rfl, own_base (by simpa [encStr_sv] using hrow) (by simp), hK.nodup, hK.rise, fun x => ?_, ((Fr.refl _ _).alloc _).trans0 (Fr.of_below hbel)⟩
  rw [hK.mem x]
  have := h2 x
  split at this
  · rename_i he; rw [he, this]; rfl
  · rename_i b he
    rw [he]
    obtain ⟨u, hu, _⟩ := this
    rw [hu]; rfl
end Go.Proofs.YtjelehcnpocnoaaGreatDoor
