/- Joined: Map2. -/
import Derived.Test.YtjelehcnpocnoaaGreatDoorK02
import Derived.WideKeyEntry
import Derived.DeepKeys4
/- Maps with keys that read as strings (arrays of bytes among them); m[k] = append(m[k], x). -/
namespace Go.Proofs.YtjelehcnpocnoaaGreatDoor
set_option linter.unusedSimpArgs false
set_option linter.unusedVariables false
set_option linter.unnecessarySimpa false
open Go.RowKit Go.ChangeMaps Go.Maps

namespace MapAt
variable {P : Program} {k t e : TypeId} {w : World} {b n : Nat} {f : Bs → Option Value}
theorem hasK (h : MapAt P k w b n f) (K : Keyed P k) (ht : P.underlying t = some (.map k e)) {z : Value} (hz : ∀ W, (zeroValue e).run P W = .ok z W) {key : Value} {s : Bs} (hkey : keyOf P k key = some (.string s)) :
    ∃ D, w.ownsMap P k Rv b n D ∧ (∀ s, f s = lookD D s) ∧ Maps.has D (.string s) = (f s).isSome ∧ ∀ y, D.atKey (.string s) (.held y) = .held ((f s).getD y) := by
  obtain ⟨D, hD, hf⟩ := h
  refine ⟨D, hD, hf, ?_⟩
  rw [hf s]
  unfold lookD
  by_cases hh : Maps.has D (.string s) = true
  · obtain ⟨v, ps, _, hv⟩ := hD.lookup K ht (hz w) (zd := .held z) (zp := []) rfl hkey
    have e1 : D.atKey (.string s) (.held z) = .held v := by simp only [Rv, Option.some.injEq, Prod.mk.injEq] at hv; exact hv.1.symm
    rw [atKey_indep hh .nil (.held z), e1, hh]
    refine ⟨rfl, fun y => ?_⟩
    rw [atKey_indep hh (.held y) (.held z), e1]; rfl
  · have hh : Maps.has D (.string s) = false := by simpa using hh
    rw [hh]
    exact ⟨rfl, fun y => by rw [Maps.atKey_of_not_has hh]; rfl⟩
/-- m[key] -/
theorem getK (h : MapAt P k w b n f) (K : Keyed P k) (ht : P.underlying t = some (.map k e)) {z : Value} (hz : ∀ W, (zeroValue e).run P W = .ok z W) {key : Value} {s : Bs} (hkey : keyOf P k key = some (.string s)) :
    (Instr.lookup t (.map (some b)) key false).run P w = .ok ((f s).getD z) w := by
  obtain ⟨D, hD, hf, hh, hat⟩ := h.hasK K ht hz hkey
  obtain ⟨v, ps, hrun, hv⟩ := hD.lookup K ht (hz w) (zd := .held z) (zp := []) rfl hkey
  rw [hat z] at hv
  have : v = (f s).getD z := by simp only [Rv, Option.some.injEq, Prod.mk.injEq, DataW.held.injEq] at hv; exact hv.1
  rw [hrun, this]
/-- m[key] = append(m[key], ..): the entry first, then the store. -/
theorem entry (h : MapAt P k w b n f) (K : WideMaps.KeyLaw P k) (ht : P.underlying t = some (.map k e)) {z : Value} (hz : ∀ W, (zeroValue e).run P W = .ok z W) {key : Value} {s : Bs} (hkey : keyOf P k key = some (.string s)) (hn : n < 9223372036854775807) :
    ∃ (st : Int) (w1 : World), (Instr.mapEntry t (.map (some b)) key).run P w = .ok (.tuple #[(f s).getD z, .int .i64 st]) w1 ∧ Fr [b] w w1 ∧ (∃ es clock, w1.heap[b]? = some (.map es clock)) ∧
      ∀ (w2 : World) (val : Value), w2.heap[b]? = w1.heap[b]? → ∃ w3, (Instr.entryStore t (.map (some b)) (.int .i64 st) val).run P w2 = .ok () w3 ∧ MapAt P k w3 b (n + 1) (upd f s (some val)) ∧ Fr [b] w2 w3 := by
  have hD0 := h
  obtain ⟨D, hD, hf, hh, hat⟩ := h.hasK (Keyed.of_law K) ht hz hkey
  have hown := hD
  obtain ⟨es, clock, hb, F, hs, rfl⟩ := hD
  obtain ⟨v0, st, es1, clock1, hrun, hv0, hst⟩ := WideElems.entry_then_store (R := Rv) K ht hz hb F hkey
  have hlk := hD0.getK (Keyed.of_law K) ht hz hkey
  have hup := fun val => hown.store (Keyed.of_law K) ht (by simpa only [maxLen] using hn) hkey (val := val) (d := .held val) (ps := []) rfl
  have hb1 : (setBlock w b (.map es1 clock1)).heap[b]? = some (.map es1 clock1) := heap_setBlock_same hb _
  have hval : v0 = (f s).getD z := by
    obtain ⟨v, ps, hr2, hv2⟩ := hown.lookup (Keyed.of_law K) ht (hz w) (zd := .held z) (zp := []) rfl hkey
    rcases hv0 with ⟨e0, he0, hek, rfl⟩ | ⟨hno, rfl⟩
    · have h1 := (Maps.fit_look false (Keyed.of_law K) ht (hz w) hb F hkey)
      rcases h1 with ⟨_, hno, _⟩ | ⟨e1, y, he1, hk1, hrun1, hR1, hat1, _⟩
      · exact absurd hek (hno e0 he0)
      · rw [hlk] at hrun1
        have e2 : e0 = e1 := by
          refine entry_eq_of_key ?_ he0 he1 (hek.trans hk1.symm)
          exact ((MapKept.stamped_iff es clock).1 F.stamped).2.2
        rw [e2]
        simp only [Result.ok.injEq] at hrun1
        exact hrun1.1.symm
    · have h1 := (Maps.fit_look false (Keyed.of_law K) ht (hz w) hb F hkey)
      rcases h1 with ⟨hrun1, _, _⟩ | ⟨e1, y, he1, hk1, _⟩
      · rw [hlk] at hrun1
        simp only [Result.ok.injEq] at hrun1
        exact hrun1.1.symm
      · exact absurd hk1 (hno e1 he1)
  subst hval
  refine ⟨st, _, hrun, ⟨rfl, rfl, rfl, by simp [setBlock], fun i _ hi => heap_setBlock_other hb _ (fun e => hi (by simp [e]))⟩, ⟨_, _, hb1⟩, fun w2 val hw2 => ?_⟩
  have hw2' : w2.heap[b]? = some (.map es1 clock1) := hw2.trans hb1
  obtain ⟨es', clock', hr3, hr4⟩ := hst w2 val hw2'
  obtain ⟨w', hr5, ho5, _⟩ := hup val
  have hw' : w' = setBlock w b (.map es' clock') := by
    rw [hr4] at hr5
    simp only [Result.ok.injEq, true_and] at hr5
    exact hr5.symm
  subst hw'
  obtain ⟨es5, clock5, hb5, F5, hs5, hD5⟩ := ho5
  rw [heap_setBlock_same hb _] at hb5
  obtain ⟨rfl, rfl⟩ : es' = es5 ∧ clock' = clock5 := by simpa using hb5
  refine ⟨_, hr3, ⟨_, ⟨es', clock', heap_setBlock_same hw2' _, F5, hs5, rfl⟩, fun x => ?_⟩, ⟨rfl, rfl, rfl, by simp [setBlock], fun i _ hi => heap_setBlock_other hw2' _ (fun e => hi (by simp [e]))⟩⟩
  rw [← hD5, lookD_put hown.isMap, upd, hf x]
end MapAt
end Go.Proofs.YtjelehcnpocnoaaGreatDoor
