/- Joined: Map. -/
import Derived.Test.YtjelehcnpocnoaaGreatDoorK01
import Derived.Maps.OwnSet
import Derived.Maps.Range
/- Maps with strings for keys, seen as functions from strings to values. -/
namespace Go.Proofs.YtjelehcnpocnoaaGreatDoor
set_option linter.unusedSimpArgs false
set_option linter.unusedVariables false
set_option linter.unnecessarySimpa false
open Go.RowKit Go.ChangeMaps Go.Maps

/-- A value in a map, read as itself. -/
def Rv (v : Value) : Option (DataW Value × List MemPlace) := some (.held v, [])
def lookD (D : DataW Value) (s : Bs) : Option Value := if Maps.has D (.string s) then (match D.atKey (.string s) .nil with | .held v => some v | _ => none) else none
def MapAt (P : Program) (k : TypeId) (w : World) (b n : Nat) (f : Bs → Option Value) : Prop := ∃ D, w.ownsMap P k Rv b n D ∧ ∀ s : Bs, f s = lookD D s
def upd (f : Bs → Option Value) (s : Bs) (v : Option Value) : Bs → Option Value := fun x => if x = s then v else f x

theorem keyLit (s : Bs) : WideAt.IsKeyLit (.string s) := trivial
theorem atKey_indep {D : DataW Value} {k : Lit} (h : Maps.has D k = true) (z z' : DataW Value) : D.atKey k z = D.atKey k z' := by
  match D, h with
  | .map es, h =>
    simp only [DataW.atKey]
    split
    · rfl
    · rename_i hn
      obtain ⟨x, hm, hs⟩ := List.any_eq_true.1 h
      have := List.find?_eq_none.1 hn _ hm
      simp [hs] at this
theorem lookD_put {D : DataW Value} (hD : Maps.IsMap D) (s : Bs) (v : Value) (x : Bs) : lookD (D.put (.string s) (.held v)) x = if x = s then some v else lookD D x := by
  unfold lookD
  by_cases h : x = s
  · subst h
    rw [Maps.has_put_same hD (keyLit _), Maps.atKey_put_same hD (keyLit _)]
    simp
  · have hne : Lit.string x ≠ Lit.string s := fun e => h (by simpa using e)
    rw [Maps.has_put_other hne, Maps.atKey_put_other hne, if_neg h]
theorem lookD_del {D : DataW Value} (s : Bs) (x : Bs) : lookD (D.del (.string s)) x = if x = s then none else lookD D x := by
  unfold lookD
  by_cases h : x = s
  · subst h
    rw [Maps.has_del_same]
    simp
  · have hne : Lit.string x ≠ Lit.string s := fun e => h (by simpa using e)
    rw [Maps.has_del_other hne, Maps.atKey_del_other hne, if_neg h]

namespace MapAt
variable {P : Program} {k t e : TypeId} {w : World} {b n : Nat} {f : Bs → Option Value}
theorem made (P : Program) (k : TypeId) (w : World) : MapAt P k (w.alloc (.map #[] 0)) w.heap.size 0 (fun _ => none) :=
  ⟨_, World.ownsMap_made w P k Rv, fun s => by simp [lookD, Maps.has]⟩
theorem lt (h : MapAt P k w b n f) : b < w.heap.size := let ⟨_, h, _⟩ := h; h.lt
theorem row (h : MapAt P k w b n f) : ∃ es clock, w.heap[b]? = some (.map es clock) := let ⟨_, ⟨es, clock, h, _⟩, _⟩ := h; ⟨es, clock, h⟩
theorem mono (h : MapAt P k w b n f) {n' : Nat} (hn : n ≤ n') : MapAt P k w b n' f := let ⟨D, h, hf⟩ := h; ⟨D, h.mono hn, hf⟩
theorem fr {F : List Nat} {w' : World} (h : MapAt P k w b n f) (hF : Fr F w w') (hb : b ∉ F) : MapAt P k w' b n f := by
  obtain ⟨D, ⟨es, clock, hr, F1, hs, hD⟩, hf⟩ := h
  exact ⟨D, ⟨es, clock, hF.block hr hb, F1, hs, hD⟩, hf⟩
theorem off (h : MapAt P k w b n f) (e : TypeId) : Off [b] w e := by
  obtain ⟨es, clock, hr⟩ := h.row
  intro x hx ⟨cs, fr, hc⟩
  obtain rfl : x = b := by simpa using hx
  rw [hr] at hc
  cases hc
/-- Has a string's key. -/
theorem has_iff (h : MapAt P k w b n f) (hk : P.underlying k = some .string) (ht : P.underlying t = some (.map k e)) {z : Value} (hz : ∀ W, (zeroValue e).run P W = .ok z W) (s : Bs) (hs : s.length ≤ maxLen) :
    ∃ D, w.ownsMap P k Rv b n D ∧ f s = lookD D s ∧ Maps.has D (.string s) = (f s).isSome ∧ ∀ y, D.atKey (.string s) (.held y) = .held ((f s).getD y) := by
  obtain ⟨D, hD, hf⟩ := h
  have hkey : keyOf P k (.string (mk s)) = some (.string s) := by
    rw [WideMaps.keyOf_string_mk hk (by simpa [mk_size] using hs)]; simp [mk]
  refine ⟨D, hD, hf s, ?_⟩
  rw [hf s]
  unfold lookD
  by_cases hh : Maps.has D (.string s) = true
  · obtain ⟨v, ps, _, hv⟩ := hD.lookup (Maps.string_keyed hk) ht (hz w) (zd := .held z) (zp := []) rfl hkey
    have e1 : D.atKey (.string s) (.held z) = .held v := by simp only [Rv, Option.some.injEq, Prod.mk.injEq] at hv; exact hv.1.symm
    rw [atKey_indep hh .nil (.held z), e1, hh]
    refine ⟨rfl, fun y => ?_⟩
    rw [atKey_indep hh (.held y) (.held z), e1]; rfl
  · have hh : Maps.has D (.string s) = false := by simpa using hh
    rw [hh]
    exact ⟨rfl, fun y => by rw [Maps.atKey_of_not_has hh]; rfl⟩
/-- v, is := m[s] -/
theorem get_ok (h : MapAt P k w b n f) (hk : P.underlying k = some .string) (ht : P.underlying t = some (.map k e)) {z : Value} (hz : ∀ W, (zeroValue e).run P W = .ok z W) (s : Bs) (hs : s.length ≤ maxLen) :
    (Instr.lookup t (.map (some b)) (.string (mk s)) true).run P w = .ok (.tuple #[(f s).getD z, .bool (f s).isSome]) w := by
  obtain ⟨D, hD, hf, hh, hat⟩ := h.has_iff hk ht hz s hs
  have hkey : keyOf P k (.string (mk s)) = some (.string s) := by
    rw [WideMaps.keyOf_string_mk hk (by simpa [mk_size] using hs)]; simp [mk]
  obtain ⟨v, ps, hrun, hv⟩ := hD.look_ok (Maps.string_keyed hk) ht (hz w) (zd := .held z) (zp := []) rfl hkey
  rw [hat z] at hv
  have : v = (f s).getD z := by simp only [Rv, Option.some.injEq, Prod.mk.injEq, DataW.held.injEq] at hv; exact hv.1
  rw [hrun, this, hh]
/-- m[s] -/
theorem get (h : MapAt P k w b n f) (hk : P.underlying k = some .string) (ht : P.underlying t = some (.map k e)) {z : Value} (hz : ∀ W, (zeroValue e).run P W = .ok z W) (s : Bs) (hs : s.length ≤ maxLen) :
    (Instr.lookup t (.map (some b)) (.string (mk s)) false).run P w = .ok ((f s).getD z) w := by
  obtain ⟨D, hD, hf, hh, hat⟩ := h.has_iff hk ht hz s hs
  have hkey : keyOf P k (.string (mk s)) = some (.string s) := by
    rw [WideMaps.keyOf_string_mk hk (by simpa [mk_size] using hs)]; simp [mk]
  obtain ⟨v, ps, hrun, hv⟩ := hD.lookup (Maps.string_keyed hk) ht (hz w) (zd := .held z) (zp := []) rfl hkey
  rw [hat z] at hv
  have : v = (f s).getD z := by simp only [Rv, Option.some.injEq, Prod.mk.injEq, DataW.held.injEq] at hv; exact hv.1
  rw [hrun, this]
/-- m[s] = v -/
theorem put (h : MapAt P k w b n f) (hk : P.underlying k = some .string) (ht : P.underlying t = some (.map k e)) (hn : n < 9223372036854775807) (s : Bs) (hs : s.length ≤ maxLen) (v : Value) :
    ∃ w', (Instr.mapUpdate t (.map (some b)) (.string (mk s)) v).run P w = .ok () w' ∧ MapAt P k w' b (n + 1) (upd f s (some v)) ∧ Fr [b] w w' := by
  obtain ⟨D, hD, hf⟩ := h
  have hkey : keyOf P k (.string (mk s)) = some (.string s) := by
    rw [WideMaps.keyOf_string_mk hk (by simpa [mk_size] using hs)]; simp [mk]
  obtain ⟨w', hrun, h1, h2⟩ := hD.store (Maps.string_keyed hk) ht (by simpa only [maxLen] using hn) hkey (val := v) (d := .held v) (ps := []) rfl
  exact ⟨w', hrun, ⟨_, h1, fun x => by rw [lookD_put hD.isMap, upd, hf x]⟩, (Fr.refl _ _).grown h2.grown (fun k hk => .inl (by simpa [eq_comm] using hk))⟩
/-- delete(m, s) -/
theorem del (h : MapAt P k w b n f) (hk : P.underlying k = some .string) (ht : P.underlying t = some (.map k e)) (s : Bs) (hs : s.length ≤ maxLen) (ty : TypeId) :
    ∃ w', (Builtin.delete_ #[t, k] ty #[.map (some b), .string (mk s)]).run P w = .ok (.tuple #[]) w' ∧ MapAt P k w' b n (upd f s none) ∧ Fr [b] w w' := by
  obtain ⟨D, hD, hf⟩ := h
  have hkey : keyOf P k (.string (mk s)) = some (.string s) := by
    rw [WideMaps.keyOf_string_mk hk (by simpa [mk_size] using hs)]; simp [mk]
  obtain ⟨w', hrun, h1, h2⟩ := hD.drop (Maps.string_keyed hk) ht hkey ty
  exact ⟨w', hrun, ⟨_, h1, fun x => by rw [lookD_del, upd, hf x]⟩, (Fr.refl _ _).grown h2.grown (fun k hk => .inl (by simpa [eq_comm] using hk))⟩
end MapAt
end Go.Proofs.YtjelehcnpocnoaaGreatDoor
