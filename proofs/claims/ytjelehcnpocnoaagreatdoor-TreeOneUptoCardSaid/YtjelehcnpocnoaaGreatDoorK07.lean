/- Joined: Path. -/
import Derived.Test.YtjelehcnpocnoaaGreatDoorK06
import Derived.Lib.SplitLaws
import Derived.Lib.IndexBytes
/- Layer 13, paths: cut at slashes; may a path be. -/
namespace Go.Proofs.YtjelehcnpocnoaaGreatDoor
set_option linter.unusedSimpArgs false
set_option linter.unusedVariables false
set_option linter.unnecessarySimpa false
open Go.RowKit
set_option maxRecDepth 100000
set_option maxHeartbeats 4000000

/-- Cut at the first slash. -/
def cut1 : Bs → Option (Bs × Bs)
  | [] => none
  | c :: s => if c = 47 then some ([], s) else (cut1 s).map fun p => (c :: p.1, p.2)
/-- The pieces between the slashes. -/
def splitP : Bs → List Bs
  | [] => [[]]
  | c :: s => if c = 47 then [] :: splitP s else (match splitP s with | h :: t => (c :: h) :: t | [] => [[c]])
theorem splitP_ne : ∀ s : Bs, ∃ h t, splitP s = h :: t
  | [] => ⟨_, _, rfl⟩
  | c :: s => by
    obtain ⟨h, t, e⟩ := splitP_ne s
    unfold splitP
    split
    · exact ⟨_, _, rfl⟩
    · rw [e]; exact ⟨_, _, rfl⟩
theorem cut1_none : ∀ {s : Bs}, cut1 s = none → 47 ∉ s ∧ splitP s = [s] ∧ Lib.indexByte s 47 = -1
  | [], _ => ⟨by simp, rfl, rfl⟩
  | c :: s, h => by
    unfold cut1 at h
    split at h
    · cases h
    · rename_i hc
      obtain ⟨h1, h2, h3⟩ := cut1_none (by simpa using h)
      refine ⟨by simp [h1, Ne.symm hc], by rw [splitP, if_neg hc, h2], ?_⟩
      have hb : (c == 47) = false := by simpa using hc
      simp [Lib.indexByte, hb, h3]
theorem cut1_some : ∀ {s a b : Bs}, cut1 s = some (a, b) → s = a ++ 47 :: b ∧ 47 ∉ a ∧ splitP s = a :: splitP b ∧ Lib.indexByte s 47 = (a.length : Nat)
  | [], _, _, h => by cases h
  | c :: s, a, b, h => by
    unfold cut1 at h
    split at h
    · rename_i hc
      simp only [Option.some.injEq, Prod.mk.injEq] at h
      obtain ⟨rfl, rfl⟩ := h
      subst hc
      exact ⟨rfl, by simp, by rw [splitP, if_pos rfl], by simp [Lib.indexByte]⟩
    · rename_i hc
      obtain ⟨⟨a', b'⟩, hp, he⟩ := Option.map_eq_some_iff.1 h
      simp only [Prod.mk.injEq] at he
      obtain ⟨rfl, rfl⟩ := he
      obtain ⟨h1, h2, h3, h4⟩ := cut1_some hp
      have hb : (c == 47) = false := by simpa using hc
      refine ⟨by rw [h1]; rfl, by simp [h2, Ne.symm hc], by rw [splitP, if_neg hc, h3], ?_⟩
      have hne : ¬ ((a'.length : Int) = -1) := by omega
      simp [Lib.indexByte, hb, h4, hne]
theorem lib_cut (s : Bs) : Lib.cut s [47] = (match cut1 s with | none => (s, [], false) | some (a, b) => (a, b, true)) := by
  unfold Lib.cut
  rw [Lib.index_one]
  cases h : cut1 s with
  | none => rw [(cut1_none h).2.2]; rfl
  | some p =>
    obtain ⟨a, b⟩ := p
    obtain ⟨h1, _, _, h4⟩ := cut1_some h
    rw [h4, if_pos (by omega)]
    simp [h1]
theorem splitK_eq : ∀ (n : Nat) (s : Bs), s.length ≤ n → Lib.splitK [47] 0 (s.count 47) s = splitP s
  | n, s, hn => by
    cases h : cut1 s with
    | none =>
      obtain ⟨h1, h2, h3⟩ := cut1_none h
      rw [List.count_eq_zero.2 h1, h2]
      rfl
    | some p =>
      obtain ⟨a, b⟩ := p
      obtain ⟨h1, h2, h3, h4⟩ := cut1_some h
      have hc : s.count 47 = b.count 47 + 1 := by rw [h1]; simp [List.count_append, List.count_eq_zero.2 h2]
      have hl : b.length < s.length := by rw [h1]; simp; omega
      rw [hc, h3]
      unfold Lib.splitK
      rw [Lib.index_one, h4]
      have hne : ¬ (((a.length : Nat) : Int) == -1) = true := by simp
      rw [if_neg hne]
      have e1 : s.take (((a.length : Nat) : Int).toNat + 0) = a := by rw [h1]; simp
      have e2 : s.drop (((a.length : Nat) : Int).toNat + [(47 : UInt8)].length) = b := by rw [h1]; simp
      rw [e1, e2]
      match n, hn with
      | 0, hn => omega
      | n + 1, hn => rw [splitK_eq n b (by omega)]
theorem splitP_length (s : Bs) : (splitP s).length = s.count 47 + 1 := by
  induction s with
  | nil => rfl
  | cons c s ih =>
    obtain ⟨h, t, e⟩ := splitP_ne s
    unfold splitP
    split
    · rename_i hc; subst hc; simp [ih]
    · rename_i hc
      rw [e] at ih ⊢
      rw [List.count_cons]
      simp at ih ⊢
      rw [if_neg (by simpa using hc)]
      omega
def namedOk (s : Bs) : Bool := (splitP s).all partOk && decide ((splitP s).length ≤ 16) && decide (s.length ≤ 150)
theorem namedOk_iff (s : Bs) : namedOk s = true ↔ (∀ p ∈ splitP s, partOk p = true) ∧ (splitP s).length ≤ 16 ∧ s.length ≤ 150 := by simp [namedOk, and_assoc]
end Go.Proofs.YtjelehcnpocnoaaGreatDoor
