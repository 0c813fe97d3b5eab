/- Joined: RangeF. -/
import Derived.Test.YtjelehcnpocnoaaGreatDoorK01
import Derived.RangeFuncNested
import Derived.RangeFuncBound
import Derived.RangeFuncCalls
import Derived.RangeFuncLeaves
import Derived.Shelf.Abstract
import Derived.Shelf.RegionOpen
import Derived.OwnWalkIn
import Derived.TacticsInMore
import Derived.LoopNIn
import Derived.LoopIn
/- A range over a function whose iterator keeps its state in a cell: the statement, and one round. -/
namespace Go.Proofs.YtjelehcnpocnoaaGreatDoor
set_option linter.unusedSimpArgs false
set_option linter.unusedVariables false
set_option linter.unnecessarySimpa false
open Go.RowKit Go.Shelf

/-- The loop's record: ready, busy, at its end. -/
def loopRec (fn : FuncId) (tmps : Array Value) (ps : Array Tmp) (assign body : Code) (D : Nat) (st : LoopState) : Obj := .loop { state := st, pending := none, fn := fn, tmps := tmps, params := ps, assign := assign, body := body, defers := D }

variable {F : Fence} {n : Nat} {P : Program}

theorem wpIn_rangeF {g : Operand} {ps : Array Tmp} {assign body : Code} {Q : Exit → Act → World → Prop} {a : Act} {w : World} (hro : F.round = none) (h1 : 1 ≤ n) {gf : Nat} {lb : Array Value} (hg : a.eval g = .func (.func gf) #[] lb) (hFg : F.fn gf)
    (eg : ∀ args w, (callFunc gf args).run P w = .ok (.enter gf args) w)
    (h : ∀ (fn : FuncId) (rc : LoopState → Obj), F.fn fn → rc = loopRec fn a.tmps ps assign body w.heap.size → CallsIn F (n - 1) P gf (#[.func (.yield (w.heap.size + 1)) #[] #[]] ++ lb) ((w.alloc (.deferred (some []))).alloc (rc .ready)) fun e W' =>
      (∃ v, e = .returned v) ∧ W'.heap[w.heap.size + 1]? = some (rc .ready) ∧
        Q .normal { a with defers := { target := .collected w.heap.size, args := #[] } :: a.defers } (W'.putObj (w.heap.size + 1) (rc .exhausted))) :
    (Code.rangeFunc g ps assign body).wpIn F n P Q a w := by
  refine wpIn_rangeFunc ?_
  intro fn hfn
  rw [hro]
  refine ⟨w.heap.size + 1, [{ target := .collected w.heap.size, args := #[] }], (w.alloc (.deferred (some []))).alloc (loopRec fn a.tmps ps assign body w.heap.size .ready), { target := .fn (.func gf) lb, args := #[.func (.yield (w.heap.size + 1)) #[] #[]] },
    (w.alloc (.deferred (some []))).alloc (loopRec fn a.tmps ps assign body w.heap.size .ready), gf, #[.func (.yield (w.heap.size + 1)) #[] #[]] ++ lb, (w.alloc (.deferred (some []))).alloc (loopRec fn a.tmps ps assign body w.heap.size .ready), ?_, ?_, ?_, ?_, fun _ => h1, ?_⟩
  · exact run_enterLoop_outer _ _ _ _ _
  · simp only [resolve, hg]
    simp [go_sem]
  · intro f' hf'
    simp [Target.leads] at hf'
    subst hf'
    exact hFg
  · simp [invoke, go_sem, eg]
  · refine (h fn _ hfn rfl).mono ?_
    rintro e W' ⟨⟨v, rfl⟩, hl, hq⟩
    exact ⟨none, _, run_endLoop (P := P) hl (by simp), hq⟩

/-- A round that goes on. -/
def onPost (rc : LoopState → Obj) (l : Nat) (R : World → Prop) : Exit → Act → World → Prop
  | .normal, _, W3 => W3.heap[l]? = some (rc .busy) ∧ R (W3.putObj l (rc .ready))
  | _, _, _ => False
/-- The body of a round, where it begins. -/
def bodyAt (F : Fence) (m : Nat) (P : Program) (rc : LoopState → Obj) (l : Nat) (R : World → Prop) (body : Code) (a₁ : Act) (w₁ : World) : Prop :=
  w₁.heap[l]? = some (rc .ready) ∧ body.wpIn (F.inRound l) m P (onPost rc l R) a₁ (w₁.putObj l (rc .busy))
/-- One round that goes on. -/
theorem yield_on {W : World} {rc : LoopState → Obj} {fn : FuncId} {tmps : Array Value} {ps : Array Tmp} {assign body : Code} {D l m : Nat} {args : Array Value} {R : World → Prop} (hrc : rc = loopRec fn tmps ps assign body D) (hl : W.heap[l]? = some (rc .ready)) (hs : args.size = ps.size) (hfn : F.fn fn)
    (h : assign.wpIn (F.inRound l) m P (Exit.then (bodyAt F m P rc l R body) (fun _ _ _ => False))
      { tmps := (ps.zip args).foldl (fun tmps (t, a) => tmps.setIfInBounds t a) tmps, defers := [] } W) :
    YieldAt F m P l args W fun e W' => e = .returned (.bool true) ∧ R W' := by
  subst hrc
  refine ⟨fn, _, assign, body, run_yield (P := P) hl hs, roundIn_of_wpIn hfn (wpIn_mono h ?_)⟩
  rintro e a1 w1 h1
  cases e with
  | normal =>
    obtain ⟨h2, h3⟩ := h1
    refine ⟨_, run_beginRound h2 rfl, wpIn_mono h3 ?_⟩
    rintro e a3 W3 h3
    cases e with
    | normal =>
      obtain ⟨h4, h5⟩ := h3
      exact ⟨_, _, run_endRound (P := P) none h4, rfl, h5⟩
    | _ => exact h3.elim
  | _ => exact h1
/-- An object in its place. -/
theorem Fr.putObj {G : List Nat} {a w : World} (h : Fr G a w) {k : Nat} (o : Obj) (hk : k ∈ G ∨ a.heap.size ≤ k) : Fr G a (w.putObj k o) := h.grown (row := some k) (grownBy_putObj' w k o) (fun j e => by cases e; exact hk)
end Go.Proofs.YtjelehcnpocnoaaGreatDoor
