/- Joined: TreeE. -/
import Derived.Test.YtjelehcnpocnoaaGreatDoorK16
import Derived.Test.YtjelehcnpocnoaaGreatDoorK21
/- Layer 13, trees: which entries the trees of files have; in plain words. -/
namespace Go.Proofs.YtjelehcnpocnoaaGreatDoor
set_option linter.unusedSimpArgs false
set_option linter.unusedVariables false
set_option linter.unnecessarySimpa false
open Go.RowKit
set_option maxRecDepth 100000
set_option maxHeartbeats 4000000

def leafOf (f : Fl) : Option Ent := match cut1 f.path with
  | none => some ⟨f.path, false, f.id⟩
  | some _ => none
def dirOf (f : Fl) : Option Bs := (cut1 f.path).map Prod.fst
def inOf (nm : Bs) (f : Fl) : Option Fl := match cut1 f.path with
  | none => none
  | some p => if p.1 = nm then some ⟨p.2, f.id⟩ else none
/-- The files of this directory itself. -/
def leaves (l : List Fl) : List Ent := l.filterMap leafOf
def dirNames (l : List Fl) : List Bs := l.filterMap dirOf
/-- The files of a directory, told from it on. -/
def inDir (l : List Fl) (nm : Bs) : List Fl := l.filterMap (inOf nm)
def insS (s : Bs) : List Bs → List Bs
  | [] => [s]
  | x :: l => if s < x then s :: x :: l else if s = x then x :: l else x :: insS s l
/-- The directories, rising. -/
def names (l : List Fl) : List Bs := (dirNames l).foldr insS []
def sortE (l : List Ent) : List Ent := l.mergeSort fun x y => decide (x.name ≤ y.name)
/-- The entries of the files' tree. -/
def treeE : Nat → List Fl → List Ent
  | 0, _ => []
  | n + 1, l => sortE (leaves l ++ (names l).map fun nm => ⟨nm, true, sumF (encTree (treeE n (inDir l nm)))⟩)
def entsOf (n : Nat) (l : List Fl) : List Ent := leaves l ++ (names l).map fun nm => ⟨nm, true, sumF (encTree (treeE n (inDir l nm)))⟩
def addT (o : List (List Ent)) (r : List Ent) : List (List Ent) := if r ∈ o then o else o ++ [r]
/-- The trees, each once, behind those that were built. -/
def subE : Nat → List Fl → List (List Ent) → List (List Ent)
  | 0, _, o => o
  | n + 1, l, o => addT ((names l).foldl (fun o nm => subE n (inDir l nm) o) o) (treeE (n + 1) l)

theorem uniq {α : Type} (r : α → α → Prop) (asy : ∀ x y, r x y → ¬ r y x) : ∀ l k : List α, l.Pairwise r → k.Pairwise r → (∀ x, x ∈ l ↔ x ∈ k) → l = k
  | [], [], _, _, _ => rfl
  | [], y :: k, _, _, h => by have := (h y).2 (by simp); cases this
  | x :: l, [], _, _, h => by have := (h x).1 (by simp); cases this
  | x :: l, y :: k, hl, hk, h => by
    obtain ⟨h1, h2⟩ := List.pairwise_cons.1 hl
    obtain ⟨k1, k2⟩ := List.pairwise_cons.1 hk
    have hxy : x = y := by
      rcases List.mem_cons.1 ((h x).1 (by simp)) with e | e
      · exact e
      · rcases List.mem_cons.1 ((h y).2 (by simp)) with e' | e'
        · exact e'.symm
        · exact absurd (h1 y e') (asy _ _ (k1 x e))
    subst hxy
    refine congrArg _ (uniq r asy l k h2 k2 fun z => ⟨fun hz => ?_, fun hz => ?_⟩)
    · rcases List.mem_cons.1 ((h z).1 (by simp [hz])) with e | e
      · subst e; exact absurd (h1 _ hz) (asy _ _ (h1 _ hz))
      · exact e
    · rcases List.mem_cons.1 ((h z).2 (by simp [hz])) with e | e
      · subst e; exact absurd (k1 _ hz) (asy _ _ (k1 _ hz))
      · exact e
theorem lt_as (x y : Bs) (h : x < y) : ¬ y < x := fun h' => List.lt_irrefl x (List.lt_trans h h')
theorem le_ne_lt {x y : Bs} (h : x ≤ y) (hne : x ≠ y) : x < y := by
  rcases Decidable.em (x < y) with h1 | h1
  · exact h1
  · exact absurd (List.le_antisymm h (List.not_lt.1 h1)) hne
theorem insS_mem (s x : Bs) : ∀ l : List Bs, x ∈ insS s l ↔ x = s ∨ x ∈ l
  | [] => by simp [insS]
  | y :: l => by
    unfold insS
    split
    · simp
    · split
      · rename_i h; subst h; simp
      · simp [insS_mem s x l]; constructor <;> (rintro (h | h | h) <;> simp [h])
theorem insS_sorted (s : Bs) : ∀ l : List Bs, l.Pairwise (· < ·) → (insS s l).Pairwise (· < ·)
  | [], _ => by simp [insS]
  | y :: l, h => by
    obtain ⟨h1, h2⟩ := List.pairwise_cons.1 h
    unfold insS
    split
    · rename_i hs
      refine List.pairwise_cons.2 ⟨fun z hz => ?_, h⟩
      rcases List.mem_cons.1 hz with rfl | hz
      · exact hs
      · exact List.lt_trans hs (h1 z hz)
    · split
      · exact h
      · rename_i hs hne
        refine List.pairwise_cons.2 ⟨fun z hz => ?_, insS_sorted s l h2⟩
        rcases (insS_mem s z l).1 hz with rfl | hz
        · exact le_ne_lt (List.not_lt.1 hs) (Ne.symm hne)
        · exact h1 z hz
theorem insS_len (s : Bs) : ∀ l : List Bs, (insS s l).length ≤ l.length + 1
  | [] => by simp [insS]
  | y :: l => by
    have := insS_len s l
    unfold insS
    split
    · simp
    · split <;> simp; omega
theorem names_mem (l : List Fl) (x : Bs) : x ∈ names l ↔ x ∈ dirNames l := by
  unfold names
  induction dirNames l with
  | nil => simp
  | cons d ds ih => rw [List.foldr_cons, insS_mem, ih, List.mem_cons]
theorem names_sorted (l : List Fl) : (names l).Pairwise (· < ·) := by
  unfold names
  induction dirNames l with
  | nil => simp
  | cons d ds ih => rw [List.foldr_cons]; exact insS_sorted _ _ ih
theorem names_nodup (l : List Fl) : (names l).Nodup := (names_sorted l).imp fun {x y} h e => by subst e; exact List.lt_irrefl _ h
theorem names_len (l : List Fl) : (names l).length ≤ (dirNames l).length := by
  unfold names
  induction dirNames l with
  | nil => simp
  | cons d ds ih => rw [List.foldr_cons]; have := insS_len d (ds.foldr insS []); simp; omega
/-- What slices.Sorted(maps.Keys(dirs)) is. -/
theorem names_eq {l : List Fl} {ss : List Bs} (h1 : ss.Nodup) (h2 : ss.Pairwise (fun x y => x ≤ y)) (h3 : ∀ x, x ∈ ss ↔ x ∈ dirNames l) : ss = names l := by
  refine uniq (· < ·) lt_as _ _ ?_ (names_sorted l) fun x => by rw [h3, names_mem]
  have := List.Pairwise.and h2 h1
  exact this.imp fun {x y} h => le_ne_lt h.1 h.2
theorem dirNames_mem {l : List Fl} {nm : Bs} : nm ∈ dirNames l ↔ ∃ f ∈ l, ∃ b, cut1 f.path = some (nm, b) := by
  simp only [dirNames, List.mem_filterMap, dirOf, Option.map_eq_some_iff, Prod.exists]
  constructor
  · rintro ⟨f, hf, a, b, h, rfl⟩; exact ⟨f, hf, b, h⟩
  · rintro ⟨f, hf, b, h⟩; exact ⟨f, hf, nm, b, h, rfl⟩
theorem inOf_some {nm : Bs} {f g : Fl} : inOf nm f = some g ↔ cut1 f.path = some (nm, g.path) ∧ f.id = g.id := by
  unfold inOf
  cases h : cut1 f.path with
  | none => simp
  | some p =>
    obtain ⟨a, b⟩ := p
    obtain ⟨gp, gi⟩ := g
    simp only [Option.some.injEq, Prod.mk.injEq]
    by_cases e : a = nm
    · simp [e]
    · simp [e]
theorem inDir_mem {l : List Fl} {nm : Bs} {g : Fl} : g ∈ inDir l nm ↔ ∃ f ∈ l, cut1 f.path = some (nm, g.path) ∧ f.id = g.id := by
  simp only [inDir, List.mem_filterMap, inOf_some]
theorem inDir_ne {l : List Fl} {nm : Bs} : nm ∈ dirNames l ↔ inDir l nm ≠ [] := by
  rw [dirNames_mem]
  constructor
  · rintro ⟨f, hf, b, h⟩
    exact List.ne_nil_of_mem (inDir_mem.2 ⟨f, hf, (show cut1 f.path = some (nm, (⟨b, f.id⟩ : Fl).path) from h), rfl⟩)
  · intro h
    obtain ⟨g, hg⟩ := List.exists_mem_of_ne_nil _ h
    obtain ⟨f, hf, h1, _⟩ := inDir_mem.1 hg
    exact ⟨f, hf, _, h1⟩
theorem leaf_mem {l : List Fl} {e : Ent} : e ∈ leaves l ↔ ∃ f ∈ l, cut1 f.path = none ∧ e = ⟨f.path, false, f.id⟩ := by
  simp only [leaves, List.mem_filterMap, leafOf]
  constructor
  · rintro ⟨f, hf, h⟩
    cases hc : cut1 f.path with
    | none => rw [hc] at h; exact ⟨f, hf, hc, by simpa [eq_comm] using h⟩
    | some p => rw [hc] at h; cases h
  · rintro ⟨f, hf, hc, rfl⟩
    exact ⟨f, hf, by rw [hc]⟩
theorem len_split (l : List Fl) : (leaves l).length + (dirNames l).length = l.length := by
  induction l with
  | nil => rfl
  | cons f l ih =>
    unfold leaves dirNames at *
    rw [List.filterMap_cons, List.filterMap_cons]
    unfold leafOf dirOf at *
    cases cut1 f.path with
    | none => simp at ih ⊢; omega
    | some p => simp at ih ⊢; omega
theorem inDir_len (l : List Fl) (nm : Bs) : (inDir l nm).length ≤ l.length := List.length_filterMap_le _ _
theorem inDir_path {l : List Fl} {nm : Bs} {g : Fl} (h : g ∈ inDir l nm) : 47 ∉ nm ∧ ∃ f ∈ l, f.path = nm ++ 47 :: g.path ∧ f.id = g.id := by
  obtain ⟨f, hf, h1, h2⟩ := inDir_mem.1 h
  obtain ⟨e1, e2, _, _⟩ := cut1_some h1
  exact ⟨e2, f, hf, e1, h2⟩
theorem cut1_app {a : Bs} (h : 47 ∉ a) (b : Bs) : cut1 (a ++ 47 :: b) = some (a, b) := by
  induction a with
  | nil => simp [cut1]
  | cons c a ih =>
    have hc : c ≠ 47 := fun e => h (by simp [e])
    have := ih (fun hm => h (by simp [hm]))
    simp [cut1, hc, this]
/-- Files that may be, told from a directory on. -/
structure Good (l : List Fl) : Prop where
  ok : ∀ f ∈ l, (∀ p ∈ splitP f.path, partOk p = true) ∧ f.id.length = 32
  nodup : l.Pairwise (fun f g => f.path ≠ g.path)
  nopre : ∀ f ∈ l, ∀ g ∈ l, ∀ s, g.path ≠ f.path ++ 47 :: s
  len : l.length ≤ 4096
theorem Good.one {l : List Fl} (h : Good l) {f g : Fl} (hf : f ∈ l) (hg : g ∈ l) (e : f.path = g.path) : f = g := by
  obtain ⟨i, hi, rfl⟩ := List.getElem_of_mem hf
  obtain ⟨j, hj, rfl⟩ := List.getElem_of_mem hg
  have := List.pairwise_iff_getElem.1 h.nodup
  rcases Nat.lt_trichotomy i j with h1 | h1 | h1
  · exact absurd e (this i j hi hj h1)
  · subst h1; rfl
  · exact absurd e.symm (this j i hj hi h1)
theorem Good.sub {l : List Fl} (h : Good l) (nm : Bs) : Good (inDir l nm) := by
  refine ⟨fun g hg => ?_, ?_, fun f hf g hg s e => ?_, Nat.le_trans (inDir_len l nm) h.len⟩
  · obtain ⟨f, hf, h1, h2⟩ := inDir_mem.1 hg
    obtain ⟨k1, k2⟩ := h.ok f hf
    rw [(cut1_some h1).2.2.1] at k1
    exact ⟨fun p hp => k1 p (by simp [hp]), by rw [← h2]; exact k2⟩
  · refine List.pairwise_filterMap.2 (h.nodup.imp fun {f g} hne f' hf' g' hg' e => hne ?_)
    obtain ⟨h1, _⟩ := inOf_some.1 hf'
    obtain ⟨h2, _⟩ := inOf_some.1 hg'
    rw [(cut1_some h1).1, (cut1_some h2).1, e]
  · obtain ⟨_, f', hf', e1, _⟩ := inDir_path hf
    obtain ⟨_, g', hg', e2, _⟩ := inDir_path hg
    exact h.nopre f' hf' g' hg' s (by rw [e1, e2, e]; simp)
theorem Good.name {l : List Fl} (h : Good l) {nm : Bs} (hn : nm ∈ dirNames l) : partOk nm = true := by
  obtain ⟨f, hf, b, hc⟩ := dirNames_mem.1 hn
  have := (h.ok f hf).1
  rw [(cut1_some hc).2.2.1] at this
  exact this nm (by simp)
theorem entsOf_mem {n : Nat} {l : List Fl} {e : Ent} : e ∈ entsOf n l ↔ (∃ f ∈ l, cut1 f.path = none ∧ e = ⟨f.path, false, f.id⟩) ∨ ∃ nm ∈ dirNames l, e = ⟨nm, true, sumF (encTree (treeE n (inDir l nm)))⟩ := by
  unfold entsOf
  rw [List.mem_append, leaf_mem, List.mem_map]
  simp only [names_mem, eq_comm]
theorem entsOf_len (n : Nat) (l : List Fl) : (entsOf n l).length ≤ l.length := by
  have h1 := len_split l
  have h2 := names_len l
  simp [entsOf]; omega
/-- No two entries have one name. -/
theorem Good.names {l : List Fl} (h : Good l) (n : Nat) : (entsOf n l).Pairwise (fun x y => x.name ≠ y.name) := by
  unfold entsOf
  refine List.pairwise_append.2 ⟨?_, ?_, fun x hx y hy => ?_⟩
  · refine List.pairwise_filterMap.2 (h.nodup.imp fun {f g} hne x hx y hy e => hne ?_)
    unfold leafOf at hx hy
    cases hc : cut1 f.path with
    | some p => rw [hc] at hx; cases hx
    | none =>
      cases hd : cut1 g.path with
      | some p => rw [hd] at hy; cases hy
      | none =>
        rw [hc] at hx; rw [hd] at hy
        cases hx; cases hy
        exact e
  · exact List.pairwise_map.2 ((names_nodup l).imp fun {x y} hne => hne)
  · obtain ⟨f, hf, hc, rfl⟩ := leaf_mem.1 hx
    obtain ⟨nm, hn, rfl⟩ := List.mem_map.1 hy
    obtain ⟨g, hg, b, hd⟩ := dirNames_mem.1 ((names_mem _ _).1 hn)
    intro e
    simp only at e
    exact h.nopre f hf g hg b (by rw [(cut1_some hd).1, e])
theorem lbE_trans : ∀ a b c : Ent, decide (a.name ≤ b.name) = true → decide (b.name ≤ c.name) = true → decide (a.name ≤ c.name) = true := fun a b c h1 h2 => by
  simp only [decide_eq_true_eq] at *; exact List.le_trans h1 h2
theorem lbE_total : ∀ a b : Ent, (decide (a.name ≤ b.name) || decide (b.name ≤ a.name)) = true := fun a b => by
  simp only [Bool.or_eq_true, decide_eq_true_eq]; exact List.le_total _ _
theorem rise_of {l : List Ent} (h1 : l.Pairwise (fun x y => x.name ≤ y.name)) (h2 : l.Pairwise (fun x y => x.name ≠ y.name)) : l.Pairwise (fun x y => x.name < y.name) :=
  (List.Pairwise.and h1 h2).imp fun {x y} h => le_ne_lt h.1 h.2
theorem ne_perm {l k : List Ent} (hp : l.Perm k) (h : k.Pairwise (fun x y => x.name ≠ y.name)) : l.Pairwise (fun x y => x.name ≠ y.name) :=
  (hp.pairwise_iff (fun {x y} h => Ne.symm h)).2 h
/-- However they are sorted by name. -/
theorem sort_one {l l' : List Ent} (hp : l'.Perm l) (hs : l'.Pairwise (fun x y => x.name ≤ y.name)) (hn : l.Pairwise (fun x y => x.name ≠ y.name)) : l' = sortE l := by
  have hp2 : (sortE l).Perm l := List.mergeSort_perm _ _
  have hs2 : (sortE l).Pairwise (fun x y => x.name ≤ y.name) := (List.pairwise_mergeSort lbE_trans lbE_total l).imp (by simp)
  exact uniq (fun x y : Ent => x.name < y.name) (fun x y => lt_as _ _) _ _ (rise_of hs (ne_perm hp hn)) (rise_of hs2 (ne_perm hp2 hn)) (fun x => by rw [hp.mem_iff, hp2.mem_iff])
theorem treeE_succ (n : Nat) (l : List Fl) : treeE (n + 1) l = sortE (entsOf n l) := rfl
theorem treeE_perm (n : Nat) (l : List Fl) : (treeE (n + 1) l).Perm (entsOf n l) := List.mergeSort_perm _ _
theorem Good.rise {l : List Fl} (h : Good l) (n : Nat) : (treeE (n + 1) l).Pairwise (fun x y => x.name < y.name) :=
  rise_of ((List.pairwise_mergeSort lbE_trans lbE_total _).imp (by simp)) (ne_perm (treeE_perm n l) (h.names n))
theorem Good.ents {l : List Fl} (h : Good l) (n : Nat) : okEnts (treeE (n + 1) l) := by
  refine ⟨fun e he => ?_, fun k x y hx hy => ?_, ?_⟩
  · rcases entsOf_mem.1 ((treeE_perm n l).mem_iff.1 he) with ⟨f, hf, hc, rfl⟩ | ⟨nm, hn, rfl⟩
    · obtain ⟨h1, h2⟩ := h.ok f hf
      rw [(cut1_none hc).2.1] at h1
      exact ⟨h1 _ (by simp), h2⟩
    · exact ⟨h.name hn, sumF_len _⟩
  · obtain ⟨h1, rfl⟩ := List.getElem?_eq_some_iff.1 hx
    obtain ⟨h2, rfl⟩ := List.getElem?_eq_some_iff.1 hy
    exact List.pairwise_iff_getElem.1 (h.rise n) k (k + 1) h1 h2 (by omega)
  · rw [(treeE_perm n l).length_eq]
    exact Nat.le_trans (entsOf_len n l) h.len
theorem Good.ents0 (n : Nat) {l : List Fl} (h : Good l) : okEnts (treeE n l) := by
  rcases n with _ | n
  · exact ⟨by simp [treeE], by simp [treeE], by simp [treeE]⟩
  · exact h.ents n
theorem treeE_len (n : Nat) (l : List Fl) : (treeE n l).length ≤ l.length := by
  rcases n with _ | n
  · simp [treeE]
  · rw [(treeE_perm n l).length_eq]; exact entsOf_len n l

theorem addT_mem {o : List (List Ent)} {r x : List Ent} : x ∈ addT o r ↔ x ∈ o ∨ x = r := by
  unfold addT
  split
  · rename_i h
    constructor
    · exact .inl
    · rintro (h' | rfl) <;> assumption
  · simp
theorem addT_len (o : List (List Ent)) (r : List Ent) : (addT o r).length ≤ o.length + 1 := by
  unfold addT
  split <;> simp
theorem sub_mono (n : Nat) : ∀ (l : List Fl) (o : List (List Ent)) (x : List Ent), x ∈ o → x ∈ subE n l o := by
  induction n with
  | zero => exact fun _ _ _ h => h
  | succ n ih =>
    intro l o x hx
    unfold subE
    rw [addT_mem]
    refine .inl ?_
    generalize names l = ns
    induction ns generalizing o with
    | nil => exact hx
    | cons nm ns ihn => rw [List.foldl_cons]; exact ihn _ (ih _ _ _ hx)
theorem sub_fold_mono (n : Nat) (l : List Fl) (ns : List Bs) : ∀ (o : List (List Ent)) (x : List Ent), x ∈ o → x ∈ ns.foldl (fun o nm => subE n (inDir l nm) o) o := by
  induction ns with
  | nil => exact fun _ _ h => h
  | cons nm ns ihn => intro o x hx; rw [List.foldl_cons]; exact ihn _ _ (sub_mono n _ _ _ hx)
theorem sub_fold (n : Nat) (l : List Fl) (nm : Bs) : ∀ (ns : List Bs) (o : List (List Ent)), nm ∈ ns → ∃ o', ∀ x ∈ subE n (inDir l nm) o', x ∈ ns.foldl (fun o nm => subE n (inDir l nm) o) o
  | [], _, h => by cases h
  | d :: ns, o, h => by
    rw [List.foldl_cons]
    rcases List.mem_cons.1 h with rfl | h
    · exact ⟨o, fun x hx => sub_fold_mono n l ns _ _ hx⟩
    · exact sub_fold n l nm ns _ h
/-- The trees are all there. -/
def Held (O : Bs → Option (List Ent)) : Nat → List Fl → Prop
  | 0, _ => True
  | n + 1, l => O (sumF (encTree (treeE (n + 1) l))) = some (treeE (n + 1) l) ∧ ∀ nm ∈ names l, Held O n (inDir l nm)
theorem held_of {O : Bs → Option (List Ent)} (n : Nat) : ∀ (l : List Fl) (o : List (List Ent)), (∀ x ∈ subE n l o, O (sumF (encTree x)) = some x) → Held O n l := by
  induction n with
  | zero => exact fun _ _ _ => trivial
  | succ n ih =>
    intro l o h
    refine ⟨h _ (by unfold subE; rw [addT_mem]; exact .inr rfl), fun nm hn => ?_⟩
    obtain ⟨o', ho'⟩ := sub_fold n l nm (names l) o hn
    exact ih _ o' fun x hx => h x (by unfold subE; rw [addT_mem]; exact .inl (ho' x hx))
theorem sub_ok (n : Nat) : ∀ (l : List Fl) (o : List (List Ent)), Good l → (∀ x ∈ o, okEnts x ∧ x.length ≤ 4096) → ∀ x ∈ subE n l o, okEnts x ∧ x.length ≤ 4096 := by
  induction n with
  | zero => exact fun _ _ _ h => h
  | succ n ih =>
    intro l o hg ho x hx
    unfold subE at hx
    rcases addT_mem.1 hx with h | rfl
    · revert h x
      suffices ∀ (ns : List Bs) (o : List (List Ent)), (∀ x ∈ o, okEnts x ∧ x.length ≤ 4096) → ∀ x ∈ ns.foldl (fun o nm => subE n (inDir l nm) o) o, okEnts x ∧ x.length ≤ 4096 from fun x _ h => this _ _ ho x h
      intro ns
      induction ns with
      | nil => exact fun _ h => h
      | cons nm ns ihn => intro o ho x hx; rw [List.foldl_cons] at hx; exact ihn _ (ih _ _ (hg.sub nm) ho) x hx
    · exact ⟨hg.ents n, (hg.ents n).2.2⟩
/-- How many trees there are at most. -/
def wt (l : List Fl) : Nat := (l.map fun f => f.path.length + 1).sum
theorem wt_in (l : List Fl) (nm : Bs) (f : Fl) : wt (inDir (f :: l) nm) = (match inOf nm f with | none => 0 | some g => g.path.length + 1) + wt (inDir l nm) := by
  unfold inDir wt
  rw [List.filterMap_cons]
  cases inOf nm f with
  | none => simp
  | some g => simp
theorem wt_one (f : Fl) : ∀ ns : List Bs, ns.Nodup → (ns.map fun nm => (match inOf nm f with | none => 0 | some g => g.path.length + 1)).sum ≤ f.path.length
  | [], _ => by simp
  | nm :: ns, h => by
    obtain ⟨h1, h2⟩ := List.nodup_cons.1 h
    rw [List.map_cons, List.sum_cons]
    cases hi : inOf nm f with
    | none => simpa using wt_one f ns h2
    | some g =>
      obtain ⟨hc, _⟩ := inOf_some.1 hi
      have hz : (ns.map fun nm => (match inOf nm f with | none => 0 | some g => g.path.length + 1)).sum = 0 := by
        rw [List.sum_eq_zero_iff_forall_eq_nat]
        intro x hx
        obtain ⟨d, hd, rfl⟩ := List.mem_map.1 hx
        cases hj : inOf d f with
        | none => rfl
        | some g' =>
          obtain ⟨hc', _⟩ := inOf_some.1 hj
          rw [hc] at hc'
          simp only [Option.some.injEq, Prod.mk.injEq] at hc'
          exact absurd (hc'.1 ▸ hd) h1
      rw [hz]
      have := (cut1_some hc).1
      rw [this]
      simp
theorem sum_add (g h : Bs → Nat) (ns : List Bs) : (ns.map fun x => g x + h x).sum = (ns.map g).sum + (ns.map h).sum := by
  induction ns with
  | nil => rfl
  | cons x ns ih => simp only [List.map_cons, List.sum_cons, ih]; omega
theorem wt_sum (ns : List Bs) (hn : ns.Nodup) : ∀ l : List Fl, (ns.map fun nm => wt (inDir l nm)).sum + l.length ≤ wt l
  | [] => by
    have : (ns.map fun nm => wt (inDir [] nm)) = ns.map fun _ => 0 := rfl
    rw [this]
    have : (ns.map fun _ : Bs => 0).sum = 0 := by rw [List.sum_eq_zero_iff_forall_eq_nat]; simp
    rw [this]; simp
  | f :: l => by
    have h1 := wt_sum ns hn l
    have h2 := wt_one f ns hn
    have h3 : (ns.map fun nm => wt (inDir (f :: l) nm)).sum = (ns.map fun nm => (match inOf nm f with | none => 0 | some g => g.path.length + 1)).sum + (ns.map fun nm => wt (inDir l nm)).sum := by
      simp only [wt_in]
      exact sum_add _ _ ns
    have h4 : wt (f :: l) = f.path.length + 1 + wt l := by simp [wt]
    rw [h3, h4, List.length_cons]
    omega
theorem sub_len (n : Nat) : ∀ (l : List Fl) (o : List (List Ent)), (subE n l o).length ≤ o.length + 1 + wt l := by
  induction n with
  | zero => intro l o; simp [subE]; omega
  | succ n ih =>
    intro l o
    have h0 := wt_sum (names l) (names_nodup l) l
    have h1 := names_len l
    have h2 := len_split l
    have h3 : ∀ (ns : List Bs) (o : List (List Ent)), (ns.foldl (fun o nm => subE n (inDir l nm) o) o).length ≤ o.length + ns.length + (ns.map fun nm => wt (inDir l nm)).sum := by
      intro ns
      induction ns with
      | nil => simp
      | cons nm ns ihn =>
        intro o
        rw [List.foldl_cons]
        have := ihn (subE n (inDir l nm) o)
        have := ih (inDir l nm) o
        simp only [List.length_cons, List.map_cons, List.sum_cons]
        omega
    have h4 := h3 (names l) o
    have h5 := addT_len ((names l).foldl (fun o nm => subE n (inDir l nm) o) o) (treeE (n + 1) l)
    unfold subE
    omega
end Go.Proofs.YtjelehcnpocnoaaGreatDoor
