/- Joined: ReadE Dirs Build Write ReadT. -/
import Derived.Test.YtjelehcnpocnoaaGreatDoorK22
import Derived.Test.YtjelehcnpocnoaaGreatDoorK24
/- Layer 13, trees: what a reader of the trees finds; in plain words. -/
namespace Go.Proofs.YtjelehcnpocnoaaGreatDoor
set_option linter.unusedSimpArgs false
set_option linter.unusedVariables false
set_option linter.unnecessarySimpa false
open Go.RowKit
set_option maxRecDepth 100000
set_option maxHeartbeats 4000000

def preF (d : Bs) (f : Fl) : Fl := ⟨d ++ f.path, f.id⟩
/-- The files of a tree, as it is read. -/
def flatE : Nat → Bs → List Fl → List Fl
  | 0, _, _ => []
  | n + 1, d, l => (treeE (n + 1) l).flatMap fun e => if e.dir then flatE n (d ++ e.name ++ [47]) (inDir l e.name) else [⟨d ++ e.name, e.id⟩]

theorem perm_put {α β : Type} [DecidableEq α] (F G : α → List β) (a : α) (x : β) (h1 : G a = x :: F a) (h2 : ∀ b, b ≠ a → G b = F b) : ∀ ns : List α, ns.Nodup → a ∈ ns → (x :: ns.flatMap F).Perm (ns.flatMap G)
  | [], _, h => by cases h
  | b :: ns, hn, h => by
    obtain ⟨k1, k2⟩ := List.nodup_cons.1 hn
    rw [List.flatMap_cons, List.flatMap_cons]
    by_cases e : b = a
    · subst e
      have : ns.flatMap G = ns.flatMap F := by
        rw [List.flatMap_def, List.flatMap_def]
        congr 1
        exact List.map_congr_left fun c hc => h2 c fun e => k1 (e ▸ hc)
      rw [h1, this, List.cons_append]
    · rw [h2 b e]
      have h' : a ∈ ns := by
        rcases List.mem_cons.1 h with e' | e'
        · exact absurd e'.symm e
        · exact e'
      exact (List.perm_middle.symm).trans ((perm_put F G a x h1 h2 ns k2 h').append_left (F b))
theorem split_perm (d : Bs) (ns : List Bs) (hn : ns.Nodup) : ∀ l : List Fl, (∀ x ∈ dirNames l, x ∈ ns) →
    (l.map (preF d)).Perm ((leaves l).map (fun e => ⟨d ++ e.name, e.id⟩) ++ ns.flatMap (fun nm => (inDir l nm).map (preF (d ++ nm ++ [47]))))
  | [], _ => by simp [leaves, inDir]
  | f :: l, h => by
    have ih := split_perm d ns hn l (fun x hx => h x (by
      unfold dirNames at *
      rw [List.filterMap_cons]
      split
      · exact hx
      · exact List.mem_cons_of_mem _ hx))
    cases hc : cut1 f.path with
    | none =>
      have e1 : leaves (f :: l) = ⟨f.path, false, f.id⟩ :: leaves l := by simp [leaves, leafOf, hc]
      have e2 : ∀ nm, inDir (f :: l) nm = inDir l nm := fun nm => by simp [inDir, inOf, hc]
      rw [e1, List.map_cons, List.map_cons, List.cons_append]
      simp only [e2]
      exact ih.cons _
    | some p =>
      obtain ⟨a, b⟩ := p
      have e1 : leaves (f :: l) = leaves l := by simp [leaves, leafOf, hc]
      have ha : a ∈ ns := h a (by simp [dirNames, dirOf, hc])
      have e3 : preF d f = preF (d ++ a ++ [47]) ⟨b, f.id⟩ := by simp [preF, (cut1_some hc).1]
      have e4 : inDir (f :: l) a = ⟨b, f.id⟩ :: inDir l a := by simp [inDir, inOf, hc]
      have e5 : ∀ nm, nm ≠ a → inDir (f :: l) nm = inDir l nm := fun nm hne => by
        have : ¬ (a = nm) := fun e => hne e.symm
        simp [inDir, inOf, hc, this]
      rw [List.map_cons, e1]
      refine (ih.cons _).trans ?_
      refine (List.perm_middle.symm).trans (List.Perm.append_left _ ?_)
      exact perm_put (fun nm => (inDir l nm).map (preF (d ++ nm ++ [47]))) (fun nm => (inDir (f :: l) nm).map (preF (d ++ nm ++ [47]))) a (preF d f) (by simp only [e4, List.map_cons, e3]) (fun nm hne => by simp only [e5 nm hne]) ns hn ha
theorem perm_flat {α β : Type} (F G : α → List β) : ∀ l : List α, (∀ x ∈ l, (F x).Perm (G x)) → (l.flatMap F).Perm (l.flatMap G)
  | [], _ => by simp
  | x :: l, h => by
    rw [List.flatMap_cons, List.flatMap_cons]
    exact (h x (by simp)).append (perm_flat F G l fun y hy => h y (by simp [hy]))
theorem in_short {l : List Fl} {nm : Bs} {n : Nat} (h : ∀ f ∈ l, f.path.length < n + 1) : ∀ g ∈ inDir l nm, g.path.length < n := fun g hg => by
  obtain ⟨_, f, hf, e, _⟩ := inDir_path hg
  have := h f hf
  rw [e] at this
  simp at this
  omega
theorem flat_perm : ∀ (n : Nat) (d : Bs) (l : List Fl), (∀ f ∈ l, f.path.length < n) → (flatE n d l).Perm (l.map (preF d))
  | 0, d, l, h => by
    have : l = [] := by
      cases l with
      | nil => rfl
      | cons f l => exact absurd (h f (by simp)) (by omega)
    subst this
    exact .refl _
  | n + 1, d, l, h => by
    refine List.Perm.trans ?_ (split_perm d (names l) (names_nodup l) l (fun x hx => (names_mem l x).2 hx)).symm
    unfold flatE
    refine ((treeE_perm n l).flatMap_right _).trans ?_
    unfold entsOf
    rw [List.flatMap_append]
    refine List.Perm.append ?_ ?_
    · have : ∀ e ∈ leaves l, (if e.dir then flatE n (d ++ e.name ++ [47]) (inDir l e.name) else [⟨d ++ e.name, e.id⟩]) = [(⟨d ++ e.name, e.id⟩ : Fl)] := fun e he => by
        obtain ⟨f, _, _, rfl⟩ := leaf_mem.1 he
        rfl
      generalize leaves l = ls at this ⊢
      induction ls with
      | nil => rfl
      | cons x ls ihl =>
        rw [List.flatMap_cons, this x (by simp), List.map_cons, List.singleton_append]
        exact (ihl fun e he => this e (by simp [he])).cons _
    · rw [List.flatMap_map]
      refine perm_flat _ _ _ fun nm _ => ?_
      exact flat_perm n _ _ (in_short h)
theorem splitP_app : ∀ (x y : Bs), splitP (x ++ 47 :: y) = splitP x ++ splitP y
  | [], y => by simp [splitP]
  | c :: x, y => by
    have ih := splitP_app x y
    rw [List.cons_append, splitP, ih]
    by_cases hc : c = 47
    · rw [if_pos hc, splitP, if_pos hc]; rfl
    · rw [if_neg hc, splitP, if_neg hc]
      obtain ⟨h, t, e⟩ := splitP_ne x
      rw [e]; rfl
theorem named_pre {x y : Bs} (h : namedOk (x ++ 47 :: y) = true) : namedOk x = true := by
  rw [namedOk_iff] at *
  rw [splitP_app] at h
  obtain ⟨h1, h2, h3⟩ := h
  refine ⟨fun p hp => h1 p (by simp [hp]), ?_, ?_⟩
  · simp at h2; omega
  · simp at h3; omega
/-- Files whose paths may be, told from d on. -/
def NamedAt (d : Bs) (l : List Fl) : Prop := ∀ f ∈ l, namedOk (d ++ f.path) = true
theorem named_in {d : Bs} {l : List Fl} (h : NamedAt d l) (nm : Bs) : NamedAt (d ++ nm ++ [47]) (inDir l nm) := fun g hg => by
  obtain ⟨_, f, hf, e, _⟩ := inDir_path hg
  have := h f hf
  rw [e] at this
  simpa using this
theorem named_ent {d : Bs} {n : Nat} {l : List Fl} (h : NamedAt d l) {e : Ent} (he : e ∈ treeE (n + 1) l) : namedOk (d ++ e.name) = true := by
  rcases entsOf_mem.1 ((treeE_perm n l).mem_iff.1 he) with ⟨f, hf, hc, rfl⟩ | ⟨nm, hn, rfl⟩
  · exact h f hf
  · obtain ⟨f, hf, b, hc⟩ := dirNames_mem.1 hn
    have := h f hf
    rw [(cut1_some hc).1] at this
    exact named_pre (x := d ++ nm) (y := b) (by simpa using this)
/-- What an entry of a tree is. -/
theorem tree_ent {n : Nat} {l : List Fl} {e : Ent} (he : e ∈ treeE (n + 1) l) (hd : e.dir = true) : e.name ∈ names l ∧ e.id = sumF (encTree (treeE n (inDir l e.name))) ∧ inDir l e.name ≠ [] := by
  rcases entsOf_mem.1 ((treeE_perm n l).mem_iff.1 he) with ⟨f, hf, hc, rfl⟩ | ⟨nm, hn, rfl⟩
  · cases hd
  · exact ⟨(names_mem l nm).2 hn, rfl, inDir_ne.1 hn⟩
theorem treeE_ne {n : Nat} {l : List Fl} (h : l ≠ []) : treeE (n + 1) l ≠ [] := by
  intro e
  have hp := treeE_perm n l
  rw [e] at hp
  have h0 := hp.length_eq
  have h1 := len_split l
  have h2 : (names l).length = 0 ∧ (leaves l).length = 0 := by
    unfold entsOf at h0
    rw [List.length_nil, List.length_append, List.length_map] at h0
    omega
  have h3 : dirNames l = [] := by
    cases hd : dirNames l with
    | nil => rfl
    | cons x xs =>
      have := (names_mem l x).2 (by rw [hd]; simp)
      rw [List.length_eq_zero_iff.1 h2.1] at this
      cases this
  rw [h3] at h1
  simp at h1
  exact h (List.length_eq_zero_iff.1 (by omega))
/-- The same root, the same files. -/
theorem flat_eq {O : Bs → Option (List Ent)} : ∀ (n : Nat) (d : Bs) (l k : List Fl), Held O n l → Held O n k → (∀ f ∈ l, f.path.length < n) → (∀ f ∈ k, f.path.length < n) → sumF (encTree (treeE n l)) = sumF (encTree (treeE n k)) → flatE n d l = flatE n d k
  | 0, _, _, _, _, _, _, _, _ => rfl
  | n + 1, d, l, k, hl, hk, h1, h2, e => by
    have ht : treeE (n + 1) l = treeE (n + 1) k := by
      have := hl.1
      rw [e, hk.1] at this
      exact (Option.some.inj this).symm
    unfold flatE
    rw [← ht, List.flatMap_def, List.flatMap_def]
    congr 1
    refine List.map_congr_left fun x hx => ?_
    split
    · rename_i hd
      obtain ⟨a1, a2, _⟩ := tree_ent hx hd
      rw [ht] at hx
      obtain ⟨b1, b2, _⟩ := tree_ent hx hd
      exact flat_eq n _ _ _ (hl.2 _ a1) (hk.2 _ b1) (in_short h1) (in_short h2) (a2.symm.trans b2)
    · rfl
theorem pre_nil (l : List Fl) : l.map (preF []) = l := by
  induction l with
  | nil => rfl
  | cons f l ih => rw [List.map_cons, ih]; rfl
/-- Files that rise, found in whatever order, sorted. -/
theorem sort_files {l l' : List Fl} (hr : l.Pairwise (fun x y => x.path < y.path)) (hp : l'.Perm l) (hs : l'.Pairwise (fun x y => x.path ≤ y.path)) : l' = l := by
  have hne : l.Pairwise (fun x y => x.path ≠ y.path) := hr.imp fun {x y} h e => by rw [e] at h; exact List.lt_irrefl _ h
  have hne' : l'.Pairwise (fun x y => x.path ≠ y.path) := (hp.pairwise_iff (fun {x y} h => Ne.symm h)).2 hne
  have hr' : l'.Pairwise (fun x y => x.path < y.path) := (List.Pairwise.and hs hne').imp fun {x y} h => le_ne_lt h.1 h.2
  exact uniq (fun x y : Fl => x.path < y.path) (fun x y => lt_as _ _) _ _ hr' hr (fun x => hp.mem_iff)
theorem flatE_len (n : Nat) (d : Bs) (l : List Fl) (h : ∀ f ∈ l, f.path.length < n) : (flatE n d l).length = l.length := by
  rw [(flat_perm n d l h).length_eq, List.length_map]
theorem lt_pre : ∀ (x : Bs) (c : UInt8) (s : Bs), x < x ++ c :: s
  | [], c, s => by simp
  | a :: x, c, s => by
    rw [List.cons_append]
    exact List.cons_lt_cons_iff.2 (.inr ⟨rfl, lt_pre x c s⟩)
theorem rise_adj {α : Type} (r : α → α → Prop) (tr : ∀ x y z, r x y → r y z → r x z) : ∀ l : List α, (∀ (k : Nat) (x y : α), l[k]? = some x → l[k + 1]? = some y → r x y) → l.Pairwise r
  | [], _ => .nil
  | [x], _ => List.pairwise_singleton _ _
  | x :: y :: l, h => by
    have ih := rise_adj r tr (y :: l) (fun k a b h1 h2 => h (k + 1) a b (by simpa using h1) (by simpa using h2))
    have hxy : r x y := h 0 x y rfl rfl
    refine List.pairwise_cons.2 ⟨fun z hz => ?_, ih⟩
    rcases List.mem_cons.1 hz with rfl | hz
    · exact hxy
    · exact tr _ _ _ hxy ((List.pairwise_cons.1 ih).1 z hz)
theorem check_rise {l : List Fl} (h : checkOk l) : l.Pairwise (fun x y => x.path < y.path) :=
  rise_adj (fun x y : Fl => x.path < y.path) (fun x y z => List.lt_trans) l fun k x y hx hy => (h.1 (k + 1) y hy).2.2.1 x (by omega) (by simpa using hx)
theorem check_named {l : List Fl} (h : checkOk l) : NamedAt [] l := fun f hf => by
  obtain ⟨k, hk⟩ := List.getElem?_of_mem hf
  exact (h.1 k f hk).1
theorem check_short {l : List Fl} (h : checkOk l) : ∀ f ∈ l, f.path.length < 152 := fun f hf => by
  have := ((namedOk_iff _).1 (check_named h f hf)).2.2
  simp at this
  omega
theorem check_good {l : List Fl} (h : checkOk l) : Good l := by
  have hr := check_rise h
  refine ⟨fun f hf => ?_, hr.imp fun {x y} h e => by rw [e] at h; exact List.lt_irrefl _ h, fun f hf g hg s e => ?_, h.2⟩
  · obtain ⟨k, hk⟩ := List.getElem?_of_mem hf
    exact ⟨((namedOk_iff _).1 (h.1 k f hk).1).1, (h.1 k f hk).2.1⟩
  · obtain ⟨i, hi, rfl⟩ := List.getElem_of_mem hf
    obtain ⟨j, hj, rfl⟩ := List.getElem_of_mem hg
    have hlt : l[i].path < l[j].path := by rw [e]; exact lt_pre _ _ _
    have hij : i < j := by
      rcases Nat.lt_trichotomy i j with h1 | h1 | h1
      · exact h1
      · subst h1; exact absurd hlt (List.lt_irrefl _)
      · exact absurd (List.pairwise_iff_getElem.1 hr j i hj hi h1) (lt_as _ _ hlt)
    refine (h.1 j l[j] (List.getElem?_eq_getElem hj)).2.2.2 l[i].path.length (by rw [e]; simp) l[i] ?_ (by rw [e]; simp)
    exact List.mem_take_iff_getElem.2 ⟨i, by omega, rfl⟩
end Go.Proofs.YtjelehcnpocnoaaGreatDoor
/- Layer 13, trees: a builder's memory: directories' files, the trees that were built. -/
namespace Go.Proofs.YtjelehcnpocnoaaGreatDoor
set_option linter.unusedSimpArgs false
set_option linter.unusedVariables false
set_option linter.unnecessarySimpa false
open Go.RowKit
set_option maxRecDepth 100000
set_option maxHeartbeats 4000000

theorem u_dirs : Tryz.prog.underlying 118 = some (.map 9 31) := by kernel_rfl
theorem z_files (W : World) : (zeroValue 31).run Tryz.prog W = .ok (.slice none 0 0) W := by kernel_rfl
theorem u_filesT : Tryz.prog.underlying 31 = some (.slice 40) := by kernel_rfl
theorem i_file : (Tryz.prog.info? 40).map (fun i => (i.zero, i.size, i.bytes)) = some (some (.agg #[.string ⟨#[]⟩, .string ⟨#[]⟩]), 2, 32) := by kernel_rfl
theorem u_met : Tryz.prog.underlying 76 = some (.map 9 9) := by kernel_rfl
theorem z_str (W : World) : (zeroValue 9).run Tryz.prog W = .ok (.string ⟨#[]⟩) W := by kernel_rfl
theorem u_raws : Tryz.prog.underlying 42 = some (.slice 60) := by kernel_rfl
theorem i_raw : (Tryz.prog.info? 60).map (fun i => (i.zero, i.size, i.bytes)) = some (some (.slice none 0 0), 1, 24) := by kernel_rfl

/-- Rows in a map, each by itself: the files of the directories. -/
def DirsAt (base : Nat) (w : World) (mb n : Nat) (l : List Fl) : Prop :=
  ∃ f, MapAt Tryz.prog 9 w mb n f ∧ (∀ nm v, f nm = some v → inDir l nm ≠ [] ∧ w.ownsRow base 40 2 v (inDir l nm).length (fvs (inDir l nm))) ∧ (∀ nm, f nm = none → inDir l nm = []) ∧
    (∀ s t v u g, f s = some v → f t = some u → v.ownBlock = some g → u.ownBlock = some g → s = t)
theorem DirsAt.made (base : Nat) (w : World) : DirsAt base (w.alloc (.map #[] 0)) w.heap.size 0 [] :=
  ⟨fun _ => none, MapAt.made _ _ _, (fun nm v h => by cases h), (fun nm h => rfl), (fun s t v u g h => by cases h)⟩
theorem DirsAt.fr {F : List Nat} {base : Nat} {w w' : World} {mb n : Nat} {l : List Fl} (h : DirsAt base w mb n l) (hF : Fr F w w') (hm : mb ∉ F) (ho : Off F w 40) : DirsAt base w' mb n l := by
  obtain ⟨f, h1, h2, h3, h4⟩ := h
  exact ⟨f, h1.fr hF hm, fun nm v hv => ⟨(h2 nm v hv).1, own_fr (h2 nm v hv).2 hF ho⟩, h3, h4⟩
theorem DirsAt.fr0 {base : Nat} {w w' : World} {mb n : Nat} {l : List Fl} (h : DirsAt base w mb n l) (hF : Fr [] w w') : DirsAt base w' mb n l := h.fr hF (by simp) (off_nil _ _)
theorem DirsAt.ents {base base' : Nat} {w w' : World} {mb n k : Nat} {l : List Fl} {v : Value} {xs : List Value} (h : DirsAt base w mb n l) (hE : w.ownsRow base' 70 3 v k xs) (hg : Fr v.ownBlock.toList w w') : DirsAt base w' mb n l := by
  have hm : ∃ es c, w.heap[mb]? = some (.map es c) := let ⟨_, h1, _⟩ := h; h1.row
  exact h.fr hg (fun hx => own_no_map hE (by simpa [eq_comm] using hx) hm) (own_off hE (by decide))
theorem inDir_snoc_leaf {l : List Fl} {f : Fl} (h : cut1 f.path = none) (nm : Bs) : inDir (l ++ [f]) nm = inDir l nm := by simp [inDir, inOf, h]
theorem leaves_snoc_leaf {l : List Fl} {f : Fl} (h : cut1 f.path = none) : leaves (l ++ [f]) = leaves l ++ [⟨f.path, false, f.id⟩] := by simp [leaves, leafOf, h]
theorem leaves_snoc_dir {l : List Fl} {f : Fl} {a b : Bs} (h : cut1 f.path = some (a, b)) : leaves (l ++ [f]) = leaves l := by simp [leaves, leafOf, h]
theorem inDir_snoc_same {l : List Fl} {f : Fl} {a b : Bs} (h : cut1 f.path = some (a, b)) : inDir (l ++ [f]) a = inDir l a ++ [⟨b, f.id⟩] := by simp [inDir, inOf, h]
theorem inDir_snoc_other {l : List Fl} {f : Fl} {a b nm : Bs} (h : cut1 f.path = some (a, b)) (hne : nm ≠ a) : inDir (l ++ [f]) nm = inDir l nm := by
  have : ¬ (a = nm) := fun e => hne e.symm
  simp [inDir, inOf, h, this]
theorem DirsAt.leaf {base : Nat} {w : World} {mb n : Nat} {l : List Fl} (h : DirsAt base w mb n l) {f : Fl} (hc : cut1 f.path = none) : DirsAt base w mb n (l ++ [f]) := by
  obtain ⟨g, h1, h2, h3, h4⟩ := h
  exact ⟨g, h1, fun nm v hv => by rw [inDir_snoc_leaf hc]; exact h2 nm v hv, fun nm hn => by rw [inDir_snoc_leaf hc]; exact h3 nm hn, h4⟩
/-- The row that is appended to. -/
theorem DirsAt.row {base : Nat} {w : World} {mb n : Nat} {l : List Fl} {f : Bs → Option Value} (h2 : ∀ nm v, f nm = some v → inDir l nm ≠ [] ∧ w.ownsRow base 40 2 v (inDir l nm).length (fvs (inDir l nm))) (h3 : ∀ nm, f nm = none → inDir l nm = []) (nm : Bs) :
    w.ownsRow base 40 2 ((f nm).getD (.slice none 0 0)) (inDir l nm).length (fvs (inDir l nm)) := by
  cases hf : f nm with
  | none => rw [h3 nm hf]; exact ⟨rfl, .inl ⟨rfl, rfl⟩⟩
  | some v => exact (h2 nm v hf).2
/-- dirs[a] = append(dirs[a], File{b, id}): what the map holds then. wr: ahead; w2: behind the append; w3: behind the store. -/
theorem dirs_put {base mb n : Nat} {wr W2 w2 w3 : World} {l : List Fl} {fl : Fl} {a b : Bs} {f : Bs → Option Value} {row v' : Value} (hc : cut1 fl.path = some (a, b))
    (hm : MapAt Tryz.prog 9 wr mb n f) (h2 : ∀ nm v, f nm = some v → inDir l nm ≠ [] ∧ wr.ownsRow base 40 2 v (inDir l nm).length (fvs (inDir l nm))) (h3 : ∀ nm, f nm = none → inDir l nm = [])
    (h4 : ∀ s t v u g, f s = some v → f t = some u → v.ownBlock = some g → u.ownBlock = some g → s = t)
    (hrow : row = (f a).getD (.slice none 0 0)) (ha : Fr [] wr W2) (hgr : W2.grownBy w2 row.ownBlock) (hv : v'.ownBlock = row.ownBlock ∨ v'.ownBlock = some W2.heap.size)
    (ho2 : w2.ownsRow base 40 2 v' ((inDir l a).length + 1) (fvs (inDir l a) ++ fv ⟨b, fl.id⟩)) (hd : Fr [mb] w2 w3) (hm3 : MapAt Tryz.prog 9 w3 mb (n + 1) (upd f a (some v'))) :
    DirsAt base w3 mb (n + 1) (l ++ [fl]) ∧ Fr (mb :: row.ownBlock.toList) wr w3 := by
  have hF2 : Fr (mb :: row.ownBlock.toList) wr w2 := (ha.weaken (by simp)).grown hgr (fun k hk => .inl (by simp [hk]))
  have hF3 : Fr (mb :: row.ownBlock.toList) wr w3 := hF2.trans hd (by simp)
  have hlt : ∀ t u g, f t = some u → u.ownBlock = some g → g < wr.heap.size := fun t u g ht hg => ((h2 t u ht).2.lt g hg).2
  have hrs : ∀ t u g, t ≠ a → f t = some u → u.ownBlock = some g → row.ownBlock ≠ some g := fun t u g hts ht hg hr => by
    cases hfs : f a with
    | none => rw [hrow, hfs] at hr; simp [Value.ownBlock] at hr
    | some r => rw [hrow, hfs] at hr; exact hts (h4 t a u r g ht hfs hg hr)
  have hap2 : ∀ t u g, t ≠ a → f t = some u → u.ownBlock = some g → v'.ownBlock = some g → False := fun t u g hts ht hg hr => by
    rcases hv with h | h
    · exact hrs t u g hts ht hg (h.symm.trans hr)
    · have h1 := hlt t u g ht hg
      rw [hr] at h
      have h2 := ha.size
      simp at h
      omega
  have hmp : ∃ es c, w2.heap[mb]? = some (.map es c) := by
    have hn : mb ∉ row.ownBlock.toList := fun hx => own_no_map (DirsAt.row (mb := mb) (n := n) h2 h3 a) (by rw [← hrow]; simpa [eq_comm] using hx) hm.row
    obtain ⟨es, c, hr⟩ := (hm.fr ha (by simp)).row
    exact ⟨es, c, (((Fr.refl row.ownBlock.toList W2).grown hgr (fun k hk => .inl (by simp [hk]))).block hr hn)⟩
  refine ⟨⟨_, hm3, fun t u ht => ?_, fun t ht => ?_, fun t1 t2 u1 u2 g k1 k2 g1 g2 => ?_⟩, hF3⟩
  · by_cases hts : t = a
    · subst hts
      obtain rfl : v' = u := by simpa [upd] using ht
      rw [inDir_snoc_same hc]
      refine ⟨by simp, ?_⟩
      have := own_keep ho2 hd (fun g hg hx => by
        obtain rfl : g = mb := by simpa using hx
        exact own_no_map ho2 hg hmp)
      simpa [fvs_app, fvs] using this
    · have ht' : f t = some u := by simpa [upd, hts] using ht
      rw [inDir_snoc_other hc hts]
      obtain ⟨k1, ho⟩ := h2 t u ht'
      refine ⟨k1, own_keep ho hF3 (fun g hg hx => ?_)⟩
      rcases List.mem_cons.1 hx with rfl | hx
      · exact own_no_map ho hg hm.row
      · exact hrs t u g hts ht' hg (by simpa [eq_comm] using hx)
  · by_cases hts : t = a
    · subst hts; simp [upd] at ht
    · rw [inDir_snoc_other hc hts]
      exact h3 t (by simpa [upd, hts] using ht)
  · by_cases e1 : t1 = a <;> by_cases e2 : t2 = a
    · rw [e1, e2]
    · subst e1
      obtain rfl : v' = u1 := by simpa [upd] using k1
      exact (hap2 t2 u2 g e2 (by simpa [upd, e2] using k2) g2 g1).elim
    · subst e2
      obtain rfl : v' = u2 := by simpa [upd] using k2
      exact (hap2 t1 u1 g e1 (by simpa [upd, e1] using k1) g1 g2).elim
    · exact h4 t1 t2 u1 u2 g (by simpa [upd, e1] using k1) (by simpa [upd, e2] using k2) g1 g2

/-- What was met: the trees that were built. -/
def metF (o : List (List Ent)) : Bs → Option Value := fun raw => if (o.map encTree).contains raw then some (.string (mk (sumF raw))) else none
theorem metF_put (o : List (List Ent)) (r : List Ent) : upd (metF o) (encTree r) (some (.string (mk (sumF (encTree r))))) = metF (o ++ [r]) := by
  funext p
  unfold upd metF
  by_cases h : p = encTree r
  · simp [h]
  · simp [h]
structure BuildAt (base : Nat) (w : World) (B M : Nat) (vo : Value) (vs : List Value) (o : List (List Ent)) : Prop where
  c0 : w.cell? ⟨B, 0, none⟩ = some vo
  c1 : w.cell? ⟨B, 1, none⟩ = some (.map (some M))
  free : ∀ j, w.frozen? ⟨B, j, none⟩ = false
  row : ∃ cs, w.heap[B]? = some (.cells cs 78 (0, 0))
  out : w.ownsRow base 60 1 vo o.length vs
  raw : ∀ (j : Nat) (x : List Ent), o[j]? = some x → ∃ v, vs[j]? = some v ∧ Sl w 5 1 v (encTree x).length ((encTree x).map bv)
  map : MapAt Tryz.prog 9 w M o.length (metF o)
  ok : ∀ x ∈ o, okEnts x
  b0 : 0 < base
  b1 : base ≤ B
  b2 : base ≤ M
namespace BuildAt
variable {base : Nat} {w w' : World} {B M : Nat} {vo : Value} {vs : List Value} {o : List (List Ent)}
theorem lt (h : BuildAt base w B M vo vs o) : B < w.heap.size := by
  obtain ⟨cs, h⟩ := h.row
  exact (Array.getElem?_eq_some_iff.1 h).1
theorem fr {F : List Nat} (h : BuildAt base w B M vo vs o) (hF : Fr F w w') (h1 : B ∉ F) (h2 : M ∉ F) (h3 : Off F w 60) (h4 : Off F w 5) : BuildAt base w' B M vo vs o := by
  obtain ⟨cs, hr⟩ := h.row
  refine ⟨hF.cell h.c0 h1, hF.cell h.c1 h1, fun j => (World.frozen?_of_block (w := w) (a := ⟨B, j, none⟩) (hF.blk B h.lt h1)).trans (h.free j), ⟨cs, hF.block hr h1⟩, own_fr h.out hF h3, fun j x hx => ?_, h.map.fr hF h2, h.ok, h.b0, h.b1, h.b2⟩
  obtain ⟨v, hv, hs⟩ := h.raw j x hx
  exact ⟨v, hv, hs.fr hF h4⟩
theorem fr0 (h : BuildAt base w B M vo vs o) (hF : Fr [] w w') : BuildAt base w' B M vo vs o := h.fr hF (by simp) (by simp) (off_nil _ _) (off_nil _ _)
/-- What a builder may turn holds neither files nor entries nor bytes nor strings. -/
theorem off (h : BuildAt base w B M vo vs o) (e : TypeId) (h1 : e ≠ 78) (h2 : e ≠ 60) : Off (B :: M :: vo.ownBlock.toList) w e := by
  intro x hx
  rcases List.mem_cons.1 hx with rfl | hx
  · obtain ⟨cs, hr⟩ := h.row
    rintro ⟨cs', fr, h'⟩
    rw [hr] at h'
    simp at h'
    exact h1 h'.2.1.symm
  rcases List.mem_cons.1 hx with rfl | hx
  · exact h.map.off e _ (by simp)
  · rintro ⟨cs, fr, h'⟩
    exact own_ne h.out (e' := e) (b := x) (fr := fr) ⟨cs, h'⟩ (Ne.symm h2) hx
theorem not_map (h : BuildAt base w B M vo vs o) {mb : Nat} (hm : ∃ es c, w.heap[mb]? = some (.map es c)) (hne : mb ≠ M) : mb ∉ B :: M :: vo.ownBlock.toList := by
  intro hx
  rcases List.mem_cons.1 hx with rfl | hx
  · obtain ⟨cs, hr⟩ := h.row
    obtain ⟨es, c, hm⟩ := hm
    rw [hr] at hm
    cases hm
  rcases List.mem_cons.1 hx with rfl | hx
  · exact hne rfl
  · exact own_no_map h.out (by simpa [eq_comm] using hx) hm
theorem met (h : BuildAt base w B M vo vs o) {r : List Ent} (hr : okEnts r) : (metF o (encTree r)).isSome = decide (r ∈ o) := by
  unfold metF
  by_cases hx : r ∈ o
  · have : (o.map encTree).contains (encTree r) = true := List.contains_iff_mem.2 (List.mem_map.2 ⟨r, hx, rfl⟩)
    rw [if_pos this]; simp [hx]
  · have : (o.map encTree).contains (encTree r) = false := by
      simp only [List.contains_eq_mem, decide_eq_false_iff_not, List.mem_map, not_exists, not_and]
      intro x hxo e
      exact hx ((encTree_inj _ _ (h.ok x hxo) hr e) ▸ hxo)
    rw [if_neg (by rw [this]; simp)]; simp [hx]
theorem ge (h : BuildAt base w B M vo vs o) : ∀ x ∈ B :: M :: vo.ownBlock.toList, base ≤ x := by
  intro x hx
  rcases List.mem_cons.1 hx with rfl | hx
  · exact h.b1
  rcases List.mem_cons.1 hx with rfl | hx
  · exact h.b2
  · exact own_block h.out x (by simpa [eq_comm] using hx)
theorem zero (h : BuildAt base w B M vo vs o) : 0 ∉ B :: M :: vo.ownBlock.toList := fun hx => by
  have := h.ge 0 hx
  have := h.b0
  omega
theorem hbase (h : BuildAt base w B M vo vs o) : base ≤ w.heap.size := by
  have := h.lt
  have := h.b1
  omega
theorem ne_map (h : BuildAt base w B M vo vs o) : B ≠ M := by
  rintro rfl
  obtain ⟨cs, hr⟩ := h.row
  obtain ⟨es, c, hm⟩ := h.map.row
  rw [hr] at hm
  cases hm
/-- A tree more. -/
theorem add (h : BuildAt base w B M vo vs o) {r : List Ent} (hr : okEnts r) {vr v' : Value} (hs : Sl w 5 1 vr (encTree r).length ((encTree r).map bv)) {w1 W w2 : World} (hF1 : Fr [M] w w1)
    (hm : MapAt Tryz.prog 9 w1 M (o.length + 1) (upd (metF o) (encTree r) (some (.string (Go.Proofs.YtjelehcnpocnoaaGreatDoor.mk (sumF (encTree r))))))) (hFW : Fr [] w1 W) (hg : W.grownBy w2 vo.ownBlock) (ho : w2.ownsRow base 60 1 v' (o.length + 1) (vs ++ [vr]))
    (hv : v'.ownBlock = vo.ownBlock ∨ v'.ownBlock = some W.heap.size) :
    BuildAt base (w2.setCell ⟨B, 0, none⟩ v') B M v' (vs ++ [vr]) (o ++ [r]) ∧ Fr (B :: M :: vo.ownBlock.toList) w (w2.setCell ⟨B, 0, none⟩ v') ∧ (∀ g, v'.ownBlock = some g → vo.ownBlock = some g ∨ w.heap.size ≤ g) := by
  have hFa : Fr (M :: vo.ownBlock.toList) w w2 := ((hF1.weaken (by simp)).trans0 hFW).grown hg (fun k hk => .inl (by simp [hk]))
  have hFb : Fr (B :: M :: vo.ownBlock.toList) w (w2.setCell ⟨B, 0, none⟩ v') := (hFa.weaken (fun x hx => .inl (List.mem_cons_of_mem _ hx))).setCell (.inl (by simp)) _
  have hBn : B ∉ M :: vo.ownBlock.toList := by
    intro hx
    rcases List.mem_cons.1 hx with hx | hx
    · exact h.ne_map hx
    · exact own_ne h.out h.row (by decide) hx
  have hMn : M ∉ vo.ownBlock.toList := fun hx => own_no_map h.out (by simpa [eq_comm] using hx) h.map.row
  have hFr : Fr [B] w2 (w2.setCell ⟨B, 0, none⟩ v') := (Fr.refl _ _).setCell (.inl (by simp)) _
  have hrow2 : ∃ cs, w2.heap[B]? = some (.cells cs 78 (0, 0)) := by
    obtain ⟨cs, hr⟩ := h.row
    exact ⟨cs, hFa.block hr hBn⟩
  have k0 := hFa.cell h.c0 hBn
  have k1 := hFa.cell h.c1 hBn
  have offB : ∀ e, e ≠ 78 → Off [B] w2 e := fun e he k hk => by
    obtain rfl : k = B := by simpa using hk
    rintro ⟨cs, fr, h'⟩
    obtain ⟨cs', hr⟩ := hrow2
    rw [hr] at h'
    simp at h'
    exact he h'.2.1.symm
  refine ⟨⟨cell_set_same _ _ _ _ _ k0, (cell_set_ne _ _ _ _ _ _ (.inr (by decide))).trans k1, fun j => ?_, row_set hrow2 0 _, ?_, fun j x hx => ?_, ?_, fun x hx => ?_, h.b0, h.b1, h.b2⟩, hFb, fun g hgv => ?_⟩
  · rw [World.frozen?_setCell]
    exact (World.frozen?_of_block (w := w) (a := ⟨B, j, none⟩) (hFa.blk B h.lt hBn)).trans (h.free j)
  · have := own_fr ho hFr (offB _ (by decide))
    simpa using this
  · have hoff := h.off 5 (by decide) (by decide)
    have hvl : vs.length = o.length := by simpa using h.out.1
    by_cases hj : j < o.length
    · rw [List.getElem?_append_left hj] at hx
      obtain ⟨u, hu, hsu⟩ := h.raw j x hx
      exact ⟨u, by rw [List.getElem?_append_left (by omega)]; exact hu, hsu.fr hFb hoff⟩
    · obtain rfl : j = o.length := by
        have := (List.getElem?_eq_some_iff.1 hx).1
        simp at this
        omega
      rw [List.getElem?_append_right (Nat.le_refl _), Nat.sub_self] at hx
      obtain rfl : r = x := by simpa using hx
      exact ⟨vr, by rw [List.getElem?_append_right (by omega)]; simp [hvl], hs.fr hFb hoff⟩
  · have h1 : MapAt Tryz.prog 9 w2 M (o.length + 1) (metF (o ++ [r])) := by
      rw [← metF_put]
      exact hm.fr ((hFW.weaken (G := vo.ownBlock.toList) (by simp)).grown hg (fun k hk => .inl (by simp [hk]))) hMn
    have := h1.fr hFr (by simpa using h.ne_map.symm)
    simpa using this
  · rcases List.mem_append.1 hx with hx | hx
    · exact h.ok x hx
    · obtain rfl : x = r := by simpa using hx
      exact hr
  · rcases hv with e | e
    · exact .inl (by rw [← e]; exact hgv)
    · rw [e] at hgv
      have h1 := hF1.size
      have h2 := hFW.size
      right
      simp at hgv
      omega
end BuildAt
/-- A builder that is new. -/
theorem BuildAt.new (base : Nat) (w : World) (hb : 0 < base) (hbw : base ≤ w.heap.size) : BuildAt base ((w.alloc (.map #[] 0)).alloc (.cells #[.slice none 0 0, .map (some w.heap.size)] 78)) (w.heap.size + 1) w.heap.size (.slice none 0 0) [] [] := by
  have hs : (w.alloc (.map #[] 0)).heap.size = w.heap.size + 1 := by simp
  have hm : MapAt Tryz.prog 9 (w.alloc (.map #[] 0)) w.heap.size 0 (fun _ => none) := MapAt.made _ _ _
  generalize w.alloc (.map #[] 0) = W at *
  have q0 := World.cell?_alloc_new W #[.slice none 0 0, .map (some w.heap.size)] 78 0
  have q1 := World.cell?_alloc_new W #[.slice none 0 0, .map (some w.heap.size)] 78 1
  have q2 : ∀ j, (W.alloc (.cells #[.slice none 0 0, .map (some w.heap.size)] 78)).frozen? ⟨w.heap.size + 1, j, none⟩ = false := fun j => by rw [← hs]; exact frozen_new W _ _ j
  have q3 := heap_alloc_new W (.cells #[.slice none 0 0, .map (some w.heap.size)] 78)
  rw [hs] at q0 q1 q3
  refine ⟨q0, q1, q2, ⟨_, q3⟩, ⟨rfl, .inl ⟨rfl, rfl⟩⟩, ?_, hm.fr ((Fr.refl [] _).alloc _) (by simp), ?_, hb, by omega, hbw⟩
  · intro j x hx; simp at hx
  · intro x hx; simp at hx
end Go.Proofs.YtjelehcnpocnoaaGreatDoor
/- Layer 13, trees: a builder builds the trees of files. -/
namespace Go.Proofs.YtjelehcnpocnoaaGreatDoor
set_option linter.unusedSimpArgs false
set_option linter.unusedVariables false
set_option linter.unnecessarySimpa false
open Go.RowKit Go.Maps
set_option maxRecDepth 100000
set_option maxHeartbeats 8000000

theorem Cut_none (s : Bs) (m : Int) (w : World) (hs : s.length ≤ 4000000000) (hm : w.cell? ⟨0, 0, none⟩ = some (.int .i64 m)) (hc : cut1 s = none) :
    Calls Tryz.prog 54 #[.string (mk s), .string ⟨#[47]⟩] w fun e w' => e = .returned (.tuple #[.string (mk s), .string ⟨#[]⟩, .bool false]) ∧ ∃ n, w' = w.drewN n := by
  refine (Tryz.strings_Cut (mk s) ⟨#[47]⟩ m w (by rw [mk_size]; omega) hm).mono ?_
  have h1 : Lib.cut (mk s).data.toList (⟨#[47]⟩ : ByteArray).data.toList = (s, [], false) := by
    have := lib_cut s
    rw [hc] at this
    simpa [mk] using this
  rw [h1]
  rintro e w' ⟨rfl, n, rfl⟩
  exact ⟨rfl, n, rfl⟩
theorem Cut_some (s a b : Bs) (m : Int) (w : World) (hs : s.length ≤ 4000000000) (hm : w.cell? ⟨0, 0, none⟩ = some (.int .i64 m)) (hc : cut1 s = some (a, b)) :
    Calls Tryz.prog 54 #[.string (mk s), .string ⟨#[47]⟩] w fun e w' => e = .returned (.tuple #[.string (mk a), .string (mk b), .bool true]) ∧ ∃ n, w' = w.drewN n := by
  refine (Tryz.strings_Cut (mk s) ⟨#[47]⟩ m w (by rw [mk_size]; omega) hm).mono ?_
  have h1 : Lib.cut (mk s).data.toList (⟨#[47]⟩ : ByteArray).data.toList = (a, b, true) := by
    have := lib_cut s
    rw [hc] at this
    simpa [mk] using this
  rw [h1]
  rintro e w' ⟨rfl, n, rfl⟩
  exact ⟨rfl, n, rfl⟩

/-- What the builder leaves. -/
def BuildPost (base B M : Nat) (vo : Value) (o : List (List Ent)) (n : Nat) (l : List Fl) (w : World) (e : Ending) (w' : World) : Prop :=
  e = .returned (.string (mk (sumF (encTree (treeE n l))))) ∧ ∃ vo' vs', BuildAt base w' B M vo' vs' (subE n l o) ∧ Fr (B :: M :: vo.ownBlock.toList) w w' ∧ ∀ g, vo'.ownBlock = some g → vo.ownBlock = some g ∨ w.heap.size ≤ g

theorem ents_app (l k : List Ent) : evs (l ++ k) = evs l ++ evs k := by simp [evs]
theorem BuildAt.ents {base base' : Nat} {w w' : World} {B M k : Nat} {vo v : Value} {vs xs : List Value} {o : List (List Ent)} (h : BuildAt base w B M vo vs o) (hE : w.ownsRow base' 70 3 v k xs) (hg : Fr v.ownBlock.toList w w') : BuildAt base w' B M vo vs o :=
  h.fr hg (fun hx => own_ne hE h.row (by decide) hx) (fun hx => own_no_map hE (by simpa [eq_comm] using hx) h.map.row) (own_off hE (by decide)) (own_off hE (by decide))
def foldSub (n : Nat) (l : List Fl) (ns : List Bs) (o : List (List Ent)) : List (List Ent) := ns.foldl (fun o nm => subE n (inDir l nm) o) o
theorem foldSub_len (n : Nat) (l : List Fl) : ∀ (ns : List Bs) (o : List (List Ent)), (foldSub n l ns o).length ≤ o.length + ns.length + (ns.map fun nm => wt (inDir l nm)).sum
  | [], o => by simp [foldSub]
  | nm :: ns, o => by
    have h1 := foldSub_len n l ns (subE n (inDir l nm) o)
    have h2 := sub_len n (inDir l nm) o
    unfold foldSub at *
    rw [List.foldl_cons]
    simp only [List.length_cons, List.map_cons, List.sum_cons]
    omega
theorem sum_take (g : Bs → Nat) : ∀ (ns : List Bs) (k : Nat) (nm : Bs), ns[k]? = some nm → ((ns.take k).map g).sum + g nm ≤ (ns.map g).sum
  | [], k, nm, h => by simp at h
  | x :: ns, 0, nm, h => by
    obtain rfl : x = nm := by simpa using h
    simp
  | x :: ns, k + 1, nm, h => by
    have := sum_take g ns k nm (by simpa using h)
    simp only [List.take_succ_cons, List.map_cons, List.sum_cons]
    omega
/-- Room for a directory's trees. -/
theorem foldSub_room (n : Nat) (l : List Fl) (o : List (List Ent)) (k : Nat) (nm : Bs) (hk : (names l)[k]? = some nm) : (foldSub n l ((names l).take k) o).length + 1 + wt (inDir l nm) ≤ o.length + wt l := by
  have h1 := foldSub_len n l ((names l).take k) o
  have h2 := sum_take (fun nm => wt (inDir l nm)) (names l) k nm hk
  have h3 := wt_sum (names l) (names_nodup l) l
  have h4 := names_len l
  have h5 := len_split l
  have h6 := (List.getElem?_eq_some_iff.1 hk).1
  simp only [List.length_take] at h1
  omega
theorem foldSub_room' (n : Nat) (l : List Fl) (o : List (List Ent)) : (foldSub n l (names l) o).length ≤ o.length + wt l := by
  have h1 := foldSub_len n l (names l) o
  have h3 := wt_sum (names l) (names_nodup l) l
  have h4 := names_len l
  have h5 := len_split l
  omega
theorem path_pos {l : List Fl} (h : Good l) {f : Fl} (hf : f ∈ l) : 0 < f.path.length := by
  rcases Nat.eq_zero_or_pos f.path.length with e | e
  · have := (h.ok f hf).1
    rw [List.length_eq_zero_iff.1 e] at this
    have := this [] (by simp [splitP])
    simp [partOk] at this
  · exact e

theorem build_calls (m : Int) (n : Nat) : ∀ (l : List Fl) (v : Value) (base B M : Nat) (vo : Value) (vs : List Value) (o : List (List Ent)) (w : World), 0 < n → n ≤ 152 → Good l → (∀ f ∈ l, f.path.length < n) → Fs w 40 v l → BuildAt base w B M vo vs o → o.length + 1 + wt l ≤ 1000000 → w.cell? ⟨0, 0, none⟩ = some (.int .i64 m) →
    Calls Tryz.prog 30 #[.pointer (some ⟨B, 0, none⟩), v] w (BuildPost base B M vo o n l w) := by
  induction n with
  | zero => intro l v base B M vo vs o w h0; omega
  | succ n ih =>
    intro l v base B M vo vs o w _ hn hgd hsh hv hB hw hm
    have IH := Lib.hid ih
    clear ih
    obtain ⟨a, c, rfl, h3, h4, hc⟩ := Fs.open2 hv
    have h4096 := hgd.len
    have hmm := @run_makeMap Tryz.prog
    have hD0 := DirsAt.made w.heap.size w
    have hFA : Fr [] w (w.alloc (.map #[] 0)) := (Fr.refl _ _).alloc _
    have HB := Lib.hid hB
    have HG := Lib.hid hgd
    have HV := Lib.hid hv
    clear hB hgd hv
    go_enter Tryz.func30, Tryz.ntmps30
    go_wp2_with fail
    clear hmm
    generalize w.alloc (.map #[] 0) = w0 at *
    go_loopw [6, 21] (fun e i wr => ∃ k nD : Nat, i = .int .i64 k ∧ k ≤ l.length ∧ wr.ownsRow w.heap.size 70 3 e (leaves (l.take k)).length (evs (leaves (l.take k))) ∧ DirsAt w.heap.size wr w.heap.size nD (l.take k) ∧ nD ≤ k ∧ Fr [] w wr) (fun _ i _ => l.length - (intOf i).toNat)
    case atStart => exact ⟨0, 0, rfl, by omega, ⟨rfl, .inl ⟨rfl, rfl⟩⟩, hD0, by omega, hFA⟩
    case round =>
      obtain ⟨k, nD, rfl, hk, hE, hD, hnD, hF⟩ := hrel
      have hll : (leaves (l.take k)).length ≤ k := by have := len_split (l.take k); simp at this; omega
      have hszF := hF.size
      clear hD0 hFA
      by_cases hlt : k < l.length
      · obtain ⟨g, oo, rfl, hcell⟩ := hc (by omega)
        have hge := List.getElem?_eq_getElem hlt
        obtain ⟨x1, x2⟩ := hcell k _ hge
        have hsz := hsh _ (List.getElem_mem hlt)
        have b1 : decide ((k : Int) < l.length) = true := by simp; omega
        have i1 : (k : Int) < l.length := by omega
        have e1 : IntKind.i64.wrap ((k : Int) + 1) = (k : Int) + 1 := by rw [IntKind.wrap_i64]; omega
        have htk : l.take (k + 1) = l.take k ++ [l[k]] := by rw [List.take_add_one, hge]; rfl
        generalize l[k] = f at *
        obtain ⟨ph, idn⟩ := f
        simp only at x1 x2 hsz
        have x1' := hF.cell x1 (by simp)
        have x2' := hF.cell x2 (by simp)
        have hFc : Fr [] wr (wr.alloc (.cells #[.string (mk ph), .string (mk idn)] 40)) := (Fr.refl _ _).alloc _
        have nz := World.cell?_alloc_new wr #[.string (mk ph), .string (mk idn)] 40 0
        have n1 := World.cell?_alloc_new wr #[.string (mk ph), .string (mk idn)] 40 1
        have hFwc : Fr [] w (wr.alloc (.cells #[.string (mk ph), .string (mk idn)] 40)) := hF.trans0 hFc
        generalize hWc : wr.alloc (.cells #[.string (mk ph), .string (mk idn)] 40) = WC at *
        have hmc := hFwc.cell hm (by simp)
        have hszC := hFwc.size
        have HTK := Lib.hid htk
        have HE := Lib.hid hE
        have HD := Lib.hid hD
        clear htk hge hcell hc x1 x2 hE hD
        cases hcut : cut1 ph with
        | none =>
          have HC := Lib.hid (Cut_none ph m WC (by omega) hmc hcut)
          have HCU := Lib.hid hcut
          clear hcut
          go_wp2_with fail
          refine HC.out.mono ?_
          rintro e w2 ⟨rfl, q, rfl⟩
          clear HC hWc
          have hFq : Fr [] wr (WC.drewN q) := hFc.drewN q
          have hFwq : Fr [] w (WC.drewN q) := hFwc.drewN q
          have nz' := hFq.trans0 (Fr.refl _ _)
          have m1 : (WC.drewN q).cell? ⟨wr.heap.size, 1, none⟩ = some (.string (mk idn)) := n1
          generalize WC.drewN q = W2 at *
          have ho2 := own_fr HE.out hFq (off_nil _ _)
          have HO2 := Lib.hid (own_fr ho2 ((Fr.refl [] W2).alloc (.cells #[.string (mk ph), .bool false, .string (mk idn)] 70)) (off_nil _ _))
          clear ho2 nz' nz n1
          go_wp2_with (at_builtin; refine wpl_app w.heap.size rfl _ _ 61 70 _ 3 40 rfl u_entries i_entry rfl (by decide) _ _ _ rfl HO2.out 1 (evs [⟨ph, false, idn⟩]) (Sl.lit (w := W2) #[.string (mk ph), .bool false, .string (mk idn)] 1 rfl (by decide)) (ev_one _) (by omega) (by omega) (by have := hFwq.size; simp only [World.size_alloc]; omega) ?_)
          intro v3 w3 ho3 hg3 _
          have hF3 : Fr [] w w3 := (hFwq.alloc _).grown hg3 (fun k hk => .inr (own_block HO2.out k hk))
          have hD3 := Lib.hid (((HD.out.fr0 (hFq.alloc (.cells #[.string (mk ph), .bool false, .string (mk idn)] 70))).ents HO2.out ((Fr.refl _ _).grown hg3 (fun k hk => .inl (by simp [hk])))).leaf (f := ⟨ph, idn⟩) HCU.out)
          have HO3 := Lib.hid ho3
          clear ho3 hg3
          go_wp2_with fail
          refine ⟨⟨k + 1, nD, by simp, by omega, ?_, by rw [HTK.out]; exact hD3.out, by omega, hF3⟩, by simp [intOf]; omega⟩
          rw [HTK.out, leaves_snoc_leaf (f := ⟨ph, idn⟩) HCU.out, ents_app]
          have := HO3.out
          simpa using this
        | some p =>
          obtain ⟨na, nb⟩ := p
          have hcl := congrArg List.length (cut1_some hcut).1
          simp only [List.length_append, List.length_cons] at hcl
          have HC := Lib.hid (Cut_some ph na nb m WC (by omega) hmc hcut)
          have HCU := Lib.hid hcut
          have hnl : na.length ≤ maxLen := by simp only [maxLen]; omega
          clear hcut hcl
          go_wp2_with fail
          refine HC.out.mono ?_
          rintro e w2 ⟨rfl, q, rfl⟩
          clear HC hWc
          have hFq : Fr [] wr (WC.drewN q) := hFc.drewN q
          have hFwq : Fr [] w (WC.drewN q) := hFwc.drewN q
          have m1 : (WC.drewN q).cell? ⟨wr.heap.size, 1, none⟩ = some (.string (mk idn)) := n1
          generalize WC.drewN q = W2 at *
          obtain ⟨f, hM, h2, h3, h4⟩ := HD.out
          have hro := DirsAt.row (mb := w.heap.size) (n := nD) h2 h3 na
          have hlk := (hM.fr hFq (by simp)).get u_string u_dirs z_files na hnl
          have hil := inDir_len (l.take k) na
          have htl : (l.take k).length ≤ k := List.length_take_le _ _
          generalize hrowD : (f na).getD (.slice none 0 0) = row at *
          obtain ⟨ra, rc, rfl, hr3, hr4⟩ := (Sl.of_own hro).shape
          have HRO := Lib.hid hro
          have HF := Lib.hid (show MapAt Tryz.prog 9 wr w.heap.size nD f ∧ (∀ nm v, f nm = some v → inDir (l.take k) nm ≠ [] ∧ wr.ownsRow w.heap.size 40 2 v (inDir (l.take k) nm).length (fvs (inDir (l.take k) nm))) ∧ (∀ nm, f nm = none → inDir (l.take k) nm = []) ∧
              (∀ s t v u g, f s = some v → f t = some u → v.ownBlock = some g → u.ownBlock = some g → s = t) ∧ (f na).getD (.slice none 0 0) = .slice ra (inDir (l.take k) na).length rc from ⟨hM, h2, h3, h4, hrowD⟩)
          have HO2 := Lib.hid (own_fr hro (hFq.alloc (.cells #[.string (mk nb), .string (mk idn)] 40)) (off_nil _ _))
          have hFL := hFq.alloc (.cells #[.string (mk nb), .string (mk idn)] 40)
          clear hro nz n1 hM h2 h3 h4 hrowD
          go_wp2_with (at_builtin; refine wpl_app w.heap.size rfl _ _ 31 40 _ 2 32 rfl u_filesT i_file rfl (by decide) _ _ _ rfl HO2.out 1 (fvs [⟨nb, idn⟩]) (Sl.lit (w := W2) #[.string (mk nb), .string (mk idn)] 1 rfl (by decide)) (fv_one _) (by omega) (by omega) (by have := hFwq.size; simp only [World.size_alloc]; omega) ?_)
          intro v3 w3 ho3 hg3 hat3
          obtain ⟨hM, h2, h3, h4, hrowD⟩ := HF.out
          have hrm : w.heap.size ∉ (Value.slice ra (inDir (l.take k) na).length rc).ownBlock.toList := fun hx => own_no_map HRO.out (by simpa [eq_comm] using hx) hM.row
          have hFg : Fr (Value.slice ra (inDir (l.take k) na).length rc).ownBlock.toList wr w3 := (hFL.weaken (by simp)).grown hg3 (fun k hk => .inl (by simp [hk]))
          obtain ⟨w5, hput, hM5, hF5⟩ := (hM.fr hFg hrm).put u_string u_dirs (by omega) na hnl v3
          obtain ⟨hD5, hF6⟩ := dirs_put (fl := ⟨ph, idn⟩) HCU.out hM h2 h3 h4 hrowD.symm hFL hg3 (by rw [World.size_alloc]; exact hat3) (by simpa [fvs] using ho3) hF5 hM5
          have hE5 := own_fr HE.out hF6 (fun x hx => by
            rcases List.mem_cons.1 hx with rfl | hx
            · exact hM.off _ _ (by simp)
            · exact own_off HRO.out (by decide) x hx)
          have hF7 : Fr [] w w5 := hF.trans hF6 (fun x hx => by
            rcases List.mem_cons.1 hx with rfl | hx
            · exact .inr (Nat.le_refl _)
            · exact .inr (own_block HRO.out x (by simpa [eq_comm] using hx)))
          have HD5 := Lib.hid hD5
          have HE5 := Lib.hid hE5
          clear hD5 hE5 ho3 hM h2 h3 h4 hrowD hM5 hg3 hat3 hF5 hF6 hFg hlk
          go_wp2_with fail
          refine ⟨⟨k + 1, nD + 1, by simp, by omega, ?_, by rw [HTK.out]; exact HD5.out, by omega, hF7⟩, by simp [intOf]; omega⟩
          rw [HTK.out, leaves_snoc_dir (f := ⟨ph, idn⟩) HCU.out]
          exact HE5.out
      · obtain rfl : k = l.length := by omega
        have b1 : decide (((l.length : Nat) : Int) < l.length) = false := by simp
        rw [List.take_length] at hE hD hll
        clear hc
        obtain ⟨f, ⟨D, hown, hf⟩, h2, h3', h4'⟩ := hD
        have hszD := hown.size_le
        have H1 := callsIn_wide.1 (Tryz.maps_Keys_56 (some w.heap.size) wr)
        have H2 := callsIn_wide.1 (Tryz.slices_Sorted_keys_55_56 w.heap.size nD D Rv wr hown (by simp only [maxLen]; omega) (by omega))
        have HDF := Lib.hid (show wr.ownsMap Tryz.prog 9 Rv w.heap.size nD D ∧ (∀ s, f s = lookD D s) ∧ (∀ nm v, f nm = some v → inDir l nm ≠ [] ∧ wr.ownsRow w.heap.size 40 2 v (inDir l nm).length (fvs (inDir l nm))) ∧ (∀ nm, f nm = none → inDir l nm = []) ∧
              (∀ s t v u g, f s = some v → f t = some u → v.ownBlock = some g → u.ownBlock = some g → s = t) from ⟨hown, hf, h2, h3', h4'⟩)
        have HE := Lib.hid hE
        clear hown hf h2 h3' h4' hszD hE
        go_wp2_with fail
        refine H1.mono ?_
        rintro e w2 ⟨rfl, rfl⟩
        go_wp2_with fail
        refine H2.mono ?_
        rintro e w3 ⟨vn, ss, rfl, hperm, hrow, hnil, hbel⟩
        obtain ⟨hown, hf, h2, h3', h4'⟩ := HDF.out
        have hK := keys_of hown hf u_string u_dirs z_files hperm
        have hnm : ss.mergeSort (fun x y => decide (x ≤ y)) = names l := names_eq hK.nodup hK.rise (fun x => by
          rw [hK.mem x, inDir_ne]
          cases hfx : f x with
          | none => simp [h3' x hfx]
          | some v => simp [(h2 x v hfx).1])
        have hsl : ss.length = (names l).length := by rw [← hnm, List.length_mergeSort]
        rw [encStr_sv, hnm, hsl] at hrow
        have hFS : Fr [] wr w3 := ((Fr.refl _ _).alloc _).trans0 (Fr.of_below hbel)
        have hDS := Lib.hid ((show DirsAt w.heap.size wr w.heap.size nD l from ⟨f, ⟨D, hown, hf⟩, h2, h3', h4'⟩).fr0 hFS)
        have hES := Lib.hid (own_fr HE.out hFS (off_nil _ _))
        have hFwS : Fr [] w w3 := hF.trans0 hFS
        have hBS := Lib.hid (HB.out.fr0 hFwS)
        have HROW := Lib.hid (Sl.of_own hrow)
        obtain ⟨na, nc, rfl, h5, h6⟩ := HROW.out.shape
        have hnl := names_len l
        have hnl2 := len_split l
        have hlv : (leaves l).length ≤ 4096 := by omega
        have hnm4 : (names l).length ≤ 4096 := by omega
        clear hown hf h2 h3' h4' hK hnm hsl hrow hperm hnil hbel H1 H2 HE HDF
        go_wp2_with fail
        go_loopw [6, 57] (fun e i wt2 => ∃ (k : Nat) (vo2 : Value) (vs2 : List Value), i = .int .i64 k ∧ k ≤ (names l).length ∧ wt2.ownsRow w.heap.size 70 3 e (leaves l ++ ((names l).take k).map fun nm => (⟨nm, true, sumF (encTree (treeE n (inDir l nm)))⟩ : Ent)).length (evs (leaves l ++ ((names l).take k).map fun nm => (⟨nm, true, sumF (encTree (treeE n (inDir l nm)))⟩ : Ent))) ∧
            BuildAt base wt2 B M vo2 vs2 (foldSub n l ((names l).take k) o) ∧ Fr (B :: M :: vo.ownBlock.toList) w wt2 ∧ Hid (∀ g, vo2.ownBlock = some g → vo.ownBlock = some g ∨ w.heap.size ≤ g) ∧ Hid (Sl wt2 9 1 (.slice na (names l).length nc) (names l).length ((names l).map sv)) ∧ Hid (DirsAt w.heap.size wt2 w.heap.size nD l)) (fun _ i _ => (names l).length - (intOf i).toNat)
        case atStart => exact ⟨0, vo, vs, rfl, by omega, by simpa using hES.out, hBS.out, hFwS.weaken (by simp), fun g h => .inl h, HROW.out, hDS.out⟩
        case round =>
          obtain ⟨k, vo2, vs2, rfl, hk, hE2, hB2, hF2, hvo2, hRW, hDR⟩ := hrel
          clear HROW hDS hES hBS hFS hFwS
          have hsz2 := hF2.size
          by_cases hlt : k < (names l).length
          · have b2 : decide ((k : Int) < (names l).length) = true := by simp; omega
            have i2 : (k : Int) < (names l).length := by omega
            have e2 : IntKind.i64.wrap ((k : Int) + 1) = (k : Int) + 1 := by rw [IntKind.wrap_i64]; omega
            have hgn := List.getElem?_eq_getElem hlt
            have hmem := List.getElem_mem hlt
            have htk : (names l).take (k + 1) = (names l).take k ++ [(names l)[k]] := by rw [List.take_add_one, hgn]; rfl
            generalize (names l)[k] = nm at *
            obtain ⟨ra', rc', hve, _, _, hcl⟩ := hRW.out.open1
            obtain ⟨rfl, rfl⟩ : na = ra' ∧ nc = rc' := by simpa using hve
            obtain ⟨gb, go, rfl, hcell⟩ := hcl (by omega)
            have x1 := hcell k hlt
            rw [List.getElem?_map, hgn, Option.map_some, sv] at x1
            have hmapS : ∃ es c, wr.heap[w.heap.size]? = some (.map es c) := let ⟨_, h1, _⟩ := hDR.out; h1.row
            have hMne : w.heap.size ≠ M := by have := HB.out.map.lt; omega
            have HNM := Lib.hid (hB2.not_map hmapS hMne)
            obtain ⟨f, hM, h2, h3', h4'⟩ := hDR.out
            have hni : nm ∈ dirNames l := (names_mem l nm).1 hmem
            have hpo := HG.out.name hni
            have hnl100 : nm.length ≤ maxLen := by
              have : nm.length ≤ 100 := by simp [partOk] at hpo; omega
              simp only [maxLen]; omega
            have hlk := hM.get u_string u_dirs z_files nm hnl100
            have hro := DirsAt.row (mb := w.heap.size) (n := nD) h2 h3' nm
            generalize hrowD : (f nm).getD (.slice none 0 0) = row at *
            have hine := inDir_ne.1 hni
            obtain ⟨fl, hfl⟩ := List.exists_mem_of_ne_nil _ hine
            have hn0 : 0 < n := by
              have h1 := path_pos (HG.out.sub nm) hfl
              have h2 := in_short hsh fl hfl
              omega
            have hrm := foldSub_room n l o k nm hgn
            have HC := Lib.hid (IH.out (inDir l nm) row base B M vo2 vs2 _ wr hn0 (by omega) (HG.out.sub nm) (in_short hsh) (Sl.of_own hro) hB2 (by omega) (hF2.cell hm HB.out.zero))
            have hlen2 : (leaves l ++ ((names l).take k).map fun nm => (⟨nm, true, sumF (encTree (treeE n (inDir l nm)))⟩ : Ent)).length ≤ 10000 := by simp; omega
            obtain ⟨ents, hents⟩ : ∃ ents, (leaves l ++ ((names l).take k).map fun nm => (⟨nm, true, sumF (encTree (treeE n (inDir l nm)))⟩ : Ent)) = ents := ⟨_, rfl⟩
            rw [hents] at hE2 hlen2
            have HENTS := Lib.hid hents
            have HTK := Lib.hid htk
            have HE2 := Lib.hid hE2
            have HB2 := Lib.hid hB2
            have HRO := Lib.hid hro
            obtain ⟨ra, rc, rfl, _, _⟩ := (Sl.of_own hro).shape
            clear hents htk hE2 hB2 hro hrowD hM h2 h3' h4' hcell hcl hve hgn hmem hni hpo hine hfl hrm hmapS hMne
            go_wp2_with fail
            refine HC.out.mono ?_
            rintro e w4 ⟨rfl, vo3, vs3, hB3, hF3, hvo3⟩
            generalize hidd : sumF (encTree (treeE n (inDir l nm))) = idd at *
            have HIDD := Lib.hid hidd
            have hE4 := own_fr HE2.out hF3 (HB2.out.off _ (by decide) (by decide))
            have HE4 := Lib.hid (own_fr hE4 ((Fr.refl [] w4).alloc (.cells #[.string (mk nm), .bool true, .string (mk idd)] 70)) (off_nil _ _))
            have HB3 := Lib.hid hB3
            have hsz4 := hF3.size
            clear hidd hE4 hB3 HC hlk x1
            go_wp2_with (at_builtin; refine wpl_app w.heap.size rfl _ _ 61 70 _ 3 40 rfl u_entries i_entry rfl (by decide) _ _ _ rfl HE4.out 1 (evs [⟨nm, true, idd⟩]) (Sl.lit (w := w4) #[.string (mk nm), .bool true, .string (mk idd)] 1 rfl (by decide)) (ev_one _) (by omega) (by omega) (by simp only [World.size_alloc]; omega) ?_)
            intro v5 w5 ho5 hg5 _
            have HB5 := Lib.hid ((HB3.out.fr0 ((Fr.refl [] w4).alloc (.cells #[.string (mk nm), .bool true, .string (mk idd)] 70))).ents HE4.out ((Fr.refl _ _).grown hg5 (fun k hk => .inl (by simp [hk]))))
            have HRW5 := Lib.hid (((hRW.out.fr hF3 (HB2.out.off _ (by decide) (by decide))).fr0 ((Fr.refl [] w4).alloc (.cells #[.string (mk nm), .bool true, .string (mk idd)] 70))).fr ((Fr.refl _ _).grown hg5 (fun k hk => .inl (by simp [hk]))) (own_off HE4.out (by decide)))
            have HDR5 := Lib.hid (((hDR.out.fr hF3 HNM.out (HB2.out.off _ (by decide) (by decide))).fr0 ((Fr.refl [] w4).alloc (.cells #[.string (mk nm), .bool true, .string (mk idd)] 70))).ents HE4.out ((Fr.refl _ _).grown hg5 (fun k hk => .inl (by simp [hk]))))
            have HF5 : Fr (B :: M :: vo.ownBlock.toList) w w5 := ((hF2.trans hF3 (fun x hx => by
              rcases List.mem_cons.1 hx with rfl | hx
              · exact .inl (by simp)
              rcases List.mem_cons.1 hx with rfl | hx
              · exact .inl (by simp)
              · rcases hvo2.out x (by simpa [eq_comm] using hx) with h | h
                · exact .inl (by simp [h])
                · exact .inr h)).alloc _).grown hg5 (fun k hk => .inr (own_block HE4.out k hk))
            have hvo5 : Hid (∀ g, vo3.ownBlock = some g → vo.ownBlock = some g ∨ w.heap.size ≤ g) := fun g hg => by
              rcases hvo3 g hg with h | h
              · exact hvo2.out g h
              · exact .inr (by omega)
            have HO5 := Lib.hid ho5
            clear ho5 hg5 hvo3 hF3
            go_wp2_with fail
            refine ⟨⟨k + 1, vo3, vs3, by simp, by omega, ?_, ?_, HF5, hvo5, HRW5.out, HDR5.out⟩, by simp [intOf]; omega⟩
            · rw [HTK.out, List.map_append, ← List.append_assoc, HENTS.out]
              simp only [List.map_cons, List.map_nil]
              rw [HIDD.out, ents_app]
              have := HO5.out
              simpa using this
            · have : foldSub n l ((names l).take (k + 1)) o = subE n (inDir l nm) (foldSub n l ((names l).take k) o) := by rw [HTK.out]; simp [foldSub, List.foldl_append]
              rw [this]
              exact HB5.out
          · obtain rfl : k = (names l).length := by omega
            have b2 : decide ((((names l).length : Nat) : Int) < (names l).length) = false := by simp
            rw [List.take_length] at hE2 hB2
            have hE2' : wr.ownsRow w.heap.size 70 3 u6 (entsOf n l).length (evs (entsOf n l)) := hE2
            have hel := entsOf_len n l
            obtain ⟨ea, ec, rfl, _, _⟩ := (Sl.of_own hE2').shape
            have HS := Lib.hid (sortEnts _ _ _ wr hE2' (by omega))
            have HE2 := Lib.hid hE2'
            have HB2 := Lib.hid hB2
            clear hE2 hE2' hB2 hRW hDR
            go_wp2_with fail
            refine HS.out.mono ?_
            rintro e w4 ⟨rfl, l', hpm, hso, hE4, hF4⟩
            obtain rfl : l' = treeE (n + 1) l := (sort_one hpm hso (HG.out.names n)).trans (treeE_succ n l).symm
            have hB4 := HB2.out.ents HE2.out hF4
            have hF4w : Fr (B :: M :: vo.ownBlock.toList) w w4 := hF2.trans hF4 (fun x hx => .inr (own_block HE2.out x (by simpa [eq_comm] using hx)))
            have hokT := HG.out.ents n
            have hEn := Encode_calls _ (treeE (n + 1) l) w4 (Sl.of_own hE4) hokT
            unfold objV at hEn
            have hbl := encTree_len (treeE (n + 1) l) hokT
            have h4096T := hokT.2.2
            have HEn := Lib.hid hEn
            have HB4 := Lib.hid hB4
            have HOK := Lib.hid hokT
            have hoL := foldSub_room' n l o
            obtain ⟨o2, ho2⟩ : ∃ o2, foldSub n l (names l) o = o2 := ⟨_, rfl⟩
            rw [ho2] at HB4 hoL
            have hsub : subE (n + 1) l o = addT o2 (treeE (n + 1) l) := by rw [← ho2]; rfl
            have HSUB := Lib.hid hsub
            have hsz4 := hF4w.size
            clear hE4 hEn hB4 hokT HE2 HB2 hpm hso HS hF4 hF2 ho2 hsub
            obtain ⟨t, ht⟩ : ∃ t, treeE (n + 1) l = t := ⟨_, rfl⟩
            rw [ht] at HEn HOK HSUB hbl h4096T
            have HT := Lib.hid ht
            clear ht
            go_wp2_with fail
            refine HEn.out.mono ?_
            rintro e w5 ⟨raw, rfl, hraw, hF5⟩
            have HRAW := Lib.hid hraw
            obtain ⟨rwa, rwc, rfl, _, _⟩ := (Sl.of_own hraw).shape
            have HB5 := Lib.hid (HB4.out.fr0 hF5)
            have c1 := HB5.out.c1
            have hmet := HB5.out.met HOK.out
            obtain ⟨bs, hbs⟩ : ∃ bs, encTree t = bs := ⟨_, rfl⟩
            have hcv : ∀ W, Fr [] w5 W → (convert 60 9 (.slice rwa bs.length rwc)).run Tryz.prog W = .ok (.string (mk bs)) W := fun W hW => by
              have := conv_string u_bytes u_byte u_string ((Sl.of_own HRAW.out).fr0 hW)
              rw [hbs] at this
              exact this
            have hlk : ∀ W, Fr [] w5 W → (Instr.lookup 76 (.map (some M)) (.string (mk bs)) true).run Tryz.prog W = .ok (.tuple #[(metF o2 bs).getD (.string ⟨#[]⟩), .bool (metF o2 bs).isSome]) W := fun W hW =>
              (HB5.out.map.fr hW (by simp)).get_ok u_string u_met z_str bs (by rw [← hbs]; simp only [maxLen]; omega)
            have hSm := fun W (hW : Fr [] w5 W) => Sum_calls (.slice rwa bs.length rwc) bs W (by have := (Sl.of_own HRAW.out).fr0 hW; rw [hbs] at this; exact this) (by rw [← hbs]; omega)
            rw [hbs] at hmet hbl ⊢
            have HBS := Lib.hid hbs
            have HCV := Lib.hid hcv
            have HLK := Lib.hid hlk
            have HSm := Lib.hid hSm
            have k1 := hcv _ (Fr.refl _ _)
            have k2 := hlk _ (Fr.refl _ _)
            clear hcv hlk hSm hbs hraw HEn
            by_cases hin : t ∈ o2
            · have hmf : metF o2 bs = some (.string (mk (sumF bs))) := by
                unfold metF at hmet ⊢
                split at hmet
                · rename_i h; rw [if_pos h]
                · simp [hin] at hmet
              rw [hmf] at k2 HLK
              simp only [Option.getD_some, Option.isSome_some] at k2 HLK
              have HIN := Lib.hid hin
              clear hin hmf hmet
              have hS0 : w5.drew.cell? ⟨B, 1, none⟩ = some (.map (some M)) ∧ (convert 60 9 (.slice rwa bs.length rwc)).run Tryz.prog w5.drew = .ok (.string (mk bs)) w5.drew ∧ (Instr.lookup 76 (.map (some M)) (.string (mk bs)) true).run Tryz.prog w5.drew = .ok (.tuple #[.string (mk (sumF bs)), .bool true]) w5.drew := ⟨c1, HCV.out _ (Fr.refl _ _).drew, HLK.out _ (Fr.refl _ _).drew⟩
              have HS0 := Lib.hid hS0
              clear hS0 k1 k2
              go_wp2_with fail
              go_region_held3 (fun w' => w'.cell? ⟨B, 1, none⟩ = some (.map (some M)) ∧ (convert 60 9 (.slice rwa bs.length rwc)).run Tryz.prog w' = .ok (.string (mk bs)) w' ∧ (Instr.lookup 76 (.map (some M)) (.string (mk bs)) true).run Tryz.prog w' = .ok (.tuple #[.string (mk (sumF bs)), .bool true]) w') (exact HS0.out) (fail)
              go_wp2_with fail
              go_ret
              refine ⟨by rw [HT.out, HBS.out]; rfl, vo2, vs2, ?_, (hF4w.trans0 hF5).drew, hvo2.out⟩
              rw [HSUB.out]
              unfold addT
              rw [if_pos HIN.out]
              exact HB5.out.fr0 (Fr.refl _ _).drew
            · have hmf : metF o2 bs = none := by
                unfold metF at hmet ⊢
                split at hmet
                · simp [hin] at hmet
                · rename_i h; rw [if_neg h]
              rw [hmf] at k2 HLK
              simp only [Option.getD_none, Option.isSome_none] at k2 HLK
              have HIN := Lib.hid hin
              clear hin hmf hmet k2
              have hS0 : w5.drew.cell? ⟨B, 1, none⟩ = some (.map (some M)) ∧ (convert 60 9 (.slice rwa bs.length rwc)).run Tryz.prog w5.drew = .ok (.string (mk bs)) w5.drew ∧ (Instr.lookup 76 (.map (some M)) (.string (mk bs)) true).run Tryz.prog w5.drew = .ok (.tuple #[.string ⟨#[]⟩, .bool false]) w5.drew := ⟨c1, HCV.out _ (Fr.refl _ _).drew, HLK.out _ (Fr.refl _ _).drew⟩
              have HS0 := Lib.hid hS0
              have hFd : Fr [] w5 w5.drew := (Fr.refl _ _).drew
              clear hS0 k1 c1
              go_wp2_with fail
              go_region_held3 (fun w' => w'.cell? ⟨B, 1, none⟩ = some (.map (some M)) ∧ (convert 60 9 (.slice rwa bs.length rwc)).run Tryz.prog w' = .ok (.string (mk bs)) w' ∧ (Instr.lookup 76 (.map (some M)) (.string (mk bs)) true).run Tryz.prog w' = .ok (.tuple #[.string ⟨#[]⟩, .bool false]) w') (exact HS0.out) (fail)
              clear HS0
              generalize w5.drew = w5d at *
              go_wp2_with fail
              refine (HSm.out _ hFd).mono ?_
              rintro e w6 ⟨rfl, hF6⟩
              have hF56 : Fr [] w5 w6 := hFd.trans0 hF6
              have HB6 := Lib.hid (HB5.out.fr0 hF56)
              obtain ⟨w7, hput, hM7, hF7⟩ := (HB5.out.map.fr (hF56.drew) (by simp)).put u_string u_met (by omega) bs (by simp only [maxLen]; omega) (.string (mk (sumF bs)))
              have hMB : B ∉ [M] := by simpa using HB6.out.ne_map
              have hS6 : w6.drew.cell? ⟨B, 1, none⟩ = some (.map (some M)) ∧ (convert 60 9 (.slice rwa bs.length rwc)).run Tryz.prog w6.drew = .ok (.string (mk bs)) w6.drew := ⟨HB6.out.c1, HCV.out _ hF56.drew⟩
              have hsl7 : Sl w7 5 1 (.slice rwa bs.length rwc) bs.length (bs.map bv) := by
                have := ((Sl.of_own HRAW.out).fr0 hF56.drew).fr hF7 ((HB6.out.map.fr (Fr.refl [] w6).drew (by simp)).off _)
                rw [HBS.out] at this
                exact this
              have hS7 : w7.cell? ⟨B, 1, none⟩ = some (.map (some M)) ∧ (convert 60 9 (.slice rwa bs.length rwc)).run Tryz.prog w7 = .ok (.string (mk bs)) w7 := ⟨hF7.cell (p := ⟨B, 1, none⟩) HB6.out.c1 hMB, conv_string u_bytes u_byte u_string hsl7⟩
              have HS6 := Lib.hid hS6
              have HS7 := Lib.hid hS7
              have HM7 := Lib.hid hM7
              have d0 := hF7.cell (p := ⟨B, 0, none⟩) HB6.out.c0 hMB
              have HSL := Lib.hid hsl7
              have hfz : w7.frozen? ⟨B, 0, none⟩ = false := (World.frozen?_of_block (w := w6) (a := ⟨B, 0, none⟩) (hF7.blk B HB6.out.lt hMB)).trans (HB6.out.free 0)
              clear hS6 hS7 hM7 hsl7 HSm HLK
              go_wp2_with fail
              go_region_held3 (fun w' => w'.cell? ⟨B, 1, none⟩ = some (.map (some M)) ∧ (convert 60 9 (.slice rwa bs.length rwc)).run Tryz.prog w' = .ok (.string (mk bs)) w') (first | exact HS6.out | exact HS7.out) (fail)
              clear HS6 HS7 HCV hput
              have hsl8 := HSL.out.fr0 ((Fr.refl [] w7).alloc (.cells #[.slice rwa bs.length rwc] 60))
              have HO8 := Lib.hid (own_fr (own_fr HB6.out.out hF7.of_drew (HB6.out.map.off _)) ((Fr.refl [] w7).alloc (.cells #[.slice rwa bs.length rwc] 60)) (off_nil _ _))
              have hsz7 := hF7.size
              have hbs6 := HB6.out.hbase
              simp only [World.size_drew] at hsz7
              clear hsl8
              go_wp2_with (at_builtin; refine wpl_app base rfl _ _ 42 60 _ 1 24 rfl u_raws i_raw rfl (by decide) _ _ _ rfl HO8.out 1 [.slice rwa bs.length rwc] (Sl.lit (w := w7) #[.slice rwa bs.length rwc] 1 rfl (by decide)) (one_cell _ rfl) (by omega) (by omega) (by simp only [World.size_alloc]; omega) ?_)
              intro v8 w8 ho8 hg8 hat8
              have hadd := HB6.out.add (r := t) HOK.out (vr := .slice rwa bs.length rwc) (v' := v8) (by
                rw [HBS.out]
                have := (Sl.of_own HRAW.out).fr0 hF56
                rw [HBS.out] at this
                exact this) hF7.of_drew (by rw [HBS.out]; exact HM7.out) ((Fr.refl [] w7).alloc (.cells #[.slice rwa bs.length rwc] 60)) hg8 ho8 (by rw [World.size_alloc]; exact hat8)
              have hBv : B ∉ vo2.ownBlock.toList := own_ne HB6.out.out HB6.out.row (by decide)
              have hF8 : Fr vo2.ownBlock.toList w7 w8 := (((Fr.refl [] w7).alloc (.cells #[.slice rwa bs.length rwc] 60)).weaken (by simp)).grown hg8 (fun k hk => .inl (by simp [hk]))
              have hBl7 : B < w7.heap.size := by have := HB6.out.lt; omega
              have hfz8 : w8.frozen? ⟨B, 0, none⟩ = false := (World.frozen?_of_block (w := w7) (a := ⟨B, 0, none⟩) (hF8.blk B hBl7 hBv)).trans hfz
              have d8 := hF8.cell d0 hBv
              have HADD := Lib.hid hadd
              obtain ⟨va8, vc8, rfl, _, _⟩ := (Sl.of_own ho8).shape
              clear hadd ho8 hg8 hat8 hF8
              go_wp2_with fail
              go_ret
              obtain ⟨hB9, hF9, hvo9⟩ := HADD.out
              have hsz6 := hF56.size
              have hsz5 := hF5.size
              have hF46 : Fr (B :: M :: vo.ownBlock.toList) w w6 := hF4w.trans0 (hF5.trans0 hF56)
              refine ⟨by rw [HT.out, HBS.out]; rfl, .slice va8 (o2.length + 1) vc8, vs2 ++ [.slice rwa bs.length rwc], ?_, hF46.trans hF9 (fun x hx => ?_), fun g hg => ?_⟩
              · rw [HSUB.out]
                unfold addT
                rw [if_neg HIN.out]
                exact hB9
              · rcases List.mem_cons.1 hx with rfl | hx
                · exact .inl (by simp)
                rcases List.mem_cons.1 hx with rfl | hx
                · exact .inl (by simp)
                · rcases hvo2.out x (by simpa [eq_comm] using hx) with h | h
                  · exact .inl (by simp [h])
                  · exact .inr h
              · rcases hvo9 g hg with h | h
                · exact hvo2.out g h
                · exact .inr (by omega)
end Go.Proofs.YtjelehcnpocnoaaGreatDoor
/- Layer 13, trees: Build, Write. -/
namespace Go.Proofs.YtjelehcnpocnoaaGreatDoor
set_option linter.unusedSimpArgs false
set_option linter.unusedVariables false
set_option linter.unnecessarySimpa false
open Go.RowKit
set_option maxRecDepth 100000
set_option maxHeartbeats 8000000

/-- The trees' bytes in memory. -/
def RawsAt (w : World) (vo : Value) (o : List (List Ent)) : Prop := ∃ vs, Sl w 60 1 vo o.length vs ∧ ∀ (j : Nat) (x : List Ent), o[j]? = some x → ∃ v, vs[j]? = some v ∧ Sl w 5 1 v (encTree x).length ((encTree x).map bv)
theorem RawsAt.fr {F : List Nat} {w w' : World} {vo : Value} {o : List (List Ent)} (h : RawsAt w vo o) (hF : Fr F w w') (h1 : Off F w 60) (h2 : Off F w 5) : RawsAt w' vo o := by
  obtain ⟨vs, k1, k2⟩ := h
  refine ⟨vs, k1.fr hF h1, fun j x hx => ?_⟩
  obtain ⟨v, hv, hs⟩ := k2 j x hx
  exact ⟨v, hv, hs.fr hF h2⟩
/-- The trees of files, each once, and the root. -/
def treesOf (l : List Fl) : List (List Ent) := subE 152 l []
def rootOf (l : List Fl) : Bs := sumF (encTree (treeE 152 l))
theorem checkOk_dec (l : List Fl) : checkOk l ∨ ¬ checkOk l := Classical.em _
theorem wt_le {l : List Fl} (n m : Nat) (h : ∀ f ∈ l, f.path.length < n) (hl : l.length ≤ m) : wt l ≤ m * n := by
  suffices wt l ≤ l.length * n from Nat.le_trans this (Nat.mul_le_mul_right _ hl)
  clear hl
  induction l with
  | nil => simp [wt]
  | cons f l ih =>
    have h1 := ih fun g hg => h g (by simp [hg])
    have h2 := h f (by simp)
    have : wt (f :: l) = f.path.length + 1 + wt l := by simp [wt]
    rw [this, List.length_cons, Nat.succ_mul]
    omega
theorem TBuild_ok (m : Int) (v : Value) (l : List Fl) (w : World) (h : Fs w 40 v l) (hok : checkOk l) (hl : l.length ≤ 4096) (hm : w.cell? ⟨0, 0, none⟩ = some (.int .i64 m)) :
    Calls Tryz.prog 13 #[v] w fun e w' => ∃ vo, e = .returned (.tuple #[vo, .string (mk (rootOf l)), .int .i64 0]) ∧ RawsAt w' vo (treesOf l) ∧ Fr [] w w' := by
  have hsh := check_short hok
  have hwt := wt_le 152 4096 hsh hl
  have hid : ∀ f ∈ l, f.path.length ≤ 4000000 ∧ f.id.length ≤ 4000000 := fun f hf => ⟨by have := hsh f hf; omega, by have := ((check_good hok).ok f hf).2; omega⟩
  have HT := Lib.hid ((TCheck_calls m v l w h (by omega) hid hm).mono (R' := fun e w' => e = .returned (.int .i64 0) ∧ Fr [] w w') (by
    rintro e w' ⟨r, rfl, hr, hF⟩
    rcases hr with ⟨rfl, _⟩ | ⟨_, hn⟩
    · exact ⟨rfl, hF⟩
    · exact absurd hok hn))
  have hw0 : 0 < w.heap.size := Nat.lt_of_le_of_lt (Nat.zero_le _) (World.block_lt_of_cell? w _ hm)
  have HB := Lib.hid (fun (W : World) (hW : Fr [] w W) => build_calls m 152 l v W.heap.size (W.heap.size + 1) W.heap.size (.slice none 0 0) [] [] ((W.alloc (.map #[] 0)).alloc (.cells #[.slice none 0 0, .map (some W.heap.size)] 78)) (by omega) (by omega) (check_good hok) hsh (h.fr0 ((hW.alloc _).alloc _)) (BuildAt.new W.heap.size W (by have := hW.size; omega) (Nat.le_refl _)) (by simp; omega) (((hW.alloc _).alloc _).cell hm (by simp)))
  have hmm := @run_makeMap Tryz.prog
  obtain ⟨a, c, rfl, h3, h4, hc⟩ := Fs.open2 h
  clear hc
  go_enter Tryz.func13, Tryz.ntmps13
  go_wp2_with fail
  refine HT.out.mono ?_
  rintro e w1 ⟨rfl, hF1⟩
  clear HT
  go_wp2_with fail
  refine (HB.out w1 hF1).mono ?_
  rintro e w2 ⟨rfl, vo, vs, hB2, hF2, _⟩
  clear HB hmm
  have c0 := hB2.c0
  have hout := Sl.of_own hB2.out
  have hraw : RawsAt w2 vo (treesOf l) := ⟨vs, hout, hB2.raw⟩
  have HR := Lib.hid hraw
  have hFF : Fr [] w w2 := ((hF1.alloc _).alloc _).trans hF2 (fun x hx => by
    right
    have := hF1.size
    rcases List.mem_cons.1 hx with rfl | hx
    · omega
    · simp [Value.ownBlock] at hx; omega)
  obtain ⟨oa, oc, rfl, _⟩ := hout.shape
  clear hraw
  go_wp2_with fail
  refine bodyPost_ret (v := .tuple #[.slice oa (subE 152 l []).length oc, .string (mk (sumF (encTree (treeE 152 l)))), .int .i64 0]) (by simp [results, Tryz.results13, go_sem]) rfl ⟨_, rfl, HR.out, hFF⟩
theorem TBuild_no (m : Int) (v : Value) (l : List Fl) (w : World) (h : Fs w 40 v l) (hl : l.length ≤ 1000000) (hs : ∀ f ∈ l, f.path.length ≤ 4000000 ∧ f.id.length ≤ 4000000) (hno : ¬ checkOk l) (hm : w.cell? ⟨0, 0, none⟩ = some (.int .i64 m)) :
    Calls Tryz.prog 13 #[v] w fun e w' => e = .returned (.tuple #[.slice none 0 0, .string ⟨#[]⟩, .int .i64 1]) ∧ Fr [] w w' := by
  have HT := Lib.hid ((TCheck_calls m v l w h hl hs hm).mono (R' := fun e w' => e = .returned (.int .i64 1) ∧ Fr [] w w') (by
    rintro e w' ⟨r, rfl, hr, hF⟩
    rcases hr with ⟨_, hy⟩ | ⟨rfl, _⟩
    · exact absurd hy hno
    · exact ⟨rfl, hF⟩))
  obtain ⟨a, c, rfl, h3, h4, hc⟩ := Fs.open2 h
  clear hc
  go_enter Tryz.func13, Tryz.ntmps13
  go_wp2_with fail
  refine HT.out.mono ?_
  rintro e w1 ⟨rfl, hF1⟩
  clear HT
  go_wp2_with fail
  refine bodyPost_ret (v := .tuple #[.slice none 0 0, .string ⟨#[]⟩, .int .i64 1]) (by simp [results, Tryz.results13, go_sem]) rfl ⟨rfl, hF1⟩

/-- Room for so many bytes, the power on. -/
structure Room (d : Dk) (need : Nat) : Prop where
  off : d.off = false
  left : d.left = -1
  lo : (need : Int) ≤ d.free
  hi : d.free ≤ 1099511627776
  puts : d.puts + need ≤ 1000000000000
theorem Room.roomy {d : Dk} {need : Nat} (h : Room d need) : Roomy d := by
  have h1 := h.lo
  have h2 := h.hi
  have h3 := h.puts
  have h4 := h.left
  exact ⟨⟨by omega, by omega, by omega, by omega, by omega⟩, h.off, h.left, by omega⟩
theorem Room.step {d d' : Dk} {c need : Nat} (h : Room d (c + need)) (h1 : d'.off = d.off) (h2 : d'.left = d.left) (h3 : d.free - (c : Nat) ≤ d'.free) (h4 : d'.free ≤ d.free) (h5 : d'.puts ≤ d.puts + c) : Room d' need := by
  have k1 := h.lo
  have k2 := h.hi
  have k3 := h.puts
  exact ⟨h1.trans h.off, h2.trans h.left, by omega, by omega, by omega⟩
theorem Room.le {d : Dk} {a b : Nat} (h : Room d a) (hb : b ≤ a) : Room d b := by
  have k1 := h.lo
  have k3 := h.puts
  exact ⟨h.off, h.left, by omega, h.hi, by omega⟩
def costT (o : List (List Ent)) : Nat := (o.map fun x => 200 + 28 * (encTree x).length).sum
theorem costT_le (c : Nat) : ∀ o : List (List Ent), (∀ x ∈ o, (encTree x).length ≤ c) → costT o ≤ o.length * (200 + 28 * c)
  | [], _ => by simp [costT]
  | x :: o, h => by
    have h1 := costT_le c o fun y hy => h y (by simp [hy])
    have h2 := h x (by simp)
    have h3 : costT (x :: o) = 200 + 28 * (encTree x).length + costT o := by simp [costT]
    have h4 : 200 + 28 * (encTree x).length ≤ 200 + 28 * c := by omega
    obtain ⟨q, hq⟩ : ∃ q, 200 + 28 * c = q := ⟨_, rfl⟩
    rw [hq] at h1 h4 ⊢
    have h5 : (o.length + 1) * q = o.length * q + q := Nat.succ_mul _ _
    rw [h3, List.length_cons, h5]
    omega
def Ext (O O' : Bs → Option (List Ent)) : Prop := ∀ x y, O x = some y → O' x = some y
/-- Two trees that are not the same and have one sum. -/
def Clash (O : Bs → Option (List Ent)) (o : List (List Ent)) : Prop := ∃ x y, x ≠ y ∧ sumF (encTree x) = sumF (encTree y) ∧ x ∈ o ∧ (y ∈ o ∨ ∃ id, O id = some y)
def WritePostT (S K p mb need : Nat) (O : Bs → Option (List Ent)) (o : List (List Ent)) (root : Bs) (w : World) (e : Ending) (w' : World) : Prop :=
  ((e = .returned (.tuple #[.string (mk root), .int .i64 0]) ∧ ∃ d' O', StoreAt w' S K p mb d' O' ∧ Room d' need ∧ Ext O O' ∧ (∀ x ∈ o, O' (sumF (encTree x)) = some x)) ∨
   (e = .returned (.tuple #[.string ⟨#[]⟩, .int .i64 7]) ∧ Clash O o ∧ ∃ d' O', StoreAt w' S K p mb d' O' ∧ Room d' need ∧ Ext O O')) ∧ Fr [p, mb] w w'
theorem trees_ok {l : List Fl} (hok : checkOk l) : ∀ x ∈ treesOf l, okEnts x := fun x hx => (sub_ok 152 l [] (check_good hok) (by simp) x hx).1
theorem TWrite_calls (m : Int) (S K p mb need : Nat) (d : Dk) (O : Bs → Option (List Ent)) (v : Value) (l : List Fl) (w : World) (h : StoreAt w S K p mb d O) (hR : Room d (costT (treesOf l) + need)) (hv : Fs w 40 v l) (hok : checkOk l) (hm : w.cell? ⟨0, 0, none⟩ = some (.int .i64 m)) :
    Calls Tryz.prog 7 #[.pointer (some ⟨S, 0, none⟩), v] w (WritePostT S K p mb need O (treesOf l) (rootOf l) w) := by
  have HB := Lib.hid (TBuild_ok m v l w hv hok hok.2 hm)
  have HOK := Lib.hid (trees_ok hok)
  obtain ⟨a, c, rfl, h3, h4, hc⟩ := Fs.open2 hv
  clear hc
  obtain ⟨o, ho⟩ : ∃ o, treesOf l = o := ⟨_, rfl⟩
  rw [ho] at HB HOK hR ⊢
  clear ho
  go_enter Tryz.func7, Tryz.ntmps7
  go_wp2_with fail
  refine HB.out.mono ?_
  rintro e w1 ⟨vo, rfl, hraw, hF1⟩
  clear HB
  obtain ⟨vs, hvs, hr⟩ := hraw
  obtain ⟨oa, oc, rfl, h5, h6⟩ := hvs.shape
  have h1 := h.fr0 hF1
  have HVS := Lib.hid hvs
  have HRW := Lib.hid hr
  have HH := Lib.hid h1
  clear hvs hr h h1
  go_wp2_with fail
  go_loopw [24] (fun i wr => ∃ (k : Nat) (d' : Dk) (O' : Bs → Option (List Ent)), i = .int .i64 k ∧ k ≤ o.length ∧ StoreAt wr S K p mb d' O' ∧ Room d' (costT (o.drop k) + need) ∧ Hid (Ext O O') ∧ Hid (∀ (j : Nat) (x : List Ent), j < k → o[j]? = some x → O' (sumF (encTree x)) = some x) ∧ Hid (∀ id y, O' id = some y → O id = some y ∨ y ∈ o) ∧ Fr [p, mb] w1 wr) (fun i _ => o.length - (intOf i).toNat)
  case atStart => exact ⟨0, d, O, rfl, by omega, HH.out, by simpa using hR, fun x y h => h, fun j x hj => absurd hj (by omega), fun id y h => .inl h, Fr.refl _ _⟩
  case round =>
    obtain ⟨k, d', O', rfl, hk, hS, hRm, hE, hdone, hnew, hF⟩ := hrel
    by_cases hlt : k < o.length
    · have b1 : decide ((k : Int) < o.length) = true := by simp; omega
      have i1 : (k : Int) < o.length := by omega
      have e1 : IntKind.i64.wrap ((k : Int) + 1) = (k : Int) + 1 := by rw [IntKind.wrap_i64]; omega
      have hgx := List.getElem?_eq_getElem hlt
      have hmem := List.getElem_mem hlt
      have hdr : o.drop k = o[k] :: o.drop (k + 1) := List.drop_eq_getElem_cons hlt
      generalize o[k] = x at *
      obtain ⟨u, hu, hus⟩ := HRW.out k x hgx
      have hoff : Off [p, mb] w1 5 := HH.out.disk.off_ _ (by decide)
      have hoff2 : Off [p, mb] w1 60 := HH.out.disk.off_ _ (by decide)
      have husr := hus.fr hF hoff
      obtain ⟨oa', oc', hve, _, _, hcl⟩ := (HVS.out.fr hF hoff2).open1
      obtain ⟨rfl, rfl⟩ : oa = oa' ∧ oc = oc' := by simpa using hve
      obtain ⟨gb, go, rfl, hcell⟩ := hcl (by omega)
      have x1 := hcell k hlt
      rw [hu] at x1
      obtain ⟨ua, uc, rfl, u1, u2⟩ := husr.shape
      have hcost : costT (o.drop k) = 200 + 28 * (encTree x).length + costT (o.drop (k + 1)) := by rw [hdr]; simp [costT]
      rw [hcost, Nat.add_assoc] at hRm
      have HP := Lib.hid (SPut_calls S K p mb d' O' x _ wr hS hRm.roomy (HOK.out x hmem) husr (by have := hRm.lo; omega))
      have HGX := Lib.hid hgx
      have HDR := Lib.hid hdr
      have HRM := Lib.hid hRm
      have HMEM := Lib.hid hmem
      clear hcost hdr hgx hcell hcl hve hu hus husr hoff hoff2 hRm hmem
      go_wp2_with fail
      refine HP.out.mono ?_
      rintro e w2 (⟨y, hOy, hyx, rfl, hF2⟩ | ⟨rfl, hO, d2, hS2, ho1, ho2, ho3, ho4, ho5, hF2⟩)
      · have hRm2 := Lib.hid (HRM.out.le (show need ≤ 200 + 28 * (encTree x).length + (costT (o.drop (k + 1)) + need) by omega))
        have hcl : Hid (Clash O o) := by
          have hok := hS.objs.has _ _ hOy
          exact ⟨x, y, fun e => hyx e.symm, hok.2.1.symm, HMEM.out, by
            rcases hnew.out _ _ hOy with h | h
            · exact .inr ⟨_, h⟩
            · exact .inl h⟩
        have hS2 := Lib.hid (hS.fr0 hF2)
        have hFF : Fr [p, mb] w w2 := ((hF1.weaken (by simp)).trans hF (by simp)).trans0 hF2
        clear hOy hyx hS hF2 HP
        go_wp2_with fail
        refine bodyPost_ret (v := .tuple #[.string ⟨#[]⟩, .int .i64 7]) (by simp [results, Tryz.results7, go_sem]) rfl ⟨.inr ⟨rfl, hcl.out, d', O', hS2.out, hRm2.out, hE.out⟩, hFF⟩
      · have hRm2 := Lib.hid (HRM.out.step ho1 ho2 ho3 ho4 ho5)
        have hE2 : Hid (Ext O (putO O' x)) := fun a b hab => by
          have := hE.out a b hab
          unfold putO
          split
          · rename_i hax
            subst hax
            rcases hO with h | h
            · rw [h] at this; cases this
            · rw [h] at this; exact this
          · exact this
        have hd2 : Hid (∀ (j : Nat) (z : List Ent), j < k + 1 → o[j]? = some z → putO O' x (sumF (encTree z)) = some z) := fun j z hj hz => by
          rcases Nat.lt_or_ge j k with h5 | h5
          · have := hdone.out j z h5 hz
            unfold putO
            split
            · rename_i hax
              rw [hax] at this
              rcases hO with h | h
              · rw [h] at this; cases this
              · rw [h] at this; exact this
            · exact this
          · obtain rfl : j = k := by omega
            rw [HGX.out] at hz
            obtain rfl : x = z := by simpa using hz
            simp [putO]
        have hn2 : Hid (∀ id y, putO O' x id = some y → O id = some y ∨ y ∈ o) := fun id y hy => by
          unfold putO at hy
          split at hy
          · obtain rfl : x = y := by simpa using hy
            exact .inr HMEM.out
          · exact hnew.out id y hy
        have HS2 := Lib.hid hS2
        clear hS2 hO ho1 ho2 ho3 ho4 ho5 HP hS
        go_wp2_with fail
        exact ⟨⟨k + 1, d2, _, by simp, by omega, HS2.out, hRm2.out, hE2, hd2, hn2, hF.trans hF2 (by simp)⟩, by simp [intOf]; omega⟩
    · obtain rfl : k = o.length := by omega
      have b1 : decide (((o.length : Nat) : Int) < o.length) = false := by simp
      have hR2 := Lib.hid (hRm.le (show need ≤ costT (o.drop o.length) + need by omega))
      have HS := Lib.hid hS
      have hall : Hid (∀ x ∈ o, O' (sumF (encTree x)) = some x) := fun x hx => by
        obtain ⟨j, hj⟩ := List.getElem?_of_mem hx
        exact hdone.out j x (List.getElem?_eq_some_iff.1 hj).1 hj
      have hFF : Fr [p, mb] w wr := (hF1.weaken (by simp)).trans hF (by simp)
      clear hS hRm
      go_wp2_with fail
      refine bodyPost_ret (v := .tuple #[.string (mk (rootOf l)), .int .i64 0]) (by simp [results, Tryz.results7, go_sem]) rfl ⟨.inl ⟨rfl, d', O', HS.out, hR2.out, hE.out, hall.out⟩, hFF⟩
end Go.Proofs.YtjelehcnpocnoaaGreatDoor
/- Layer 13, trees: Read. -/
namespace Go.Proofs.YtjelehcnpocnoaaGreatDoor
set_option linter.unusedSimpArgs false
set_option linter.unusedVariables false
set_option linter.unnecessarySimpa false
open Go.RowKit
set_option maxRecDepth 100000
set_option maxHeartbeats 8000000

/-- A reader of trees in memory: X holds the store, R the reader itself, Y what was read. -/
structure RdrAt (base : Nat) (w : World) (S K p mb : Nat) (d : Dk) (O : Bs → Option (List Ent)) (X R Y : Nat) (vo : Value) (out : List Fl) : Prop where
  st : StoreAt w S K p mb d O
  cx : w.cell? ⟨X, 0, none⟩ = some (.pointer (some ⟨S, 0, none⟩))
  cr : w.cell? ⟨R, 0, none⟩ = some (.func (.func 24) #[] #[.pointer (some ⟨X, 0, none⟩), .pointer (some ⟨R, 0, none⟩), .pointer (some ⟨Y, 0, none⟩)])
  cy : w.cell? ⟨Y, 0, none⟩ = some vo
  fy : ∀ j, w.frozen? ⟨Y, j, none⟩ = false
  xrow : ∃ cs, w.heap[X]? = some (.cells cs 24 (0, 0))
  rrow : ∃ cs, w.heap[R]? = some (.cells cs 66 (0, 0))
  yrow : ∃ cs, w.heap[Y]? = some (.cells cs 31 (0, 0))
  own : w.ownsRow base 40 2 vo out.length (fvs out)
  b0 : 0 < base
  by_ : base ≤ Y
namespace RdrAt
variable {base : Nat} {w w' : World} {S K p mb : Nat} {d : Dk} {O : Bs → Option (List Ent)} {X R Y : Nat} {vo : Value} {out : List Fl}
/-- What the reader may turn holds files alone. -/
theorem off (h : RdrAt base w S K p mb d O X R Y vo out) (e : TypeId) (h1 : e ≠ 31) (h2 : e ≠ 40) : Off (Y :: vo.ownBlock.toList) w e := by
  intro x hx
  rcases List.mem_cons.1 hx with rfl | hx
  · obtain ⟨cs, hr⟩ := h.yrow
    rintro ⟨cs', fr, h'⟩
    rw [hr] at h'
    simp at h'
    exact h1 h'.2.1.symm
  · exact own_off h.own (Ne.symm h2) x hx
theorem not_row (h : RdrAt base w S K p mb d O X R Y vo out) {b : Nat} {e : TypeId} (h1 : e ≠ 31) (h2 : e ≠ 40) (hb : ∃ cs, w.heap[b]? = some (.cells cs e (0, 0))) : b ∉ Y :: vo.ownBlock.toList := fun hx => by
  obtain ⟨cs, hb⟩ := hb
  exact h.off e h1 h2 b hx ⟨cs, _, hb⟩
theorem not_map (h : RdrAt base w S K p mb d O X R Y vo out) {b : Nat} (hb : ∃ es c, w.heap[b]? = some (.map es c)) : b ∉ Y :: vo.ownBlock.toList := fun hx => by
  rcases List.mem_cons.1 hx with rfl | hx
  · obtain ⟨cs, hr⟩ := h.yrow
    obtain ⟨es, c, hb⟩ := hb
    rw [hr] at hb
    cases hb
  · exact own_no_map h.own (by simpa [eq_comm] using hx) hb
theorem zero (h : RdrAt base w S K p mb d O X R Y vo out) : 0 ∉ Y :: vo.ownBlock.toList := fun hx => by
  have h0 := h.b0
  rcases List.mem_cons.1 hx with hx | hx
  · have := h.by_; omega
  · have := own_block h.own 0 (by simpa [eq_comm] using hx)
    omega
theorem step (h : RdrAt base w S K p mb d O X R Y vo out) (hF : Fr (Y :: vo.ownBlock.toList) w w') {vo' : Value} {out' : List Fl} (hc : w'.cell? ⟨Y, 0, none⟩ = some vo') (hf : ∀ j, w'.frozen? ⟨Y, j, none⟩ = false) (hy : ∃ cs, w'.heap[Y]? = some (.cells cs 31 (0, 0))) (ho : w'.ownsRow base 40 2 vo' out'.length (fvs out')) :
    RdrAt base w' S K p mb d O X R Y vo' out' := by
  have n1 := h.not_row (by decide) (by decide) h.st.srow
  have n2 := h.not_row (by decide) (by decide) h.st.krow
  have n3 := h.not_row (by decide) (by decide) h.st.disk.row
  obtain ⟨f, hm, _⟩ := h.st.disk.map
  have n4 := h.not_map hm.row
  have n5 := h.not_row (by decide) (by decide) h.xrow
  have n6 := h.not_row (by decide) (by decide) h.rrow
  obtain ⟨c1, x1⟩ := h.xrow
  obtain ⟨c2, x2⟩ := h.rrow
  exact ⟨h.st.fr hF n1 n2 n3 n4 (h.off _ (by decide) (by decide)), hF.cell h.cx n5, hF.cell h.cr n6, hc, hf, ⟨c1, hF.block x1 n5⟩, ⟨c2, hF.block x2 n6⟩, hy, ho, h.b0, h.by_⟩
theorem lt (h : RdrAt base w S K p mb d O X R Y vo out) : Y < w.heap.size := by
  obtain ⟨cs, h⟩ := h.yrow
  exact (Array.getElem?_eq_some_iff.1 h).1
theorem fr0 (h : RdrAt base w S K p mb d O X R Y vo out) (hF : Fr [] w w') : RdrAt base w' S K p mb d O X R Y vo out := by
  obtain ⟨cs, hy⟩ := h.yrow
  exact h.step (hF.weaken (by simp)) (hF.cell h.cy (by simp)) (fun j => (World.frozen?_of_block (w := w) (a := ⟨Y, j, none⟩) (hF.blk Y h.lt (by simp))).trans (h.fy j)) ⟨cs, hF.block hy (by simp)⟩ (own_fr h.own hF (off_nil _ _))
/-- A file more. -/
theorem put (h : RdrAt base w S K p mb d O X R Y vo out) {f : Fl} {v' : Value} {W w2 : World} (hFW : Fr [] w W) (hg : W.grownBy w2 vo.ownBlock) (ho : w2.ownsRow base 40 2 v' (out.length + 1) (fvs out ++ fvs [f])) (hv : v'.ownBlock = vo.ownBlock ∨ v'.ownBlock = some W.heap.size) :
    RdrAt base (w2.setCell ⟨Y, 0, none⟩ v') S K p mb d O X R Y v' (out ++ [f]) ∧ Fr (Y :: vo.ownBlock.toList) w (w2.setCell ⟨Y, 0, none⟩ v') ∧ (∀ g, v'.ownBlock = some g → vo.ownBlock = some g ∨ w.heap.size ≤ g) ∧ w2.frozen? ⟨Y, 0, none⟩ = false ∧ w2.cell? ⟨Y, 0, none⟩ = some vo := by
  have hFa : Fr vo.ownBlock.toList w w2 := (hFW.weaken (by simp)).grown hg (fun k hk => .inl (by simp [hk]))
  have hFb : Fr (Y :: vo.ownBlock.toList) w (w2.setCell ⟨Y, 0, none⟩ v') := (hFa.weaken (fun x hx => .inl (List.mem_cons_of_mem _ hx))).setCell (.inl (by simp)) _
  have hYn : Y ∉ vo.ownBlock.toList := own_ne h.own h.yrow (by decide)
  have hcell := hFa.cell h.cy hYn
  have hfz : ∀ j, w2.frozen? ⟨Y, j, none⟩ = false := fun j => (World.frozen?_of_block (w := w) (a := ⟨Y, j, none⟩) (hFa.blk Y h.lt hYn)).trans (h.fy j)
  have hrow2 : ∃ cs, w2.heap[Y]? = some (.cells cs 31 (0, 0)) := by
    obtain ⟨cs, hr⟩ := h.yrow
    exact ⟨cs, hFa.block hr hYn⟩
  have hFr : Fr [Y] w2 (w2.setCell ⟨Y, 0, none⟩ v') := (Fr.refl _ _).setCell (.inl (by simp)) _
  have offY : Off [Y] w2 40 := fun k hk => by
    obtain rfl : k = Y := by simpa using hk
    rintro ⟨cs, fr, h'⟩
    obtain ⟨cs', hr⟩ := hrow2
    rw [hr] at h'
    simp at h'
  have ho2 := own_fr ho hFr offY
  refine ⟨h.step hFb (cell_set_same _ _ _ _ _ hcell) (fun j => by rw [World.frozen?_setCell]; exact hfz j) (row_set hrow2 0 _) (by simpa [fvs_app] using ho2), hFb, fun g hg' => ?_, hfz 0, hcell⟩
  rcases hv with e | e
  · exact .inl (by rw [← e]; exact hg')
  · rw [e] at hg'
    have := hFW.size
    right
    simp at hg'
    omega
end RdrAt
def ReadPostT (base S K p mb : Nat) (d : Dk) (O : Bs → Option (List Ent)) (X R Y : Nat) (vo : Value) (out : List Fl) (w : World) (e : Ending) (w' : World) : Prop :=
  e = .returned (.int .i64 0) ∧ ∃ vo', RdrAt base w' S K p mb d O X R Y vo' out ∧ Fr (Y :: vo.ownBlock.toList) w w' ∧ ∀ g, vo'.ownBlock = some g → vo.ownBlock = some g ∨ w.heap.size ≤ g
/-- What an entry adds. -/
def entFl (n : Nat) (d : Bs) (l : List Fl) (e : Ent) : List Fl := if e.dir then flatE n (d ++ e.name ++ [47]) (inDir l e.name) else [⟨d ++ e.name, e.id⟩]
theorem flatE_succ (n : Nat) (d : Bs) (l : List Fl) : flatE (n + 1) d l = (treeE (n + 1) l).flatMap (entFl n d l) := rfl
theorem ent_room (n : Nat) (d : Bs) (l : List Fl) (h : ∀ f ∈ l, f.path.length < n + 1) (k : Nat) (e : Ent) (he : (treeE (n + 1) l)[k]? = some e) : (((treeE (n + 1) l).take k).flatMap (entFl n d l)).length + (entFl n d l e).length ≤ l.length := by
  have h1 := flatE_len (n + 1) d l h
  rw [flatE_succ] at h1
  obtain ⟨hk, rfl⟩ := List.getElem?_eq_some_iff.1 he
  have h2 : treeE (n + 1) l = (treeE (n + 1) l).take k ++ (treeE (n + 1) l)[k] :: (treeE (n + 1) l).drop (k + 1) := by rw [← List.drop_eq_getElem_cons hk, List.take_append_drop]
  have h3 := congrArg (fun x => (x.flatMap (entFl n d l)).length) h2
  simp only [List.flatMap_append, List.flatMap_cons, List.length_append] at h3
  omega

theorem read1_calls (m : Int) (n : Nat) : ∀ (l : List Fl) (dir : Bs) (base S K p mb : Nat) (d : Dk) (O : Bs → Option (List Ent)) (X R Y : Nat) (vo : Value) (out : List Fl) (w : World), 0 < n → n ≤ 152 → Good l → NamedAt dir l → (∀ f ∈ l, f.path.length < n) → Held O n l → (dir ≠ [] → l ≠ []) → dir.length ≤ 200 → out.length + l.length ≤ 4096 →
    RdrAt base w S K p mb d O X R Y vo out → w.cell? ⟨0, 0, none⟩ = some (.int .i64 m) →
    Calls Tryz.prog 24 #[.string (mk dir), .string (mk (sumF (encTree (treeE n l)))), .pointer (some ⟨X, 0, none⟩), .pointer (some ⟨R, 0, none⟩), .pointer (some ⟨Y, 0, none⟩)] w (ReadPostT base S K p mb d O X R Y vo (out ++ flatE n dir l) w) := by
  induction n with
  | zero => intro l dir base S K p mb d O X R Y vo out w h0; omega
  | succ n ih =>
    intro l dir base S K p mb d O X R Y vo out w _ hn hgd hna hsh hheld hne hdl hroom hR hm
    have IH := Lib.hid ih
    clear ih
    have cx := hR.cx
    obtain ⟨es, hes⟩ : ∃ es, treeE (n + 1) l = es := ⟨_, rfl⟩
    have hO : O (sumF (encTree es)) = some es := by rw [← hes]; exact hheld.1
    have hel := treeE_len (n + 1) l
    have hll := hgd.len
    rw [hes] at hel
    have HO := Lib.hid (SObject_calls S K p mb d O (sumF (encTree es)) es w hR.st hO)
    rw [flatE_succ, hes]
    have HES := Lib.hid hes
    have HR := Lib.hid hR
    have HH := Lib.hid hheld
    have HG := Lib.hid hgd
    have HN := Lib.hid hna
    have HNE := Lib.hid hne
    have hcase : (dir == []) = true ∨ ((dir == []) = false ∧ ((es.length : Int) == 0) = false) := by
      by_cases hd : dir = []
      · exact .inl (by simp [hd])
      · have hne2 := treeE_ne (n := n) (hne hd)
        rw [hes] at hne2
        have : 0 < es.length := List.length_pos_iff.2 hne2
        exact .inr ⟨by simpa using hd, by rw [beq_eq_false_iff_ne]; omega⟩
    have HEN := Lib.hid (fun (k : Nat) (e : Ent) (he : es[k]? = some e) => (show namedOk (dir ++ e.name) = true ∧ ((es.take k).flatMap (entFl n dir l)).length + (entFl n dir l e).length ≤ l.length ∧ (e.dir = true → e.name ∈ names l ∧ e.id = sumF (encTree (treeE n (inDir l e.name))) ∧ inDir l e.name ≠ []) from by
      have hm := List.mem_of_getElem? he
      rw [← hes] at hm he
      have h2 := ent_room n dir l hsh k e he
      rw [hes] at h2
      exact ⟨named_ent hna hm, h2, tree_ent hm⟩))
    obtain ⟨root, hroot⟩ : ∃ root, sumF (encTree es) = root := ⟨_, rfl⟩
    rw [hroot] at HO ⊢
    have hz := mk_size dir
    have q1 := mk_toList dir
    have q2 : (⟨#[]⟩ : ByteArray).toList = [] := mk_toList []
    clear hO hes hR hheld hgd hna hne hroot
    rcases hcase with hneq | ⟨hneq, b0⟩
    all_goals
      go_enter Tryz.func24, Tryz.ntmps24
      go_wp2_with fail
      refine HO.out.mono ?_
      rintro e w1 ⟨ve, rfl, hve, hF1⟩
      clear HO
      obtain ⟨ea, ec, rfl, h5, h6⟩ := (Sl.of_own hve).shape
      have HVE := Lib.hid hve
      unfold objV
      have hFA := hF1.alloc (.cells #[.int .i64 2, .slice none 0 0, .slice ea es.length ec, .string ⟨#[]⟩, .slice none 0 0, .string ⟨#[]⟩, .string ⟨#[]⟩, .string ⟨#[]⟩, .int .i64 0, .string ⟨#[]⟩] 64)
      have hFB : Fr [] w1 (w1.alloc (.cells #[.int .i64 2, .slice none 0 0, .slice ea es.length ec, .string ⟨#[]⟩, .slice none 0 0, .string ⟨#[]⟩, .string ⟨#[]⟩, .string ⟨#[]⟩, .int .i64 0, .string ⟨#[]⟩] 64)) := (Fr.refl _ _).alloc _
      have a2 := World.cell?_alloc_new w1 #[.int .i64 2, .slice none 0 0, .slice ea es.length ec, .string ⟨#[]⟩, .slice none 0 0, .string ⟨#[]⟩, .string ⟨#[]⟩, .string ⟨#[]⟩, .int .i64 0, .string ⟨#[]⟩] 64 2
      clear hve cx
      go_wp2_with fail
      generalize w1.alloc (.cells #[.int .i64 2, .slice none 0 0, .slice ea es.length ec, .string ⟨#[]⟩, .slice none 0 0, .string ⟨#[]⟩, .string ⟨#[]⟩, .string ⟨#[]⟩, .int .i64 0, .string ⟨#[]⟩] 64) = WA at *
      go_loopw [34] (fun i wr => ∃ (k : Nat) (vo2 : Value), i = .int .i64 k ∧ k ≤ es.length ∧ RdrAt base wr S K p mb d O X R Y vo2 (out ++ (es.take k).flatMap (entFl n dir l)) ∧ Fr (Y :: vo.ownBlock.toList) w wr ∧ Hid (∀ g, vo2.ownBlock = some g → vo.ownBlock = some g ∨ w.heap.size ≤ g) ∧ Hid (Es wr (.slice ea es.length ec) es)) (fun i _ => es.length - (intOf i).toNat)
      case atStart => exact ⟨0, vo, rfl, by omega, by simpa using HR.out.fr0 hFA, hFA.weaken (by simp), fun g h => .inl h, (Sl.of_own HVE.out).fr0 hFB⟩
      case round =>
        obtain ⟨k, vo2, rfl, hk, hRd, hF, hvo2, hEs⟩ := hrel
        clear hFA hFB a2 HVE
        have hszF := hF.size
        by_cases hlt : k < es.length
        · have b1 : decide ((k : Int) < es.length) = true := by simp; omega
          have i1 : (k : Int) < es.length := by omega
          have e1 : IntKind.i64.wrap ((k : Int) + 1) = (k : Int) + 1 := by rw [IntKind.wrap_i64]; omega
          have hge := List.getElem?_eq_getElem hlt
          have htk : es.take (k + 1) = es.take k ++ [es[k]] := by rw [List.take_add_one, hge]; rfl
          generalize es[k] = x at *
          obtain ⟨hnk, hrm, hdirk⟩ := HEN.out k x hge
          obtain ⟨_, _, hve, _, _, hcl⟩ := Es.open3 hEs.out
          obtain ⟨rfl, rfl⟩ : ea = _ ∧ ec = _ := by simpa using hve
          obtain ⟨gb, go, rfl, hcell⟩ := hcl (by omega)
          obtain ⟨x0, x1, x2⟩ := hcell k x hge
          obtain ⟨nm, dr, idn⟩ := x
          simp only at x0 x1 x2 hnk hdirk
          have hFe : Fr [] wr (wr.alloc (.cells #[.string (mk nm), .bool dr, .string (mk idn)] 70)) := (Fr.refl _ _).alloc _
          have n0 := World.cell?_alloc_new wr #[.string (mk nm), .bool dr, .string (mk idn)] 70 0
          have n1 := World.cell?_alloc_new wr #[.string (mk nm), .bool dr, .string (mk idn)] 70 1
          have n2 := World.cell?_alloc_new wr #[.string (mk nm), .bool dr, .string (mk idn)] 70 2
          generalize hWE : wr.alloc (.cells #[.string (mk nm), .bool dr, .string (mk idn)] 70) = WE at *
          have hpl : (dir ++ nm).length ≤ 150 := ((namedOk_iff _).1 hnk).2.2
          have hpl2 : dir.length + nm.length ≤ 150 := by simpa using hpl
          have hzn := mk_size nm
          have hzp := mk_size (dir ++ nm)
          have happ := mk_app dir nm
          have happ2 : mk (dir ++ nm) ++ ⟨#[47]⟩ = mk (dir ++ nm ++ [47]) := mk_app (dir ++ nm) [47]
          have hml := hF.cell hm HR.out.zero
          have HNM := Lib.hid (Named_calls (dir ++ nm) m WE (by omega) (hFe.cell hml (by simp)))
          rw [hnk] at HNM
          have hRE := hRd.fr0 hFe
          have HRD := Lib.hid hRd
          have HTK := Lib.hid htk
          have HDK := Lib.hid hdirk
          have cy := hRE.cy
          have cr := hRE.cr
          have hEsE := Lib.hid (Sl.fr0 hEs.out hFe)
          have hszE := hFe.size
          clear htk hge hcell hcl hve hdirk hRd hnk hpl hml
          obtain ⟨out2, ho2⟩ : ∃ out2, out ++ (es.take k).flatMap (entFl n dir l) = out2 := ⟨_, rfl⟩
          have hol : out2.length ≤ out.length + ((es.take k).flatMap (entFl n dir l)).length := by rw [← ho2, List.length_append]; exact Nat.le_refl _
          rw [ho2] at HRD hRE
          have HO2 := Lib.hid ho2
          obtain ⟨va, vc, rfl, _, _⟩ := (Sl.of_own hRE.own).shape
          clear ho2
          cases dr with
          | false =>
            have hone : entFl n dir l ⟨nm, false, idn⟩ = [⟨dir ++ nm, idn⟩] := rfl
            rw [hone, List.length_singleton] at hrm
            have b4 : ((out2.length : Int) == 4096) = false := by rw [beq_eq_false_iff_ne]; omega
            have HONE := Lib.hid hone
            have HRE := Lib.hid hRE
            clear hone hRE
            go_wp2_with fail
            refine HNM.out.mono ?_
            rintro e w2 ⟨rfl, hF2⟩
            have m1 := hF2.cell n1 (by simp)
            have m2 := hF2.cell n2 (by simp)
            have my := hF2.cell cy (by simp)
            have HR2 := Lib.hid (HRE.out.fr0 hF2)
            have HOW := Lib.hid (own_fr HR2.out.own ((Fr.refl [] w2).alloc (.cells #[.string (mk (dir ++ nm)), .string (mk idn)] 40)) (off_nil _ _))
            have hbY := HR2.out.by_
            have hYl := HR2.out.lt
            clear n0 n1 n2 cy cr hWE
            go_wp2_with (at_builtin; refine wpl_app base rfl _ _ 31 40 _ 2 32 rfl u_filesT i_file rfl (by decide) _ _ _ rfl HOW.out 1 (fvs [⟨dir ++ nm, idn⟩]) (Sl.lit (w := w2) #[.string (mk (dir ++ nm)), .string (mk idn)] 1 rfl (by decide)) (fv_one _) (by omega) (by omega) (by simp only [World.size_alloc]; omega) ?_)
            intro v3 w3 ho3 hg3 hat3
            obtain ⟨hR4, hF4, hv4, hfz, hcy⟩ := HR2.out.put (f := ⟨dir ++ nm, idn⟩) ((Fr.refl [] w2).alloc (.cells #[.string (mk (dir ++ nm)), .string (mk idn)] 40)) hg3 ho3 (by rw [World.size_alloc]; exact hat3)
            have HR4 := Lib.hid hR4
            have HEs4 := Lib.hid ((hEsE.out.fr0 hF2).fr hF4 (HR2.out.off _ (by decide) (by decide)))
            have HV4 := Lib.hid hv4
            have hszw := hF2.size
            obtain ⟨va3, vc3, rfl, _, _⟩ := (Sl.of_own ho3).shape
            clear hR4 hv4 ho3 hg3 hat3
            go_wp2_with fail
            refine ⟨⟨k + 1, .slice va3 (out2.length + 1) vc3, by simp, by omega, ?_, (hF.trans0 (hFe.trans0 hF2)).trans hF4 (fun x hx => ?_), fun g hg => ?_, HEs4.out⟩, by simp [intOf]; omega⟩
            · rw [HTK.out, List.flatMap_append, ← List.append_assoc, HO2.out, List.flatMap_cons, List.flatMap_nil, List.append_nil, HONE.out]
              exact HR4.out
            · rcases List.mem_cons.1 hx with rfl | hx
              · exact .inl (by simp)
              · rcases hvo2.out x (by simpa [eq_comm] using hx) with h | h
                · exact .inl (by simp [h])
                · exact .inr h
            · rcases HV4.out g hg with h | h
              · exact hvo2.out g h
              · exact .inr (by omega)
          | true =>
            obtain ⟨hnm, hid, hine⟩ := HDK.out rfl
            have hone : entFl n dir l ⟨nm, true, idn⟩ = flatE n (dir ++ nm ++ [47]) (inDir l nm) := rfl
            have hfl := flatE_len n (dir ++ nm ++ [47]) (inDir l nm) (in_short hsh)
            rw [hone, hfl] at hrm
            obtain ⟨fl, hfm⟩ := List.exists_mem_of_ne_nil _ hine
            have hn0 : 0 < n := by
              have h1 := path_pos (HG.out.sub nm) hfm
              have h2 := in_short hsh fl hfm
              omega
            have hC := fun W (hW : Fr [] wr W) => IH.out (inDir l nm) (dir ++ nm ++ [47]) base S K p mb d O X R Y (.slice va out2.length vc) out2 W hn0 (by omega) (HG.out.sub nm) (named_in HN.out nm) (in_short hsh) (HH.out.2 nm hnm) (fun _ => hine) (by simp; omega) (by omega) (HRD.out.fr0 hW) (hW.cell (hF.cell hm HR.out.zero) (by simp))
            rw [← hid] at hC
            have HC := Lib.hid hC
            have HONE := Lib.hid hone
            have HRE := Lib.hid hRE
            clear hone hRE hC hid hine hfl hfm hnm
            go_wp2_with fail
            refine HNM.out.mono ?_
            rintro e w2 ⟨rfl, hF2⟩
            have m1 := hF2.cell n1 (by simp)
            have m2 := hF2.cell n2 (by simp)
            have mr := hF2.cell cr (by simp)
            have HR2 := Lib.hid (HRE.out.fr0 hF2)
            clear n0 n1 n2 cy cr hWE
            go_wp2_with fail
            rw [show dir ++ (nm ++ [47]) = dir ++ nm ++ [47] from (List.append_assoc _ _ _).symm]
            refine (HC.out _ (hFe.trans0 hF2)).mono ?_
            rintro e w4 ⟨rfl, vo4, hR4, hF4, hv4⟩
            have HR4 := Lib.hid hR4
            have HEs4 := Lib.hid ((hEsE.out.fr0 hF2).fr hF4 (HR2.out.off _ (by decide) (by decide)))
            have HV4 := Lib.hid hv4
            have hszw := hF2.size
            clear hR4 hv4 HC
            go_wp2_with fail
            refine ⟨⟨k + 1, vo4, by simp, by omega, ?_, (hF.trans0 (hFe.trans0 hF2)).trans hF4 (fun x hx => ?_), fun g hg => ?_, HEs4.out⟩, by simp [intOf]; omega⟩
            · rw [HTK.out, List.flatMap_append, ← List.append_assoc, HO2.out, List.flatMap_cons, List.flatMap_nil, List.append_nil, HONE.out]
              exact HR4.out
            · rcases List.mem_cons.1 hx with rfl | hx
              · exact .inl (by simp)
              · rcases hvo2.out x (by simpa [eq_comm] using hx) with h | h
                · exact .inl (by simp [h])
                · exact .inr h
            · rcases HV4.out g hg with h | h
              · exact hvo2.out g h
              · exact .inr (by omega)
        · obtain rfl : k = es.length := by omega
          have b1 : decide (((es.length : Nat) : Int) < es.length) = false := by simp
          rw [List.take_length] at hRd
          have HRD := Lib.hid hRd
          clear hRd
          go_wp2_with fail
          go_ret
          exact ⟨rfl, vo2, HRD.out, hF, hvo2.out⟩
/-- What was written is read as it was. -/
theorem TRead_calls (m : Int) (S K p mb : Nat) (d : Dk) (O : Bs → Option (List Ent)) (l : List Fl) (w : World) (h : StoreAt w S K p mb d O) (hok : checkOk l) (hO : ∀ x ∈ treesOf l, O (sumF (encTree x)) = some x) (hm : w.cell? ⟨0, 0, none⟩ = some (.int .i64 m)) :
    Calls Tryz.prog 9 #[.pointer (some ⟨S, 0, none⟩), .string (mk (rootOf l))] w fun e w' => ∃ v, e = .returned (.tuple #[v, .int .i64 0]) ∧ Fs w' 40 v l ∧ Fr [] w w' := by
  have hgd := check_good hok
  have hsh := check_short hok
  have hheld := held_of (O := O) 152 l [] hO
  have hw0 : 0 < w.heap.size := Nat.lt_of_le_of_lt (Nat.zero_le _) (World.block_lt_of_cell? w _ hm)
  have hl := hok.2
  have hsf := fun (W : World) (a : Addr) (m : Mode) (fn : Fn) (fi ca : Array Value) => run_store Tryz.prog W a (.func fn fi ca) m rfl
  go_enter Tryz.func9, Tryz.ntmps9
  go_wp2_with fail
  obtain ⟨clo, hclo⟩ : ∃ clo, Value.func (.func 24) #[] #[.pointer (some ⟨w.heap.size, 0, none⟩), .pointer (some ⟨w.heap.size + 1 + 1, 0, none⟩), .pointer (some ⟨w.heap.size + 1, 0, none⟩)] = clo := ⟨_, rfl⟩
  rw [hclo]
  obtain ⟨WA, hWA⟩ : ∃ WA, ((w.alloc (.cells #[.pointer (some ⟨S, 0, none⟩)] 24)).alloc (.cells #[.slice none 0 0] 31)).alloc (.cells #[clo] 66) = WA := ⟨_, rfl⟩
  rw [hWA]
  have hFA : Fr [] w WA := by rw [← hWA]; exact (((Fr.refl _ _).alloc _).alloc _).alloc _
  have hRA : RdrAt w.heap.size WA S K p mb d O w.heap.size (w.heap.size + 1 + 1) (w.heap.size + 1) (.slice none 0 0) [] := by
    have hs1 : (w.alloc (.cells #[.pointer (some ⟨S, 0, none⟩)] 24)).heap.size = w.heap.size + 1 := by simp
    have hs2 : ((w.alloc (.cells #[.pointer (some ⟨S, 0, none⟩)] 24)).alloc (.cells #[.slice none 0 0] 31)).heap.size = w.heap.size + 1 + 1 := by simp
    have x0 := World.cell?_alloc_new w #[.pointer (some ⟨S, 0, none⟩)] 24 0
    have xr := heap_alloc_new w (.cells #[.pointer (some ⟨S, 0, none⟩)] 24)
    generalize w.alloc (.cells #[.pointer (some ⟨S, 0, none⟩)] 24) = W1 at *
    have y0 := World.cell?_alloc_new W1 #[.slice none 0 0] 31 0
    have yr := heap_alloc_new W1 (.cells #[.slice none 0 0] 31)
    have yf := fun j => frozen_new W1 #[.slice none 0 0] 31 j
    have hF12 : Fr [] W1 (W1.alloc (.cells #[.slice none 0 0] 31)) := (Fr.refl _ _).alloc _
    generalize W1.alloc (.cells #[.slice none 0 0] 31) = W2 at *
    have r0 := World.cell?_alloc_new W2 #[clo] 66 0
    have rr := heap_alloc_new W2 (.cells #[clo] 66)
    have hF23 : Fr [] W2 (W2.alloc (.cells #[clo] 66)) := (Fr.refl _ _).alloc _
    rw [hWA] at r0 rr hF23
    rw [hs2] at r0 rr
    rw [hs1] at y0 yr
    refine ⟨h.fr0 hFA, hF23.cell (hF12.cell x0 (by simp)) (by simp), by rw [hclo]; exact r0, hF23.cell y0 (by simp), fun j => ?_, ⟨_, hF23.block (hF12.block xr (by simp)) (by simp)⟩, ⟨_, rr⟩, ⟨_, hF23.block yr (by simp)⟩, ⟨rfl, .inl ⟨rfl, rfl⟩⟩, hw0, by omega⟩
    have hyl : w.heap.size + 1 < W2.heap.size := by omega
    have := yf j
    rw [hs1] at this
    exact (World.frozen?_of_block (w := W2) (a := ⟨w.heap.size + 1, j, none⟩) (hF23.blk _ hyl (by simp))).trans this
  have HC := Lib.hid (read1_calls m 152 l [] w.heap.size S K p mb d O w.heap.size (w.heap.size + 1 + 1) (w.heap.size + 1) (.slice none 0 0) [] WA (by omega) (by omega) hgd (check_named hok) hsh hheld (fun h => absurd rfl h) (by simp) (by simp; omega) hRA (hFA.cell hm (by simp)))
  have hfl := flatE_len 152 [] l hsh
  have HP := Lib.hid (flat_perm 152 [] l hsh)
  have HOK := Lib.hid hok
  clear hsf hRA hclo hWA hgd hok hO hheld hsh
  refine HC.out.mono ?_
  rintro e w2 ⟨rfl, vo2, hR2, hF2, hv2⟩
  rw [List.nil_append] at hR2
  have cy := hR2.cy
  have hYn : w.heap.size + 1 ∉ vo2.ownBlock.toList := own_ne hR2.own hR2.yrow (by decide)
  have HS := Lib.hid (sortFls vo2 (flatE 152 [] l) w.heap.size w2 hR2.own (by omega))
  have hob := Lib.hid (own_block hR2.own)
  obtain ⟨va, vc, rfl, _, _⟩ := (Sl.of_own hR2.own).shape
  have HR2 := Lib.hid hR2
  have HFL := Lib.hid hfl
  clear hR2 hfl HC
  go_wp2_with fail
  refine HS.out.mono ?_
  rintro e w3 ⟨rfl, l', hpm, hso, hown, hF3⟩
  have cy3 := hF3.cell cy hYn
  have hl' : l' = l := sort_files (check_rise HOK.out) (hpm.trans (by have := HP.out; rwa [pre_nil] at this)) hso
  have HL := Lib.hid hl'
  have HOWN := Lib.hid hown
  clear hpm hso hown hl' cy HS
  go_wp2_with fail
  have hFF : Fr [] w w3 := (hFA.trans hF2 (fun x hx => by
    right
    rcases List.mem_cons.1 hx with rfl | hx
    · omega
    · simp [Value.ownBlock] at hx)).trans hF3 (fun x hx => .inr (hob.out x (by simpa [eq_comm] using hx)))
  refine bodyPost_ret (v := .tuple #[.slice va (flatE 152 [] l).length vc, .int .i64 0]) (by simp [results, Tryz.results9, go_sem]) rfl ⟨_, rfl, ?_, hFF⟩
  have := Sl.of_own HOWN.out
  rw [HL.out] at this
  exact this
end Go.Proofs.YtjelehcnpocnoaaGreatDoor
