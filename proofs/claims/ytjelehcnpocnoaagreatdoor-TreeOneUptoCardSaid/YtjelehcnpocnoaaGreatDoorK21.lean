/- Joined: Store Store2. -/
import Derived.Test.YtjelehcnpocnoaaGreatDoorK18
import Derived.Test.YtjelehcnpocnoaaGreatDoorK20
/- Layer 10, the store of a disk without packs. -/
namespace Go.Proofs.YtjelehcnpocnoaaGreatDoor
set_option linter.unusedSimpArgs false
set_option linter.unusedVariables false
set_option linter.unnecessarySimpa false
open Go.RowKit
set_option maxRecDepth 100000
set_option maxHeartbeats 4000000

structure StoreAt (w : World) (S K p mb : Nat) (d : Dk) (O : Bs → Option (List Ent)) : Prop where
  c0 : w.cell? ⟨S, 0, none⟩ = some (.pointer (some ⟨p, 0, none⟩))
  c1 : w.cell? ⟨S, 1, none⟩ = some (.pointer (some ⟨K, 0, none⟩))
  ck : w.cell? ⟨K, 1, none⟩ = some (.slice none 0 0)
  srow : ∃ cs, w.heap[S]? = some (.cells cs 94 (0, 0))
  krow : ∃ cs, w.heap[K]? = some (.cells cs 143 (0, 0))
  disk : DiskAt w p mb d
  objs : Objs d O
theorem StoreAt.fr {F : List Nat} {w w' : World} {S K p mb : Nat} {d : Dk} {O : Bs → Option (List Ent)} (h : StoreAt w S K p mb d O) (hF : Fr F w w') (h1 : S ∉ F) (h2 : K ∉ F) (h3 : p ∉ F) (h4 : mb ∉ F) (h5 : Off F w 5) : StoreAt w' S K p mb d O := by
  obtain ⟨cs, hs⟩ := h.srow
  obtain ⟨cs', hk⟩ := h.krow
  exact ⟨hF.cell h.c0 h1, hF.cell h.c1 h1, hF.cell h.ck h2, ⟨cs, hF.block hs h1⟩, ⟨cs', hF.block hk h2⟩, h.disk.fr hF h3 h4 h5, h.objs⟩
theorem StoreAt.fr0 {w w' : World} {S K p mb : Nat} {d : Dk} {O : Bs → Option (List Ent)} (h : StoreAt w S K p mb d O) (hF : Fr [] w w') : StoreAt w' S K p mb d O := h.fr hF (by simp) (by simp) (by simp) (by simp) (off_nil _ _)
theorem StoreAt.apart {w : World} {S K p mb : Nat} {d : Dk} {O : Bs → Option (List Ent)} (h : StoreAt w S K p mb d O) : S ∉ [p, mb] ∧ K ∉ [p, mb] := by
  have h1 := h.disk.off_ 94 (by decide)
  have h2 := h.disk.off_ 143 (by decide)
  obtain ⟨cs, hs⟩ := h.srow
  obtain ⟨cs', hk⟩ := h.krow
  exact ⟨fun hx => h1 S hx ⟨cs, _, hs⟩, fun hx => h2 K hx ⟨cs', _, hk⟩⟩
theorem StoreAt.step {w w' : World} {S K p mb : Nat} {d d' : Dk} {O O' : Bs → Option (List Ent)} (h : StoreAt w S K p mb d O) (hF : Fr [p, mb] w w') (hd : DiskAt w' p mb d') (hO : Objs d' O') : StoreAt w' S K p mb d' O' := by
  obtain ⟨h1, h2⟩ := h.apart
  obtain ⟨cs, hs⟩ := h.srow
  obtain ⟨cs', hk⟩ := h.krow
  exact ⟨hF.cell h.c0 h1, hF.cell h.c1 h1, hF.cell h.ck h2, ⟨cs, hF.block hs h1⟩, ⟨cs', hF.block hk h2⟩, hd, hO⟩

theorem smade_calls (S K p mb : Nat) (d : Dk) (O : Bs → Option (List Ent)) (w : World) (h : StoreAt w S K p mb d O) :
    Calls Tryz.prog 44 #[.pointer (some ⟨S, 0, none⟩)] w fun e w' => e = .returned (.bool true) ∧ w' = w := by
  have c0 := h.c0
  go_enter Tryz.func44, Tryz.ntmps44
  go_wp2_with fail
  go_ret
  exact ⟨rfl, rfl⟩
theorem SGet_calls (S K p mb : Nat) (d : Dk) (O : Bs → Option (List Ent)) (id : Bs) (w : World) (h : StoreAt w S K p mb d O) (hl : id.length = 32) :
    Calls Tryz.prog 46 #[.pointer (some ⟨S, 0, none⟩), .string (mk id)] w fun e w' => Fr [] w w' ∧ (match O id with
      | none => e = .returned (.tuple #[.slice none 0 0, .int .i64 6])
      | some l => ∃ v, e = .returned (.tuple #[v, .int .i64 0]) ∧ w'.ownsRow w.heap.size 5 1 v (encTree l).length ((encTree l).map bv)) := by
  have c0 := h.c0
  have c1 := h.c1
  have HG := Lib.hid (LGet_calls p mb d O id w h.disk h.objs hl)
  cases hO : O id with
  | none =>
    simp only [hO] at HG
    clear hO
    go_enter Tryz.func46, Tryz.ntmps46
    go_wp2_with fail
    refine (smade_calls S K p mb d O w h).mono ?_
    rintro e w1 ⟨rfl, rfl⟩
    go_wp2_with fail
    refine HG.out.mono ?_
    rintro e w2 ⟨hF, rfl⟩
    clear HG
    have h2 := h.fr0 hF
    have d1 := h2.c1
    have dk := h2.ck
    go_wp2_with fail
    go_loopw [34] (fun i wr => i = .int .i64 0 ∧ wr = w2) (fun i _ => 0)
    case atStart => exact ⟨rfl, rfl⟩
    case round =>
      obtain ⟨rfl, rfl⟩ := hrel
      go_wp2_with fail
      refine bodyPost_ret (v := .tuple #[.slice none 0 0, .int .i64 6]) (by simp [results, Tryz.results46, go_sem]) rfl ⟨hF, rfl⟩
  | some l =>
    simp only [hO] at HG
    clear hO
    go_enter Tryz.func46, Tryz.ntmps46
    go_wp2_with fail
    refine (smade_calls S K p mb d O w h).mono ?_
    rintro e w1 ⟨rfl, rfl⟩
    go_wp2_with fail
    refine HG.out.mono ?_
    rintro e w2 ⟨hF, v, rfl, ho⟩
    clear HG
    go_wp2_with fail
    refine bodyPost_ret (v := .tuple #[v, .int .i64 0]) (by simp [results, Tryz.results46, go_sem]) rfl ⟨hF, v, rfl, ho⟩
theorem sread_calls (p mb : Nat) (d : Dk) (w : World) (hd : DiskAt w p mb d) (hf : ∀ s, d.files s = none) (hp : d.puts ≤ 1048576) :
    Calls Tryz.prog 32 #[.pointer (some ⟨p, 0, none⟩)] w fun e w' => ∃ K, e = .returned (.tuple #[.pointer (some ⟨K, 0, none⟩), .int .i64 0]) ∧ w.heap.size ≤ K ∧ w'.cell? ⟨K, 1, none⟩ = some (.slice none 0 0) ∧ (∃ cs, w'.heap[K]? = some (.cells cs 143 (0, 0))) ∧ Fr [] w w' := by
  have HN := Lib.hid (fun W (hW : Fr [] w W) => Names_calls p mb d W (hd.fr0 hW) hp)
  have hFA : Fr [] w (w.alloc (.cells #[.slice none 0 0, .slice none 0 0, .int .u32 0, .int .i32 0, .int .u32 0, .slice none 0 0] 143)) := (Fr.refl _ _).alloc _
  have k1 := World.cell?_alloc_new w #[.slice none 0 0, .slice none 0 0, .int .u32 0, .int .i32 0, .int .u32 0, .slice none 0 0] 143 1
  have kr := heap_alloc_new w (.cells #[.slice none 0 0, .slice none 0 0, .int .u32 0, .int .i32 0, .int .u32 0, .slice none 0 0] 143)
  go_enter Tryz.func32, Tryz.ntmps32
  go_wp2_with fail
  refine (HN.out _ hFA).mono ?_
  rintro e w2 ⟨v, ss, rfl, ho, _, _, hmem, hF⟩
  have hss : ss = [] := by
    cases ss with
    | nil => rfl
    | cons x l => exact absurd ((hmem x).1 (by simp)) (by rw [hf]; simp)
  subst hss
  obtain ⟨a, c, rfl, _⟩ := (Sl.of_own ho).shape
  clear HN hmem
  go_wp2_with fail
  go_loopw [16] (fun i wr => i = .int .i64 0 ∧ wr = w2) (fun i _ => 0)
  case atStart => exact ⟨rfl, rfl⟩
  case round =>
    obtain ⟨rfl, rfl⟩ := hrel
    go_wp2_with fail
    refine bodyPost_ret (v := .tuple #[.pointer (some ⟨w.heap.size, 0, none⟩), .int .i64 0]) (by simp [results, Tryz.results32, go_sem]) rfl ⟨_, rfl, Nat.le_refl _, hF.cell k1 (by simp), ⟨_, hF.block kr (by simp)⟩, hFA.trans0 hF⟩
theorem SOpen_calls (p mb : Nat) (d : Dk) (w : World) (hd : DiskAt w p mb d) (hf : ∀ s, d.files s = none) (hp : d.puts ≤ 1048576) :
    Calls Tryz.prog 15 #[.pointer (some ⟨p, 0, none⟩)] w fun e w' => ∃ S K, e = .returned (.tuple #[.pointer (some ⟨S, 0, none⟩), .int .i64 0]) ∧ StoreAt w' S K p mb d (fun _ => none) ∧ Fr [] w w' := by
  have HR := Lib.hid (Read_calls p mb d [112, 47] w hd (by decide))
  have hn : nameOk [112, 47] = true := by decide
  have HN := Lib.hid hn
  clear hn
  have HS := Lib.hid (fun W (hW : Fr [] w W) => sread_calls p mb d W (hd.fr0 hW) hf hp)
  go_enter Tryz.func15, Tryz.ntmps15
  go_wp2_with fail
  refine HR.out.mono ?_
  rintro e w1 ⟨v, er, rfl, hF1, _, hr⟩
  have hr2 := hr HN.out
  rw [hf] at hr2
  obtain ⟨rfl, rfl⟩ := hr2
  clear hr HR
  go_wp2_with fail
  refine (HS.out w1 hF1).mono ?_
  rintro e w2 ⟨K, rfl, hK, hk1, ⟨cs, hkr⟩, hF2⟩
  clear HS
  go_wp2_with fail
  have hFF : Fr [] w2 (w2.alloc (.cells #[.pointer (some ⟨p, 0, none⟩), .pointer (some ⟨K, 0, none⟩)] 94)) := (Fr.refl _ _).alloc _
  have hw := (hF1.trans0 hF2).trans0 hFF
  refine bodyPost_ret (v := .tuple #[.pointer (some ⟨w2.heap.size, 0, none⟩), .int .i64 0]) (by simp [results, Tryz.results15, go_sem]) rfl ⟨w2.heap.size, K, rfl, ⟨World.cell?_alloc_new w2 #[_, _] _ 0, World.cell?_alloc_new w2 #[_, _] _ 1, hFF.cell hk1 (by simp), ⟨_, heap_alloc_new w2 _⟩, ⟨cs, hFF.block hkr (by simp)⟩, hd.fr0 hw, ⟨fun s hs => absurd (hf s) hs, fun id l h => by cases h⟩⟩, hw⟩
theorem SObject_calls (S K p mb : Nat) (d : Dk) (O : Bs → Option (List Ent)) (id : Bs) (l : List Ent) (w : World) (h : StoreAt w S K p mb d O) (hO : O id = some l) :
    Calls Tryz.prog 25 #[.pointer (some ⟨S, 0, none⟩), .string (mk id), .int .i64 2] w fun e w' => ∃ ve, e = .returned (.tuple #[objV ve, .int .i64 0]) ∧ w'.ownsRow w.heap.size 70 3 ve l.length (evs l) ∧ Fr [] w w' := by
  have hok := (h.objs.has id l hO).1
  have HG := Lib.hid (fun W (hW : Fr [] w W) => SGet_calls S K p mb d O id W (h.fr0 hW) (h.objs.len hO))
  simp only [hO] at HG
  have HD := Lib.hid (fun (W : World) (v : Value) (hv : Sl W 5 1 v (encTree l).length ((encTree l).map bv)) => Decode_calls v l W hv hok)
  have n1 : ∀ o, (w.alloc (.cells #[.int .i64 0, .slice none 0 0, .slice none 0 0, .string ⟨#[]⟩, .slice none 0 0, .string ⟨#[]⟩, .string ⟨#[]⟩, .string ⟨#[]⟩, .int .i64 0, .string ⟨#[]⟩] 64)).cell? ⟨w.heap.size, o, none⟩ = #[Value.int .i64 0, .slice none 0 0, .slice none 0 0, .string ⟨#[]⟩, .slice none 0 0, .string ⟨#[]⟩, .string ⟨#[]⟩, .string ⟨#[]⟩, .int .i64 0, .string ⟨#[]⟩][o]? := fun o => World.cell?_alloc_new w _ _ o
  have f1 : ∀ o, (w.alloc (.cells #[.int .i64 0, .slice none 0 0, .slice none 0 0, .string ⟨#[]⟩, .slice none 0 0, .string ⟨#[]⟩, .string ⟨#[]⟩, .string ⟨#[]⟩, .int .i64 0, .string ⟨#[]⟩] 64)).frozen? ⟨w.heap.size, o, none⟩ = false := fun o => frozen_new w _ _ o
  have r1 := heap_alloc_new w (.cells #[.int .i64 0, .slice none 0 0, .slice none 0 0, .string ⟨#[]⟩, .slice none 0 0, .string ⟨#[]⟩, .string ⟨#[]⟩, .string ⟨#[]⟩, .int .i64 0, .string ⟨#[]⟩] 64)
  have hFA : Fr [] w (w.alloc (.cells #[.int .i64 0, .slice none 0 0, .slice none 0 0, .string ⟨#[]⟩, .slice none 0 0, .string ⟨#[]⟩, .string ⟨#[]⟩, .string ⟨#[]⟩, .int .i64 0, .string ⟨#[]⟩] 64)) := (Fr.refl _ _).alloc _
  have hsA : (w.alloc (.cells #[.int .i64 0, .slice none 0 0, .slice none 0 0, .string ⟨#[]⟩, .slice none 0 0, .string ⟨#[]⟩, .string ⟨#[]⟩, .string ⟨#[]⟩, .int .i64 0, .string ⟨#[]⟩] 64)).heap.size = w.heap.size + 1 := by simp
  generalize hWA : w.alloc (.cells #[.int .i64 0, .slice none 0 0, .slice none 0 0, .string ⟨#[]⟩, .slice none 0 0, .string ⟨#[]⟩, .string ⟨#[]⟩, .string ⟨#[]⟩, .int .i64 0, .string ⟨#[]⟩] 64) = WA at *
  have N1 := Lib.hid n1
  have F1 := Lib.hid f1
  clear n1 f1 hO
  go_enter Tryz.func25, Tryz.ntmps25
  go_wp2_with fail
  refine (HG.out WA hFA).mono ?_
  rintro e w1 ⟨hF1, v, rfl, ho1⟩
  clear HG
  go_wp2_with fail
  refine (HD.out w1 _ (Sl.of_own ho1)).mono ?_
  rintro e w2 ⟨ve, rfl, ho2, hF2⟩
  clear HD
  obtain ⟨ea, ec, rfl, _⟩ := (Sl.of_own ho2).shape
  unfold objV
  have hFA2 : Fr [] WA w2 := hF1.trans0 hF2
  have hF3 : Fr [] w2 (w2.alloc (.cells #[.int .i64 2, .slice none 0 0, .slice ea l.length ec, .string ⟨#[]⟩, .slice none 0 0, .string ⟨#[]⟩, .string ⟨#[]⟩, .string ⟨#[]⟩, .int .i64 0, .string ⟨#[]⟩] 64)) := (Fr.refl _ _).alloc _
  have hb3 : (w2.alloc (.cells #[.int .i64 2, .slice none 0 0, .slice ea l.length ec, .string ⟨#[]⟩, .slice none 0 0, .string ⟨#[]⟩, .string ⟨#[]⟩, .string ⟨#[]⟩, .int .i64 0, .string ⟨#[]⟩] 64)).heap[w.heap.size]? = WA.heap[w.heap.size]? := (hFA2.trans0 hF3).blk w.heap.size (by omega) (by simp)
  have m3 : ∀ o, (w2.alloc (.cells #[.int .i64 2, .slice none 0 0, .slice ea l.length ec, .string ⟨#[]⟩, .slice none 0 0, .string ⟨#[]⟩, .string ⟨#[]⟩, .string ⟨#[]⟩, .int .i64 0, .string ⟨#[]⟩] 64)).cell? ⟨w.heap.size, o, none⟩ = #[Value.int .i64 0, .slice none 0 0, .slice none 0 0, .string ⟨#[]⟩, .slice none 0 0, .string ⟨#[]⟩, .string ⟨#[]⟩, .string ⟨#[]⟩, .int .i64 0, .string ⟨#[]⟩][o]? := fun o => (World.cell?_of_block hb3).trans (N1.out o)
  have f3 : ∀ o, (w2.alloc (.cells #[.int .i64 2, .slice none 0 0, .slice ea l.length ec, .string ⟨#[]⟩, .slice none 0 0, .string ⟨#[]⟩, .string ⟨#[]⟩, .string ⟨#[]⟩, .int .i64 0, .string ⟨#[]⟩] 64)).frozen? ⟨w.heap.size, o, none⟩ = false := fun o => (World.frozen?_of_block hb3).trans (F1.out o)
  go_wp2_with fail
  obtain ⟨W3, hW3⟩ : ∃ W3, w2.alloc (.cells #[.int .i64 2, .slice none 0 0, .slice ea l.length ec, .string ⟨#[]⟩, .slice none 0 0, .string ⟨#[]⟩, .string ⟨#[]⟩, .string ⟨#[]⟩, .int .i64 0, .string ⟨#[]⟩] 64) = W3 := ⟨_, rfl⟩
  rw [hW3] at m3 f3 hb3 hF3 ⊢
  have hz := setL_cell w.heap.size [.int .i64 2, .slice none 0 0, .slice ea l.length ec, .string ⟨#[]⟩, .slice none 0 0, .string ⟨#[]⟩, .string ⟨#[]⟩, .string ⟨#[]⟩, .int .i64 0, .string ⟨#[]⟩] 0 W3 (fun j hj => by
    rw [Nat.zero_add, m3 j]
    exact ⟨_, Array.getElem?_eq_getElem (by simpa using hj)⟩)
  have hFz := setL_fr w.heap.size [.int .i64 2, .slice none 0 0, .slice ea l.length ec, .string ⟨#[]⟩, .slice none 0 0, .string ⟨#[]⟩, .string ⟨#[]⟩, .string ⟨#[]⟩, .int .i64 0, .string ⟨#[]⟩] 0 W3
  obtain ⟨WF, hWF⟩ : ∃ WF, setL w.heap.size 0 [.int .i64 2, .slice none 0 0, .slice ea l.length ec, .string ⟨#[]⟩, .slice none 0 0, .string ⟨#[]⟩, .string ⟨#[]⟩, .string ⟨#[]⟩, .int .i64 0, .string ⟨#[]⟩] W3 = WF := ⟨_, rfl⟩
  rw [hWF] at hz hFz
  simp only [setL, Nat.reduceAdd] at hWF
  rw [hWF]
  have z0 := hz 0 _ rfl
  have z1 := hz 1 _ rfl
  have z2 := hz 2 _ rfl
  have z3 := hz 3 _ rfl
  have z4 := hz 4 _ rfl
  have z5 := hz 5 _ rfl
  have z6 := hz 6 _ rfl
  have z7 := hz 7 _ rfl
  have z8 := hz 8 _ rfl
  have z9 := hz 9 _ rfl
  simp only [Nat.zero_add] at z0 z1 z2 z3 z4 z5 z6 z7 z8 z9
  have hown : W3.ownsRow w1.heap.size 70 3 (.slice ea l.length ec) l.length (evs l) := own_fr ho2 hF3 (off_nil _ _)
  have hrowB : ∃ cs, W3.heap[w.heap.size]? = some (.cells cs 64 (0, 0)) := ⟨_, hb3.trans r1⟩
  have hF13 : Fr [] WA W3 := hFA2.trans0 hF3
  have hs1 := hF1.size
  have hFin : Fr [] w WF := Fr.of_below ((hFA.below.trans (hF13.belowAt (by simp) (by omega))).trans (hFz.belowAt (by simp) (by have := hF13.size; omega)))
  refine bodyPost_ret (v := .tuple #[.agg #[.int .i64 2, .slice none 0 0, .slice ea l.length ec, .string ⟨#[]⟩, .slice none 0 0, .string ⟨#[]⟩, .string ⟨#[]⟩, .string ⟨#[]⟩, .int .i64 0, .string ⟨#[]⟩], .int .i64 0]) (by simp [results, Tryz.results25, go_sem, z0, z1, z2, z3, z4, z5, z6, z7, z8, z9]) rfl ⟨_, rfl, own_base (own_fr hown hFz (off_row hrowB (by decide))) (by omega), hFin⟩
end Go.Proofs.YtjelehcnpocnoaaGreatDoor
/- Layer 10, the store: Put of a tree. -/
namespace Go.Proofs.YtjelehcnpocnoaaGreatDoor
set_option linter.unusedSimpArgs false
set_option linter.unusedVariables false
set_option linter.unnecessarySimpa false
open Go.RowKit
set_option maxRecDepth 100000
set_option maxHeartbeats 4000000

theorem encEnts_inj : ∀ (l k : List Ent), (∀ e ∈ l, entLe e) → (∀ e ∈ k, entLe e) → l.length = k.length → encEnts l = encEnts k → l = k
  | [], [], _, _, _, _ => rfl
  | [], _ :: _, _, _, h, _ => by simp at h
  | _ :: _, [], _, _, h, _ => by simp at h
  | x :: l, y :: k, hl, hk, hn, h => by
    have hx := hl x (by simp)
    have hy := hk y (by simp)
    have hc : ∀ z : List Ent, ∀ e : Ent, encEnts (e :: z) = putText e.name ++ ([if e.dir then 1 else 0] ++ (e.id ++ encEnts z)) := fun z e => by simp [encEnts, encEnt]
    rw [hc, hc] at h
    have t1 := takeText_put (s := x.name) (most := 1048576) (by unfold mostNum; have := hx.1; omega) (by have := hx.1; omega) ([if x.dir then 1 else 0] ++ (x.id ++ encEnts l))
    have t2 := takeText_put (s := y.name) (most := 1048576) (by unfold mostNum; have := hy.1; omega) (by have := hy.1; omega) ([if y.dir then 1 else 0] ++ (y.id ++ encEnts k))
    rw [h, t2] at t1
    simp only [Option.some.injEq, Prod.mk.injEq] at t1
    obtain ⟨hnm, hrest⟩ := t1
    simp only [List.cons_append, List.nil_append, List.cons.injEq] at hrest
    obtain ⟨hd, hrest⟩ := hrest
    obtain ⟨hid, hrest⟩ := List.append_inj hrest (by rw [hx.2, hy.2])
    have hd' : x.dir = y.dir := by
      revert hd
      cases x.dir <;> cases y.dir <;> simp
    have := encEnts_inj l k (fun e he => hl e (by simp [he])) (fun e he => hk e (by simp [he])) (by simpa using hn) hrest.symm
    rw [this]
    congr 1
    cases x; cases y
    simp_all
theorem encTree_inj (l k : List Ent) (hl : okEnts l) (hk : okEnts k) (h : encTree l = encTree k) : l = k := by
  have h' : putNum l.length ++ encEnts l = putNum k.length ++ encEnts k := by simpa [encTree] using h
  have t1 := takeNum_put (n := l.length) (by unfold mostNum; have := hl.2.2; omega) (encEnts l)
  have t2 := takeNum_put (n := k.length) (by unfold mostNum; have := hk.2.2; omega) (encEnts k)
  rw [h', t2] at t1
  simp only [Option.some.injEq, Prod.mk.injEq] at t1
  exact encEnts_inj l k hl.le hk.le t1.1.symm t1.2.symm

/-- What a Put leaves. -/
def SPutPost (S K p mb : Nat) (d : Dk) (O : Bs → Option (List Ent)) (l : List Ent) (w : World) (e : Ending) (w' : World) : Prop :=
  (∃ l', O (sumF (encTree l)) = some l' ∧ l' ≠ l ∧ e = .returned (.tuple #[.string ⟨#[]⟩, .int .i64 7]) ∧ Fr [] w w') ∨
  (e = .returned (.tuple #[.string (mk (sumF (encTree l))), .int .i64 0]) ∧ (O (sumF (encTree l)) = none ∨ O (sumF (encTree l)) = some l) ∧ ∃ d', StoreAt w' S K p mb d' (putO O l) ∧ d'.off = d.off ∧ d'.left = d.left ∧
    d.free - (200 + 28 * (encTree l).length : Nat) ≤ d'.free ∧ d'.free ≤ d.free ∧ d'.puts ≤ d.puts + (200 + 28 * (encTree l).length) ∧ Fr [p, mb] w w')
theorem SPut_calls (S K p mb : Nat) (d : Dk) (O : Bs → Option (List Ent)) (l : List Ent) (vb : Value) (w : World) (h : StoreAt w S K p mb d O) (hR : Roomy d) (hok : okEnts l) (hv : Sl w 5 1 vb (encTree l).length ((encTree l).map bv)) (hfree : ((200 + 28 * (encTree l).length : Nat) : Int) ≤ d.free) :
    Calls Tryz.prog 23 #[.pointer (some ⟨S, 0, none⟩), vb] w (SPutPost S K p mb d O l w) := by
  have hlen := encTree_len l hok
  have h4096 := hok.2.2
  have hidl : (sumF (encTree l)).length = 32 := sumF_len _
  have hputO : O (sumF (encTree l)) = some l → putO O l = O := fun ho => by
    funext x
    unfold putO
    split
    · rename_i hx; rw [hx, ho]
    · rfl
  obtain ⟨id, hid⟩ : ∃ id, sumF (encTree l) = id := ⟨_, rfl⟩
  have HSm := Lib.hid (fun W (hW : Fr [] w W) => Sum_calls vb (encTree l) W (hv.fr0 hW) (by omega))
  unfold SPutPost
  rw [hid] at HSm hidl hputO ⊢
  have HD := Lib.hid (Decode_calls vb l w hv hok)
  have HMd := Lib.hid (fun W (hW : Fr [] w W) => smade_calls S K p mb d O W (h.fr0 hW))
  have HG := Lib.hid (fun W (hW : Fr [] w W) => SGet_calls S K p mb d O id W (h.fr0 hW) hidl)
  have HSt := Lib.hid (fun W (hW : Fr [] w W) => (h.fr0 hW).c0)
  have HID := Lib.hid hid
  obtain ⟨va, vc, rfl, _⟩ := hv.shape
  cases hO1 : O id with
  | none =>
    simp only [hO1] at HG
    have HP := Lib.hid (fun W (hW : Fr [] w W) => LPut_calls p mb d O l _ W (h.disk.fr0 hW) h.objs hR hok (hv.fr0 hW) (by rw [hid]; exact hO1) hfree)
    rw [hid] at HP
    clear hid hO1 hputO
    go_enter Tryz.func23, Tryz.ntmps23
    go_wp2_with fail
    refine HD.out.mono ?_
    rintro e w2 ⟨ve, rfl, ho2, hF2⟩
    clear HD
    obtain ⟨ea, ec, rfl, _⟩ := (Sl.of_own ho2).shape
    unfold objV
    go_wp2_with fail
    refine (HMd.out _ (hF2.alloc _)).mono ?_
    rintro e w3 ⟨rfl, rfl⟩
    clear HMd
    have hFw3 := hF2.alloc (.cells #[.int .i64 2, .slice none 0 0, .slice ea l.length ec, .string ⟨#[]⟩, .slice none 0 0, .string ⟨#[]⟩, .string ⟨#[]⟩, .string ⟨#[]⟩, .int .i64 0, .string ⟨#[]⟩] 64)
    generalize w2.alloc (.cells #[.int .i64 2, .slice none 0 0, .slice ea l.length ec, .string ⟨#[]⟩, .slice none 0 0, .string ⟨#[]⟩, .string ⟨#[]⟩, .string ⟨#[]⟩, .int .i64 0, .string ⟨#[]⟩] 64) = w3 at *
    go_wp2_with fail
    refine (HSm.out _ hFw3).mono ?_
    rintro e w4 ⟨rfl, hF4⟩
    clear HSm
    have hFw4 : Fr [] w w4 := hFw3.trans0 hF4
    go_wp2_with fail
    refine (HG.out _ hFw4).mono ?_
    rintro e w5 ⟨hF5, rfl⟩
    clear HG
    have hFw5 : Fr [] w w5 := hFw4.trans0 hF5
    have c5 := HSt.out _ hFw5
    go_wp2_with fail
    refine (HP.out _ hFw5).mono ?_
    rintro e w6 ⟨rfl, d', hd', hO', h1, h2, h3, h4, h5, hF6⟩
    clear HP
    go_wp2_with fail
    refine bodyPost_ret (v := .tuple #[.string (mk id), .int .i64 0]) (by simp [results, Tryz.results23, go_sem]) rfl (.inr ⟨rfl, by simp, d', (h.fr0 hFw5).step hF6 hd' hO', h1, h2, h3, h4, h5, (hFw5.weaken (by simp)).trans hF6 (by simp)⟩)
  | some l' =>
    simp only [hO1] at HG
    have hok' := (h.objs.has id l' hO1).1
    have HE := Lib.hid (fun (W : World) (v : Value) (hv1 : Sl W 5 1 v (encTree l').length ((encTree l').map bv)) (hW : Fr [] w W) => eqB_calls v _ (encTree l') (encTree l) W hv1 (hv.fr0 hW))
    have HINJ := Lib.hid (encTree_inj l' l hok' hok)
    have HPO := Lib.hid hputO
    have HO1 := Lib.hid hO1
    clear hid hputO hO1
    by_cases heq : encTree l' = encTree l
    all_goals
      first
      | (have hbe : (encTree l' == encTree l) = true := by simpa using heq)
      | (have hbe : (encTree l' == encTree l) = false := by simpa using heq)
      rw [hbe] at HE
      have HQ := Lib.hid heq
      clear heq hbe
      go_enter Tryz.func23, Tryz.ntmps23
      go_wp2_with fail
      refine HD.out.mono ?_
      rintro e w2 ⟨ve, rfl, ho2, hF2⟩
      clear HD
      obtain ⟨ea, ec, rfl, _⟩ := (Sl.of_own ho2).shape
      unfold objV
      go_wp2_with fail
      refine (HMd.out _ (hF2.alloc _)).mono ?_
      rintro e w3 ⟨rfl, rfl⟩
      clear HMd
      have hFw3 := hF2.alloc (.cells #[.int .i64 2, .slice none 0 0, .slice ea l.length ec, .string ⟨#[]⟩, .slice none 0 0, .string ⟨#[]⟩, .string ⟨#[]⟩, .string ⟨#[]⟩, .int .i64 0, .string ⟨#[]⟩] 64)
      generalize w2.alloc (.cells #[.int .i64 2, .slice none 0 0, .slice ea l.length ec, .string ⟨#[]⟩, .slice none 0 0, .string ⟨#[]⟩, .string ⟨#[]⟩, .string ⟨#[]⟩, .int .i64 0, .string ⟨#[]⟩] 64) = w3 at *
      go_wp2_with fail
      refine (HSm.out _ hFw3).mono ?_
      rintro e w4 ⟨rfl, hF4⟩
      clear HSm
      have hFw4 : Fr [] w w4 := hFw3.trans0 hF4
      go_wp2_with fail
      refine (HG.out _ hFw4).mono ?_
      rintro e w5 ⟨hF5, v5, rfl, ho5⟩
      clear HG
      have hFw5 : Fr [] w w5 := hFw4.trans0 hF5
      go_wp2_with fail
      refine (HE.out _ _ (Sl.of_own ho5) hFw5).mono ?_
      rintro e w6 ⟨rfl, rfl⟩
      clear HE
      go_wp2_with fail
    · have hll := HINJ.out HQ.out
      refine bodyPost_ret (v := .tuple #[.string (mk id), .int .i64 0]) (by simp [results, Tryz.results23, go_sem]) rfl (.inr ⟨rfl, .inr (by rw [← hll]), d, ?_, rfl, rfl, by omega, by omega, by omega, hFw5.weaken (by simp)⟩)
      rw [HPO.out (by rw [HO1.out, hll])]
      exact h.fr0 hFw5
    · refine bodyPost_ret (v := .tuple #[.string ⟨#[]⟩, .int .i64 7]) (by simp [results, Tryz.results23, go_sem]) rfl (.inl ⟨l', rfl, fun e => HQ.out (by rw [e]), rfl, hFw5⟩)
end Go.Proofs.YtjelehcnpocnoaaGreatDoor
