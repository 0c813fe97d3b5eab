/- Joined: Disk. -/
import Derived.Test.YtjelehcnpocnoaaGreatDoorK02
import Derived.Test.YtjelehcnpocnoaaGreatDoorK03
import Derived.Test.YtjelehcnpocnoaaGreatDoorK04
import Derived.Lib.Index
/- Layer 4, disk: what a disk is in memory; the functions that read. -/
namespace Go.Proofs.YtjelehcnpocnoaaGreatDoor
set_option linter.unusedSimpArgs false
set_option linter.unusedVariables false
set_option linter.unnecessarySimpa false
open Go.RowKit
set_option maxRecDepth 100000
set_option maxHeartbeats 2000000

theorem u_files : Tryz.prog.underlying 80 = some (.map 9 60) := by kernel_rfl
theorem z_bytes (W : World) : (zeroValue 60).run Tryz.prog W = .ok (.slice none 0 0) W := by kernel_rfl

/-- A disk: its files, the room, what is left of raw writes ahead of a cut (-1: no cut is to come), is the power off. -/
structure Dk where
  files : Bs → Option Bs
  cap : Int
  free : Int
  left : Int
  off : Bool
  puts : Nat

/-- A disk in memory: p its block, mb its map's. -/
structure DiskAt (w : World) (p mb : Nat) (d : Dk) : Prop where
  ccap : w.cell? ⟨p, 0, none⟩ = some (.int .i64 d.cap)
  cmap : w.cell? ⟨p, 1, none⟩ = some (.map (some mb))
  cfree : w.cell? ⟨p, 2, none⟩ = some (.int .i64 d.free)
  cops : ∃ n, w.cell? ⟨p, 3, none⟩ = some (.int .i64 n)
  cleft : w.cell? ⟨p, 4, none⟩ = some (.int .i64 d.left)
  coff : w.cell? ⟨p, 5, none⟩ = some (.bool d.off)
  free_ : ∀ o, w.frozen? ⟨p, o, none⟩ = false
  row : ∃ cs, w.heap[p]? = some (.cells cs 87 (0, 0))
  small : ∀ s b, d.files s = some b → b.length ≤ 70368744177664
  map : ∃ f, MapAt Tryz.prog 9 w mb d.puts f ∧ ∀ s, match d.files s with
    | none => f s = none
    | some b => ∃ v, f s = some v ∧ Sl w 5 1 v b.length (b.map bv)

theorem DiskAt.lt {w : World} {p mb : Nat} {d : Dk} (h : DiskAt w p mb d) : p < w.heap.size := by
  obtain ⟨cs, h⟩ := h.row
  exact (Array.getElem?_eq_some_iff.1 h).1
theorem DiskAt.mlt {w : World} {p mb : Nat} {d : Dk} (h : DiskAt w p mb d) : mb < w.heap.size := let ⟨_, h, _⟩ := h.map; h.lt
theorem DiskAt.off_ {w : World} {p mb : Nat} {d : Dk} (h : DiskAt w p mb d) (e : TypeId) (he : e ≠ 87) : Off [p, mb] w e := by
  intro x hx ⟨cs, fr, hc⟩
  rcases List.mem_cons.1 hx with rfl | hx
  · obtain ⟨cs', h⟩ := h.row
    rw [h] at hc
    cases hc
    exact he rfl
  · obtain ⟨f, hm, _⟩ := h.map
    exact hm.off e x hx ⟨cs, fr, hc⟩
theorem DiskAt.fr {w w' : World} {p mb : Nat} {d : Dk} (h : DiskAt w p mb d) {F : List Nat} (hF : Fr F w w') (hp : p ∉ F) (hm : mb ∉ F) (ho : Off F w 5) : DiskAt w' p mb d := by
  have hb := hF.blk p h.lt hp
  have c := fun o => World.cell?_of_block (w := w) (w' := w') (a := ⟨p, o, none⟩) hb
  obtain ⟨cs, hr⟩ := h.row
  obtain ⟨f, hm1, hf⟩ := h.map
  refine ⟨(c 0).trans h.ccap, (c 1).trans h.cmap, (c 2).trans h.cfree, let ⟨n, hn⟩ := h.cops; ⟨n, (c 3).trans hn⟩, (c 4).trans h.cleft, (c 5).trans h.coff, fun o => (World.frozen?_of_block (w := w) hb).trans (h.free_ o), ⟨cs, hb.trans hr⟩, h.small, f, hm1.fr hF hm, fun s => ?_⟩
  have := hf s
  split at this
  · exact this
  · obtain ⟨v, h1, h2⟩ := this
    exact ⟨v, h1, h2.fr hF ho⟩
theorem DiskAt.fr0 {w w' : World} {p mb : Nat} {d : Dk} (h : DiskAt w p mb d) (hF : Fr [] w w') : DiskAt w' p mb d := h.fr hF (by simp) (by simp) (off_nil _ _)

/-- May a name be? -/
def nameOk (s : Bs) : Bool := decide (1 ≤ s.length) && decide (s.length ≤ 200) && !s.contains 0

theorem made_calls (p mb : Nat) (d : Dk) (w : World) (h : DiskAt w p mb d) :
    Calls Tryz.prog 59 #[.pointer (some ⟨p, 0, none⟩)] w fun e w' => e = .returned (.bool true) ∧ w' = w := by
  have c1 := h.cmap
  have hm := fun W => run_neq_map_nil (P := Tryz.prog) W _ _ _ (some mb) u_files
  go_enter Tryz.func59, Tryz.ntmps59
  go_wp2_with fail
  go_ret
  exact ⟨rfl, rfl⟩
theorem nameOk_iff (s : Bs) : nameOk s = true ↔ 1 ≤ s.length ∧ s.length ≤ 200 ∧ 0 ∉ s := by
  simp [nameOk, and_assoc]
theorem named1_calls (s : Bs) (w : World) (hs : s.length ≤ 140737488355328) :
    Calls Tryz.prog 112 #[.string (mk s)] w fun e w' => e = .returned (.bool (!nameOk s)) ∧ w' = w := by
  have hz := mk_size s
  by_cases h1 : s.length < 1
  · have hn : nameOk s = false := by
      rw [Bool.eq_false_iff]; intro h; rw [nameOk_iff] at h; omega
    go_enter Tryz.func112, Tryz.ntmps112
    go_wp2_with fail
    go_ret
    exact ⟨rfl, rfl⟩
  · have b1 : decide ((s.length : Int) < 1) = false := by simp; omega
    by_cases h2 : s.length ≤ 200
    · have b2 : decide (200 < (s.length : Int)) = false := by simp; omega
      go_enter Tryz.func112, Tryz.ntmps112
      go_wp2_with fail
      refine (Tryz.strings_IndexByte (mk s) 0 w).mono ?_
      rintro e w1 ⟨rfl, rfl⟩
      have hb : (mk s).data.toList = s := bl_mk s
      have hix := Lib.indexByte_ge s 0
      have hc : (0 : Int).toNat.toUInt8 = 0 := rfl
      by_cases hi : Lib.indexByte s 0 = -1
      · have hn : nameOk s = true := by
          rw [nameOk_iff]
          refine ⟨by omega, h2, fun h => ?_⟩
          obtain ⟨k, hk⟩ := List.getElem?_of_mem h
          exact Lib.indexByte_none hi k hk
        rw [hb, hc, hi]
        go_wp2_with fail
        go_ret
        simp [hn, b1, b2]
      · obtain ⟨o, ho⟩ := Int.eq_ofNat_of_zero_le (show 0 ≤ Lib.indexByte s 0 by omega)
        have hn : nameOk s = false := by
          rw [Bool.eq_false_iff]; intro h; rw [nameOk_iff] at h
          exact h.2.2 (List.mem_of_getElem? (Lib.indexByte_some ho).1)
        rw [hb, hc, ho]
        go_wp2_with fail
        go_ret
        simp [hn, b1, b2]
    · have hn : nameOk s = false := by
        rw [Bool.eq_false_iff]; intro h; rw [nameOk_iff] at h; omega
      go_enter Tryz.func112, Tryz.ntmps112
      go_wp2_with fail
      go_ret
      simp [hn]
theorem Off_calls (p mb : Nat) (d : Dk) (w : World) (h : DiskAt w p mb d) :
    Calls Tryz.prog 148 #[.pointer (some ⟨p, 0, none⟩)] w fun e w' => e = .returned (.bool d.off) ∧ w' = w := by
  have c1 := h.cmap
  have c5 := h.coff
  go_enter Tryz.func148, Tryz.ntmps148
  go_wp2_with fail
  refine (made_calls p mb d w h).mono ?_
  rintro e w1 ⟨rfl, rfl⟩
  go_wp2_with fail
  go_ret
  exact ⟨rfl, rfl⟩

def sv (s : Bs) : Value := .string (mk s)
theorem u_stringsD : Tryz.prog.underlying 62 = some (.slice 9) := by kernel_rfl
theorem IndexFunc_calls (v : Value) (l : List Bs) (w : World) (h : Sl w 9 1 v l.length (l.map sv)) (hl : ∀ s ∈ l, s.length ≤ 140737488355328) (hl2 : l.length ≤ 1048576) :
    Calls Tryz.prog 180 #[v, .func (.func 112) #[] #[]] w fun e w' => (∃ i : Int, e = .returned (.int .i64 i) ∧ decide (0 ≤ i) = !l.all nameOk) ∧ w' = w := by
  obtain ⟨a, c, rfl, h2, h3, hc⟩ := h.open1
  go_enter Tryz.func180, Tryz.ntmps180
  go_wp2_with fail
  go_loop [8] (fun i => ∃ k : Nat, k ≤ l.length ∧ i = .int .i64 k ∧ Hid ((l.take k).all nameOk = true)) (fun i => l.length - (intOf i).toNat)
  case atStart => exact ⟨0, by omega, rfl, by simp [Hid]⟩
  case round =>
    obtain ⟨k, hk, rfl, hall⟩ := hrel
    by_cases hkl : k < l.length
    · obtain ⟨b, o, rfl, hcell⟩ := hc (by omega)
      have hck := hcell k hkl
      have hle := hl _ (List.getElem_mem hkl)
      have hmem := List.getElem_mem hkl
      rw [List.getElem?_map, List.getElem?_eq_getElem hkl] at hck
      generalize hx : l[k] = x at hck hle hmem
      have HX := Lib.hid hx
      simp only [Option.map_some, sv] at hck
      clear hcell hc hx
      go_wp2_with fail
      refine (named1_calls x w hle).mono ?_
      rintro e w1 ⟨rfl, rfl⟩
      by_cases hx : nameOk x = true
      · simp only [hx, Bool.not_true]
        go_wp2_with fail
        go_round
        case rel => exact ⟨k + 1, by omega, by simp, by rw [List.take_succ_eq_append_getElem hkl, HX.out]; simp [Hid, hx, hall.out]⟩
        case measure => simp [intOf]; omega
      · have hx : nameOk x = false := by simpa using hx
        simp only [hx, Bool.not_false]
        have HN : Hid (l.all nameOk = false) := by
          simp only [Hid, List.all_eq_false]; exact ⟨x, hmem, by simp [hx]⟩
        go_wp2_with fail
        go_ret
        exact ⟨⟨k, rfl, by rw [HN.out]; simp⟩, rfl⟩
    · obtain rfl : k = l.length := by omega
      rw [List.take_length] at hall
      clear hc
      go_wp2_with fail
      go_ret
      exact ⟨⟨-1, rfl, by rw [hall.out]; simp⟩, rfl⟩

theorem named_calls (v : Value) (l : List Bs) (w : World) (h : Sl w 9 1 v l.length (l.map sv)) (hl : ∀ s ∈ l, s.length ≤ 140737488355328) (hl2 : l.length ≤ 1048576) :
    Calls Tryz.prog 60 #[v] w fun e w' => e = .returned (.bool (l.all nameOk)) ∧ w' = w := by
  obtain ⟨a, c, rfl, h2, h3⟩ := h.shape
  have HC : Calls Tryz.prog 111 #[.slice a l.length c, .func (.func 112) #[] #[]] w fun e w' => e = .returned (.bool (!l.all nameOk)) ∧ w' = w := by
    go_enter Tryz.func111, Tryz.ntmps111
    go_wp2_with fail
    refine (IndexFunc_calls _ l w h hl hl2).mono ?_
    rintro e w1 ⟨⟨i, rfl, hi⟩, rfl⟩
    go_wp2_with fail
    go_ret
    exact ⟨rfl, rfl⟩
  go_enter Tryz.func60, Tryz.ntmps60
  go_wp2_with fail
  refine HC.mono ?_
  rintro e w1 ⟨rfl, rfl⟩
  go_wp2_with fail
  go_ret
  simp

theorem ready_calls (p mb : Nat) (d : Dk) (v : Value) (l : List Bs) (w : World) (hd : DiskAt w p mb d) (h : Sl w 9 1 v l.length (l.map sv)) (hl : ∀ s ∈ l, s.length ≤ 140737488355328) (hl2 : l.length ≤ 1048576) :
    Calls Tryz.prog 216 #[.pointer (some ⟨p, 0, none⟩), v] w fun e w' => e = .returned (.int .i64 (if l.all nameOk then (if d.off then 5 else 0) else 1)) ∧ w' = w := by
  obtain ⟨a, c, rfl, h2, h3⟩ := h.shape
  have c5 := hd.coff
  by_cases ha : l.all nameOk = true
  · by_cases ho : d.off = true
    all_goals
      simp only [ho, ha, if_true, if_false]
      try rw [ho] at c5
      go_enter Tryz.func216, Tryz.ntmps216
      go_wp2_with fail
      refine (made_calls p mb d w hd).mono ?_
      rintro e w1 ⟨rfl, rfl⟩
      go_wp2_with fail
      refine (named_calls _ l w1 h hl hl2).mono ?_
      rintro e w2 ⟨rfl, rfl⟩
      go_wp2_with fail
      go_ret
      exact ⟨rfl, rfl⟩
  · have ha : l.all nameOk = false := by simpa using ha
    simp only [ha]
    go_enter Tryz.func216, Tryz.ntmps216
    go_wp2_with fail
    refine (made_calls p mb d w hd).mono ?_
    rintro e w1 ⟨rfl, rfl⟩
    go_wp2_with fail
    refine (named_calls _ l w1 h hl hl2).mono ?_
    rintro e w2 ⟨rfl, rfl⟩
    rw [ha]
    go_wp2_with fail
    go_ret
    simp

theorem disk_none {w : World} {p mb : Nat} {d : Dk} (h : DiskAt w p mb d) (s : Bs) (hs : s.length ≤ 140737488355328) (hf : d.files s = none) :
    (Instr.lookup 80 (.map (some mb)) (.string (mk s)) true).run Tryz.prog w = .ok (.tuple #[.slice none 0 0, .bool false]) w := by
  obtain ⟨f, hm, h2⟩ := h.map
  have := h2 s
  rw [hf] at this
  have hg := hm.get_ok u_string u_files z_bytes s (by simp only [maxLen]; omega)
  rw [this] at hg
  exact hg
theorem disk_some {w : World} {p mb : Nat} {d : Dk} (h : DiskAt w p mb d) (s : Bs) (hs : s.length ≤ 140737488355328) {b : Bs} (hf : d.files s = some b) :
    ∃ a c, (Instr.lookup 80 (.map (some mb)) (.string (mk s)) true).run Tryz.prog w = .ok (.tuple #[.slice a b.length c, .bool true]) w ∧
      (Instr.lookup 80 (.map (some mb)) (.string (mk s)) false).run Tryz.prog w = .ok (.slice a b.length c) w ∧ Sl w 5 1 (.slice a b.length c) b.length (b.map bv) ∧ b.length ≤ c := by
  obtain ⟨f, hm, h2⟩ := h.map
  have := h2 s
  rw [hf] at this
  obtain ⟨v, hv, hsl⟩ := this
  have hg := hm.get_ok u_string u_files z_bytes s (by simp only [maxLen]; omega)
  have hg2 := hm.get u_string u_files z_bytes s (by simp only [maxLen]; omega)
  rw [hv] at hg hg2
  obtain ⟨a, c, rfl, h3, h4⟩ := hsl.shape
  exact ⟨a, c, hg, hg2, hsl, h3⟩

theorem Has_calls (p mb : Nat) (d : Dk) (s : Bs) (w : World) (h : DiskAt w p mb d) (hs : s.length ≤ 140737488355328) :
    Calls Tryz.prog 149 #[.pointer (some ⟨p, 0, none⟩), .string (mk s)] w fun e w' => e = .returned (.bool (d.files s).isSome) ∧ w' = w := by
  have c1 := h.cmap
  cases hf : d.files s with
  | none =>
    have hg := disk_none h s hs hf
    go_enter Tryz.func149, Tryz.ntmps149
    go_wp2_with fail
    refine (made_calls p mb d w h).mono ?_
    rintro e w1 ⟨rfl, rfl⟩
    go_wp2_with fail
    go_ret
    exact ⟨rfl, rfl⟩
  | some b =>
    obtain ⟨a, c, hg, -, hsl, hc⟩ := disk_some h s hs hf
    go_enter Tryz.func149, Tryz.ntmps149
    go_wp2_with fail
    refine (made_calls p mb d w h).mono ?_
    rintro e w1 ⟨rfl, rfl⟩
    go_wp2_with fail
    go_ret
    exact ⟨rfl, rfl⟩

theorem Free_calls (p mb : Nat) (d : Dk) (w : World) (h : DiskAt w p mb d) :
    Calls Tryz.prog 151 #[.pointer (some ⟨p, 0, none⟩)] w fun e w' => e = .returned (.int .i64 d.free) ∧ w' = w := by
  have c1 := h.cfree
  go_enter Tryz.func151, Tryz.ntmps151
  go_wp2_with fail
  refine (made_calls p mb d w h).mono ?_
  rintro e w1 ⟨rfl, rfl⟩
  go_wp2_with fail
  go_ret
  exact ⟨rfl, rfl⟩

/-- What a file costs. -/
def costOf (d : Dk) (s : Bs) : Nat := match d.files s with | none => 0 | some b => 16 + s.length + b.length
theorem cost_calls (p mb : Nat) (d : Dk) (s : Bs) (w : World) (h : DiskAt w p mb d) (hs : s.length ≤ 140737488355328) :
    Calls Tryz.prog 213 #[.pointer (some ⟨p, 0, none⟩), .string (mk s)] w fun e w' => e = .returned (.int .i64 (costOf d s)) ∧ w' = w := by
  have c1 := h.cmap
  unfold costOf
  cases hf : d.files s with
  | none =>
    have hg := disk_none h s hs hf
    go_enter Tryz.func213, Tryz.ntmps213
    go_wp2_with fail
    go_ret
    exact ⟨rfl, rfl⟩
  | some b =>
    obtain ⟨a, c, hg, -, hsl, hc⟩ := disk_some h s hs hf
    have hsm := h.small s b hf
    have hz := mk_size s
    have e1 : IntKind.i64.wrap (16 + (s.length : Int)) = 16 + s.length := by rw [IntKind.wrap_i64]; omega
    have e2 : IntKind.i64.wrap (16 + (s.length : Int) + b.length) = 16 + s.length + b.length := by rw [IntKind.wrap_i64]; omega
    go_enter Tryz.func213, Tryz.ntmps213
    go_wp2_with fail
    go_ret
    simp

theorem sl_one (w : World) (s : Bs) : Sl (w.alloc (.cells #[.string (mk s)] 9)) 9 1 (.slice (some ⟨w.heap.size, 0, none⟩) 1 1) [s].length ([s].map sv) := Sl.lit (w := w) (e := 9) #[.string (mk s)] 1 rfl (by decide)
def ReadPost (d : Dk) (s : Bs) (w : World) (e : Ending) (w' : World) : Prop := ∃ v er, e = .returned (.tuple #[v, .int .i64 er]) ∧ Fr [] w w' ∧
      (nameOk s = false → er = 1) ∧ (nameOk s = true → (match d.files s with | none => er = 3 ∧ v = .slice none 0 0 | some b => er = 0 ∧ w'.ownsRow w.heap.size 5 1 v b.length (b.map bv)))
theorem Read_calls (p mb : Nat) (d : Dk) (s : Bs) (w : World) (h : DiskAt w p mb d) (hs : s.length ≤ 140737488355328) :
    Calls Tryz.prog 31 #[.pointer (some ⟨p, 0, none⟩), .string (mk s)] w (ReadPost d s w) := by
  have c1 := h.cmap
  have hz := mk_size s
  have hF := (Fr.refl [] w).alloc (.cells #[.string (mk s)] 9)
  have h1 := h.fr0 hF
  have c2 := h1.cmap
  by_cases hn : nameOk s = true
  · cases hf : d.files s with
    | none =>
      have hg := disk_none h1 s hs hf
      go_enter Tryz.func31, Tryz.ntmps31
      go_wp2_with fail
      refine (made_calls p mb d w h).mono ?_
      rintro e w1 ⟨rfl, rfl⟩
      go_wp2_with fail
      refine (named_calls _ [s] _ (sl_one _ s) (by simpa using hs) (by simp)).mono ?_
      rintro e w2 ⟨rfl, rfl⟩
      simp only [List.all_cons, List.all_nil, hn, Bool.and_true]
      go_wp2_with fail
      refine bodyPost_ret (v := .tuple #[.slice none 0 0, .int .i64 3]) (by simp [results, Tryz.results31, go_sem]) rfl ⟨_, _, rfl, hF, fun h => absurd h (by simp [hn]), fun _ => ?_⟩
      rw [hf]; exact ⟨rfl, rfl⟩
    | some b =>
      obtain ⟨a, c, hg, -, hsl, hc⟩ := disk_some h1 s hs hf
      have hsm := h.small s b hf
      go_enter Tryz.func31, Tryz.ntmps31
      go_wp2_with fail
      refine (made_calls p mb d w h).mono ?_
      rintro e w1 ⟨rfl, rfl⟩
      go_wp2_with fail
      refine (named_calls _ [s] _ (sl_one _ s) (by simpa using hs) (by simp)).mono ?_
      rintro e w2 ⟨rfl, rfl⟩
      simp only [List.all_cons, List.all_nil, hn, Bool.and_true]
      go_wp2_with fail
      refine (clone_bytes _ b _ hsl (by omega)).mono ?_
      rintro e w3 ⟨v, rfl, ho, hF3⟩
      go_wp2_with fail
      refine bodyPost_ret (v := .tuple #[v, .int .i64 0]) (by simp [results, Tryz.results31, go_sem]) rfl ⟨_, _, rfl, hF.trans0 hF3, fun h => absurd h (by simp [hn]), fun _ => ?_⟩
      rw [hf]; exact ⟨rfl, own_base ho (by simp)⟩
  · have hn : nameOk s = false := by simpa using hn
    go_enter Tryz.func31, Tryz.ntmps31
    go_wp2_with fail
    refine (made_calls p mb d w h).mono ?_
    rintro e w1 ⟨rfl, rfl⟩
    go_wp2_with fail
    refine (named_calls _ [s] _ (sl_one _ s) (by simpa using hs) (by simp)).mono ?_
    rintro e w2 ⟨rfl, rfl⟩
    simp only [List.all_cons, List.all_nil, hn, Bool.and_true]
    go_wp2_with fail
    refine bodyPost_ret (v := .tuple #[.slice none 0 0, .int .i64 1]) (by simp [results, Tryz.results31, go_sem]) rfl ⟨_, _, rfl, hF, fun _ => rfl, fun h => absurd h (by simp [hn])⟩
end Go.Proofs.YtjelehcnpocnoaaGreatDoor
