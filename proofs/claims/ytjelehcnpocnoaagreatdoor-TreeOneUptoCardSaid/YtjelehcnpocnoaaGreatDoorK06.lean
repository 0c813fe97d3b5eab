/- Joined: Disk2 Disk3 Disk4 Disk5 Disk6 Obj Obj2. -/
import Derived.Test.YtjelehcnpocnoaaGreatDoorK05
import Derived.Laws.LoneSync
import Derived.Shelf.Abstract
import Derived.Test.YtjelehcnpocnoaaGreatDoorK04
/- Layer 4, disk: raw writes. -/
namespace Go.Proofs.YtjelehcnpocnoaaGreatDoor
set_option linter.unusedSimpArgs false
set_option linter.unusedVariables false
set_option linter.unnecessarySimpa false
open Go.RowKit
set_option maxRecDepth 100000
set_option maxHeartbeats 2000000

theorem i_string' : (Tryz.prog.info? 9).map (fun i => (i.zero, i.size, i.bytes)) = some (some (.string ⟨#[]⟩), 1, 16) := by kernel_rfl
theorem sv_one (l : List Bs) : ∀ u ∈ l.map sv, u.oneCell' = true := by
  intro u hu
  obtain ⟨b, _, rfl⟩ := List.mem_map.1 hu
  rfl
theorem own_not_map {w : World} {base : Nat} {e : TypeId} {size : Nat} {v : Value} {n b : Nat} {xs : List Value} (h : w.ownsRow base e size v n xs) (hb : ∃ es clock, w.heap[b]? = some (.map es clock)) : b ∉ v.ownBlock.toList := by
  intro hx
  obtain ⟨es, clock, hrow⟩ := hb
  rcases h.2 with ⟨rfl, _⟩ | ⟨g, cap, cur, rfl, _, hgg, _⟩
  · simp [Value.ownBlock] at hx
  · obtain rfl : b = g := by simpa [Value.ownBlock, eq_comm] using hx
    rw [hrow] at hgg; cases hgg
theorem own_off {w : World} {base : Nat} {e e' : TypeId} {size : Nat} {v : Value} {n : Nat} {xs : List Value} (h : w.ownsRow base e size v n xs) (he : e ≠ e') : Off v.ownBlock.toList w e' := by
  intro x hx ⟨cs, fr, hc⟩
  rcases h.2 with ⟨rfl, _⟩ | ⟨g, cap, cur, rfl, _, hgg, _⟩
  · simp [Value.ownBlock] at hx
  · obtain rfl : x = g := by simpa [Value.ownBlock, eq_comm] using hx
    rw [hc] at hgg; cases hgg; exact he rfl
/-- May a raw write be done? -/
def readyOf (d : Dk) (l : List Bs) : Int := if l.all nameOk then (if d.off then 5 else 0) else 1
def thereOf (d : Dk) (s : Bs) (l : List Bs) : Int := if readyOf d (l ++ [s]) ≠ 0 then readyOf d (l ++ [s]) else if (d.files s).isSome then 0 else 3

theorem there_calls (p mb : Nat) (d : Dk) (s : Bs) (v : Value) (l : List Bs) (w : World) (hd : DiskAt w p mb d) (ho : w.ownsRow 0 9 1 v l.length (l.map sv)) (hs : s.length ≤ 1048576) (hl : ∀ s ∈ l, s.length ≤ 1048576) (hl2 : l.length ≤ 1000) :
    Calls Tryz.prog 211 #[.pointer (some ⟨p, 0, none⟩), .string (mk s), v] w fun e w' => e = .returned (.int .i64 (thereOf d s l)) ∧ Fr v.ownBlock.toList w w' := by
  have hpne : p ∉ v.ownBlock.toList := own_ne ho hd.row (by decide)
  go_enter Tryz.func211, Tryz.ntmps211
  go_wp2_with (at_builtin; refine wpl_app 0 rfl _ _ 62 9 (.string ⟨#[]⟩) 1 16 rfl u_strings i_string' rfl (by decide) v _ _ rfl (ho.alloc _) 1 [sv s] (Sl.lit #[sv s] 1 rfl (by decide)) (sv_one [s]) (by omega) (by omega) (Nat.zero_le _) ?_)
  intro v1 w1 ho1 hg1 _
  have hF1 : Fr v.ownBlock.toList w w1 := ((Fr.refl _ _).alloc _).grown hg1 (fun k hk => .inl (by simp [hk]))
  have hd1 : DiskAt w1 p mb d := hd.fr hF1 hpne (own_not_map ho (let ⟨_, h, _⟩ := hd.map; h.row)) (own_off ho (by decide))
  have hs1 : Sl w1 9 1 v1 (l ++ [s]).length ((l ++ [s]).map sv) := by simpa using Sl.of_own ho1
  have HL : ∀ x ∈ l ++ [s], x.length ≤ 140737488355328 := by
    intro x hx
    rcases List.mem_append.1 hx with h | h
    · have := hl x h; omega
    · obtain rfl : x = s := by simpa using h
      omega
  clear ho1 hg1
  obtain ⟨a1, c1, rfl, h2, h3⟩ := hs1.shape
  have c2 := hd1.cmap
  have hs2 : s.length ≤ 140737488355328 := by omega
  have hRC := ready_calls p mb d _ (l ++ [s]) w1 hd1 hs1 HL (by simp; omega)
  rw [show (if (l ++ [s]).all nameOk then (if d.off then (5 : Int) else 0) else 1) = readyOf d (l ++ [s]) from rfl] at hRC
  have HT0 : Hid (thereOf d s l = if readyOf d (l ++ [s]) ≠ 0 then readyOf d (l ++ [s]) else if (d.files s).isSome then 0 else 3) := rfl
  generalize readyOf d (l ++ [s]) = r at hRC HT0
  clear HL hs1 hl
  generalize (l ++ [s]).length = m at *
  by_cases h0 : r = 0
  · subst h0
    cases hf : d.files s with
    | none =>
      have HT : Hid (thereOf d s l = 3) := by rw [HT0.out, hf]; simp [Hid]
      have hg := disk_none hd1 s hs2 hf
      go_wp2_with fail
      refine hRC.mono ?_
      rintro e w2 ⟨rfl, rfl⟩
      go_wp2_with fail
      go_ret
      exact ⟨by rw [HT.out]; rfl, hF1⟩
    | some b =>
      have HT : Hid (thereOf d s l = 0) := by rw [HT0.out, hf]; simp [Hid]
      obtain ⟨a, c, hg, -, hsl, hc⟩ := disk_some hd1 s hs2 hf
      go_wp2_with fail
      refine hRC.mono ?_
      rintro e w2 ⟨rfl, rfl⟩
      go_wp2_with fail
      go_ret
      exact ⟨by rw [HT.out]; rfl, hF1⟩
  · have HT : Hid (thereOf d s l = r) := by rw [HT0.out, if_pos h0]; simp [Hid]
    have hb : (r == 0) = false := by simpa using h0
    have hb2 : (r != 0) = true := by simpa using h0
    go_wp2_with fail
    refine hRC.mono ?_
    rintro e w2 ⟨rfl, rfl⟩
    go_wp2_with fail
    go_ret
    exact ⟨by rw [HT.out]; rfl, hF1⟩

theorem DiskAt.set {w : World} {p mb : Nat} {d d' : Dk} (h : DiskAt w p mb d) (o : Nat) (v : Value) (hf : d'.files = d.files) (hp : d'.puts = d.puts)
    (h0 : (if o = 0 then v else .int .i64 d.cap) = .int .i64 d'.cap) (h1 : o ≠ 1) (h2 : (if o = 2 then v else .int .i64 d.free) = .int .i64 d'.free) (h3 : o = 3 → ∃ n, v = .int .i64 n)
    (h4 : (if o = 4 then v else .int .i64 d.left) = .int .i64 d'.left) (h5 : (if o = 5 then v else .bool d.off) = .bool d'.off) : DiskAt (w.setCell ⟨p, o, none⟩ v) p mb d' := by
  have hb : mb ≠ p := by
    obtain ⟨cs, hr⟩ := h.row
    obtain ⟨f, hm, _⟩ := h.map
    obtain ⟨es, clock, hm⟩ := hm.row
    rintro rfl
    rw [hr] at hm; cases hm
  have key : ∀ (o' : Nat) (u : Value), w.cell? ⟨p, o', none⟩ = some u → (w.setCell ⟨p, o, none⟩ v).cell? ⟨p, o', none⟩ = some (if o = o' then v else u) := by
    intro o' u hu
    by_cases he : o = o'
    · subst he; rw [if_pos rfl]; exact cell_set_same _ _ _ _ _ hu
    · rw [if_neg he, cell_set_ne _ _ _ _ _ _ (.inr (fun x => he x.symm))]; exact hu
  have hF : Fr [p] w (w.setCell ⟨p, o, none⟩ v) := (Fr.refl _ _).setCell (.inl (by simp)) v
  obtain ⟨n, hn⟩ := h.cops
  obtain ⟨f, hm, hfs⟩ := h.map
  refine ⟨by rw [← h0]; exact key 0 _ h.ccap, by rw [key 1 _ h.cmap, if_neg h1], by rw [← h2]; exact key 2 _ h.cfree, ?_, by rw [← h4]; exact key 4 _ h.cleft, by rw [← h5]; exact key 5 _ h.coff, fun o' => by rw [World.frozen?_setCell]; exact h.free_ o', row_set h.row _ _, by rw [hf]; exact h.small, f, ?_, ?_⟩
  · by_cases he : o = 3
    · obtain ⟨m, rfl⟩ := h3 he
      exact ⟨m, by rw [key 3 _ hn, if_pos he]⟩
    · exact ⟨n, by rw [key 3 _ hn, if_neg he]⟩
  · rw [hp]; exact hm.fr hF (by simpa using hb)
  · intro s
    rw [hf]
    have := hfs s
    split at this
    · exact this
    · obtain ⟨u, h1, h2⟩ := this
      exact ⟨u, h1, h2.fr hF (fun x hx => h.off_ _ (by decide) x (by simp at hx; simp [hx]))⟩

/-- The disk behind a raw write that costs more. -/
def spent (d : Dk) (more : Int) : Dk := { d with free := d.free - more, left := if 0 < d.left then d.left - 1 else d.left }
def cutOff (d : Dk) : Dk := { d with off := true, left := -1 }
def SpendPost (p mb : Nat) (d : Dk) (more : Int) (w : World) (R : World → Prop) (e : Ending) (w' : World) : Prop :=
  (0 < more ∧ d.free < more ∧ e = .returned (.int .i64 4) ∧ w' = w) ∨ (¬ (0 < more ∧ d.free < more) ∧ d.left = 0 ∧ e = .returned (.int .i64 5) ∧ DiskAt w' p mb (cutOff d) ∧ Fr [p] w w') ∨
    (¬ (0 < more ∧ d.free < more) ∧ d.left ≠ 0 ∧ e = .returned (.int .i64 0) ∧ R w')

theorem atomicAdd_calls (b o : Nat) (n : Int) (w : World) (c : w.cell? ⟨b, o, none⟩ = some (.int .i64 n)) (f : w.frozen? ⟨b, o, none⟩ = false) :
    Calls Tryz.prog 251 #[.pointer (some ⟨b, o, none⟩), .int .i64 1] w fun e w' => (∃ m, e = .returned (.int .i64 m)) ∧ ∃ m, w' = w.setCell ⟨b, o, none⟩ (.int .i64 m) := by
  have hs : (Op.intArith .add .i64 n 1).run Tryz.prog w = .ok (.int .i64 (IntKind.i64.wrap (n + 1))) w := rfl
  have hadd := run_call_add (P := Tryz.prog) Tryz.func261 (by kernel_rfl) (by kernel_rfl) (by kernel_rfl) .i64 (by kernel_rfl) c f hs
  go_enter Tryz.func251, Tryz.ntmps251
  go_wp2_with fail
  go_ret
  exact ⟨⟨_, rfl⟩, _, rfl⟩

theorem spend_rest (p mb : Nat) (d : Dk) (w : World) (hd : DiskAt w p mb d) (more : Int) (hm1 : -1152921504606846976 ≤ more) (hm2 : more ≤ 1152921504606846976) (hf1 : -1152921504606846976 ≤ d.free) (hf2 : d.free ≤ 1152921504606846976)
    (hl1 : -1 ≤ d.left) (hl2 : d.left ≤ 1152921504606846976) (g : Nat) (hen : Enters Tryz.prog g) (cap : Array Value) (R : World → Prop)
    (hdo : ∀ w1, DiskAt w1 p mb (spent d more) → Fr [p] w w1 → Calls Tryz.prog g cap w1 fun e w' => e = .returned (.tuple #[]) ∧ R w')
    (hno : ¬ (0 < more ∧ d.free < more)) (hb : decide (0 < more) = false ∨ decide (0 < more) = true ∧ decide (d.free < more) = false) :
    Calls Tryz.prog 212 #[.pointer (some ⟨p, 0, none⟩), .int .i64 more, .func (.func g) #[] cap] w (SpendPost p mb d more w R) := by
  have hen1 : ∀ W, (callFunc g cap).run Tryz.prog W = .ok (.enter g cap) W := fun W => hen cap W
  have c2 := hd.cfree
  have c4 := hd.cleft
  have f2 := hd.free_ 2
  have f4 := hd.free_ 4
  have f5 := hd.free_ 5
  have c5 := hd.coff
  by_cases hl : d.left = 0
  · have hd1 : DiskAt ((w.setCell ⟨p, 5, none⟩ (.bool true)).setCell ⟨p, 4, none⟩ (.int .i64 (-1))) p mb (cutOff d) :=
      (hd.set (d' := { d with off := true }) 5 (.bool true) rfl rfl rfl (by decide) rfl (by simp) rfl rfl).set 4 (.int .i64 (-1)) rfl rfl rfl (by decide) rfl (by simp) rfl rfl
    have hF1 : Fr [p] w ((w.setCell ⟨p, 5, none⟩ (.bool true)).setCell ⟨p, 4, none⟩ (.int .i64 (-1))) := ((Fr.refl _ _).setCell (.inl (by simp)) _).setCell (.inl (by simp)) _
    have HL := Lib.hid hl
    rw [hl] at c4
    clear hl
    rcases hb with hb | ⟨hb, hb2⟩
    all_goals
      go_enter Tryz.func212, Tryz.ntmps212
      go_wp2_with fail
      go_ret
      exact .inr (.inl ⟨hno, HL.out, rfl, hd1, hF1⟩)
  · have hw2 : IntKind.i64.wrap (d.free - more) = d.free - more := by rw [IntKind.wrap_i64]; omega
    have hb3 : (d.left == 0) = false := by simpa using hl
    by_cases hlp : 0 < d.left
    · have hw : IntKind.i64.wrap (d.left - 1) = d.left - 1 := by rw [IntKind.wrap_i64]; omega
      have hb4 : decide (0 < d.left) = true := by simpa using hlp
      have hsp : spent d more = { d with left := d.left - 1, free := d.free - more } := by simp [spent, hlp]
      rw [hsp] at hdo
      have hd1 := hd.set (d' := { d with left := d.left - 1 }) 4 (.int .i64 (d.left - 1)) rfl rfl rfl (by decide) rfl (by simp) rfl rfl
      have hd2 := hd1.set (d' := { d with left := d.left - 1, free := d.free - more }) 2 (.int .i64 (d.free - more)) rfl rfl rfl (by decide) rfl (by simp) rfl rfl
      have hF2 : Fr [p] w ((w.setCell ⟨p, 4, none⟩ (.int .i64 (d.left - 1))).setCell ⟨p, 2, none⟩ (.int .i64 (d.free - more))) := ((Fr.refl _ _).setCell (.inl (by simp)) _).setCell (.inl (by simp)) _
      obtain ⟨n, c3⟩ := hd2.cops
      have f3 := hd2.free_ 3
      have HD := fun m => hd2.set (d' := { d with left := d.left - 1, free := d.free - more }) 3 (.int .i64 m) rfl rfl rfl (by decide) rfl (fun _ => ⟨m, rfl⟩) rfl rfl
      have HC := fun m => hdo _ (HD m) (hF2.setCell (.inl (by simp)) _)
      have HL := Lib.hid hl
      clear hdo hsp hl hd1
      rcases hb with hb | ⟨hb, hb2⟩
      all_goals
        go_enter Tryz.func212, Tryz.ntmps212
        go_wp2_with fail
        refine (atomicAdd_calls p 3 n _ c3 f3).mono ?_
        rintro e w1 ⟨⟨m', rfl⟩, m, rfl⟩
        have HM := HC m
        clear HC c3
        generalize ((w.setCell ⟨p, 4, none⟩ (.int .i64 (d.left - 1))).setCell ⟨p, 2, none⟩ (.int .i64 (d.free - more))).setCell ⟨p, 3, none⟩ (.int .i64 m) = w1 at *
        go_wp2_with fail
        refine HM.mono ?_
        rintro e w2 ⟨rfl, hR⟩
        go_wp2_with fail
        go_ret
        exact .inr (.inr ⟨hno, HL.out, rfl, hR⟩)
    · have hb4 : decide (0 < d.left) = false := by simpa using hlp
      have hsp : spent d more = { d with free := d.free - more } := by simp [spent, hlp]
      rw [hsp] at hdo
      have hd2 := hd.set (d' := { d with free := d.free - more }) 2 (.int .i64 (d.free - more)) rfl rfl rfl (by decide) rfl (by simp) rfl rfl
      have hF2 : Fr [p] w (w.setCell ⟨p, 2, none⟩ (.int .i64 (d.free - more))) := ((Fr.refl _ _).setCell (.inl (by simp)) _)
      obtain ⟨n, c3⟩ := hd2.cops
      have f3 := hd2.free_ 3
      have HD := fun m => hd2.set (d' := { d with free := d.free - more }) 3 (.int .i64 m) rfl rfl rfl (by decide) rfl (fun _ => ⟨m, rfl⟩) rfl rfl
      have HC := fun m => hdo _ (HD m) (hF2.setCell (.inl (by simp)) _)
      have HL := Lib.hid hl
      clear hdo hsp hl
      rcases hb with hb | ⟨hb, hb2⟩
      all_goals
        go_enter Tryz.func212, Tryz.ntmps212
        go_wp2_with fail
        refine (atomicAdd_calls p 3 n _ c3 f3).mono ?_
        rintro e w1 ⟨⟨m', rfl⟩, m, rfl⟩
        have HM := HC m
        clear HC c3
        generalize (w.setCell ⟨p, 2, none⟩ (.int .i64 (d.free - more))).setCell ⟨p, 3, none⟩ (.int .i64 m) = w1 at *
        go_wp2_with fail
        refine HM.mono ?_
        rintro e w2 ⟨rfl, hR⟩
        go_wp2_with fail
        go_ret
        exact .inr (.inr ⟨hno, HL.out, rfl, hR⟩)

theorem spend_calls (p mb : Nat) (d : Dk) (w : World) (hd : DiskAt w p mb d) (more : Int) (hm1 : -1152921504606846976 ≤ more) (hm2 : more ≤ 1152921504606846976) (hf1 : -1152921504606846976 ≤ d.free) (hf2 : d.free ≤ 1152921504606846976)
    (hl1 : -1 ≤ d.left) (hl2 : d.left ≤ 1152921504606846976) (g : Nat) (hen : Enters Tryz.prog g) (cap : Array Value) (R : World → Prop)
    (hdo : ∀ w1, DiskAt w1 p mb (spent d more) → Fr [p] w w1 → Calls Tryz.prog g cap w1 fun e w' => e = .returned (.tuple #[]) ∧ R w') :
    Calls Tryz.prog 212 #[.pointer (some ⟨p, 0, none⟩), .int .i64 more, .func (.func g) #[] cap] w (SpendPost p mb d more w R) := by
  have c2 := hd.cfree
  have c4 := hd.cleft
  have f2 := hd.free_ 2
  have f4 := hd.free_ 4
  have f5 := hd.free_ 5
  have c5 := hd.coff
  by_cases hm : 0 < more
  · by_cases hf : d.free < more
    · have hb : decide (0 < more) = true := by simpa using hm
      have hb2 : decide (d.free < more) = true := by simpa using hf
      go_enter Tryz.func212, Tryz.ntmps212
      go_wp2_with fail
      go_ret
      exact .inl ⟨hm, hf, rfl, rfl⟩
    · have hb : decide (0 < more) = true := by simpa using hm
      have hb2 : decide (d.free < more) = false := by simpa using hf
      have hno : ¬ (0 < more ∧ d.free < more) := fun h => hf h.2
      clear hf hm
      exact spend_rest p mb d w hd more hm1 hm2 hf1 hf2 hl1 hl2 g hen cap R hdo hno (.inr ⟨hb, hb2⟩)
  · have hb : decide (0 < more) = false := by simpa using hm
    exact spend_rest p mb d w hd more hm1 hm2 hf1 hf2 hl1 hl2 g hen cap R hdo (fun h => hm h.1) (.inl hb)
end Go.Proofs.YtjelehcnpocnoaaGreatDoor
/- Layer 4, disk: Append, Sync, Remove, Rename. -/
namespace Go.Proofs.YtjelehcnpocnoaaGreatDoor
set_option linter.unusedSimpArgs false
set_option linter.unusedVariables false
set_option linter.unnecessarySimpa false
open Go.RowKit
set_option maxRecDepth 100000
set_option maxHeartbeats 2000000

theorem own_cut0 {w : World} {base : Nat} {e : TypeId} {v : Value} {n : Nat} {xs : List Value} (h : w.ownsRow base e 1 v n xs) (hn : 0 < n) : ∃ g cap, v = .slice (some ⟨g, 0, none⟩) n cap ∧ w.ownsRow base e 1 (.slice (some ⟨g, 0, none⟩) 0 cap) 0 [] ∧ n ≤ cap ∧ cap ≤ 9223372036854775807 := by
  rcases h.2 with ⟨_, h0⟩ | ⟨g, cap, cur, rfl, hb, hg, h1, h2, h3, h4⟩
  · omega
  · exact ⟨g, cap, rfl, ⟨by simp, .inr ⟨g, cap, cur, rfl, hb, hg, Nat.zero_le _, h2, h3, by simp⟩⟩, h1, by simpa only [maxLen] using h2⟩
theorem Grow_calls (k : Nat) (w : World) (hk : k ≤ 70368744177664) :
    Calls Tryz.prog 252 #[.slice none 0 0, .int .i64 k] w fun e w' => ∃ v, e = .returned v ∧ w'.ownsRow w.heap.size 5 1 v 0 [] ∧ Fr [] w w' := by
  rcases Nat.eq_zero_or_pos k with rfl | hk0
  · go_enter Tryz.func252, Tryz.ntmps252
    go_wp2_with fail
    go_ret
    exact ⟨_, rfl, World.ownsRow_nil _ _ _ _, Fr.refl _ _⟩
  · obtain ⟨v6, w6, hr6, ho6, hg6, -⟩ := run_app_zeros (P := Tryz.prog) w w.heap.size 60 3 60 5 .i64 .i64 u_bytes u_int i_byte (.slice none 0 0) _ _ (World.ownsRow_nil _ _ _ _) k hk0 (by omega) (Nat.le_refl _)
    obtain ⟨g, cap, rfl, ho, h1, h2⟩ := own_cut0 ho6 (by omega)
    have b0 : decide ((k : Int) < 0) = false := by simp
    have b1 : decide (0 < (k : Int)) = true := by simpa using hk0
    have e1 : IntKind.i64.wrap (k : Int) = k := by rw [IntKind.wrap_i64]; omega
    go_enter Tryz.func252, Tryz.ntmps252
    go_wp2_with (at_builtin; refine Lib.wpList_append_run _ rfl _ _ 60 3 rfl (.slice none 0 0) (.int .i64 k) rfl rfl _ _ hr6 ?_)
    go_ret
    exact ⟨_, rfl, ho, (Fr.refl [] _).grown hg6 (by simp [Value.ownBlock])⟩

/-- slices.Concat of two slices of bytes. -/
theorem Concat_calls (b : Nat) (v1 v2 : Value) (l1 l2 : Bs) (w : World) (c0 : w.cell? ⟨b, 0, none⟩ = some v1) (c1 : w.cell? ⟨b, 1, none⟩ = some v2) (h1 : Sl w 5 1 v1 l1.length (l1.map bv)) (h2 : Sl w 5 1 v2 l2.length (l2.map bv))
    (hl : l1.length + l2.length ≤ 70368744177664) :
    Calls Tryz.prog 218 #[.slice (some ⟨b, 0, none⟩) 2 2] w fun e w' => ∃ v, e = .returned v ∧ w'.ownsRow w.heap.size 5 1 v (l1 ++ l2).length ((l1 ++ l2).map bv) ∧ Fr [] w w' := by
  obtain ⟨a1, k1, rfl, h3, h4⟩ := h1.shape
  obtain ⟨a2, k2, rfl, h5, h6⟩ := h2.shape
  have e1 : IntKind.i64.wrap (l1.length : Int) = l1.length := by rw [IntKind.wrap_i64]; omega
  obtain ⟨m, hm⟩ : ∃ m : Nat, m = l1.length + l2.length := ⟨_, rfl⟩
  have HM := Lib.hid hm
  have hm2 : m ≤ 70368744177664 := by omega
  have e2 : IntKind.i64.wrap ((l1.length : Int) + l2.length) = (m : Int) := by rw [IntKind.wrap_i64]; omega
  have b0 : decide (((l1.length : Nat) : Int) < 0) = false := by simp
  have b1 : decide (((m : Nat) : Int) < 0) = false := by simp
  have x1 : decide ((1 : Int) < 2) = true := rfl
  clear hm
  go_enter Tryz.func218, Tryz.ntmps218
  go_wp2_with fail
  refine wp_loop_rounds 3 ?_
  rw [rounds_succ]
  go_wp2_with fail
  rw [rounds_succ]
  go_wp2_with fail
  rw [rounds_succ]
  go_wp2_with fail
  refine (Grow_calls m w hm2).mono ?_
  rintro e w1 ⟨v, rfl, ho, hF1⟩
  have c0' := hF1.cell c0 (by simp)
  have c1' := hF1.cell c1 (by simp)
  have h1' := h1.fr0 hF1
  have C1 := Lib.hid c1
  clear c0 c1
  go_wp2_with fail
  refine wp_loop_rounds 3 ?_
  rw [rounds_succ]
  go_wp2_with (at_builtin; refine wpl_app w.heap.size rfl _ _ 60 5 (.int .u8 0) 1 1 rfl u_bytes i_byte rfl (by decide) v _ _ rfl ho l1.length (l1.map bv) h1' (bv_one l1) (by omega) (by omega) hF1.size ?_)
  intro v3 w3 ho3 hg3 _
  have hF3 : Fr [] w w3 := hF1.grown hg3 (fun k hk => .inr (own_block ho k hk))
  have c1'' := hF3.cell C1.out (by simp)
  clear c0' c1' h1' hg3 hF1
  have h2' := h2.fr0 hF3
  go_wp2_with fail
  rw [rounds_succ]
  go_wp2_with (at_builtin; refine wpl_app w.heap.size rfl _ _ 60 5 (.int .u8 0) 1 1 rfl u_bytes i_byte rfl (by decide) v3 _ _ rfl ho3 l2.length (l2.map bv) h2' (bv_one l2) (by omega) (by omega) hF3.size ?_)
  intro v4 w4 ho4 hg4 _
  have hF4 : Fr [] w w4 := hF3.grown hg4 (fun k hk => .inr (own_block ho3 k hk))
  clear hg4
  go_wp2_with fail
  rw [rounds_succ]
  go_wp2_with fail
  go_ret
  exact ⟨_, rfl, by simpa using ho4, hF4⟩

def updF (f : Bs → Option Bs) (s : Bs) (v : Option Bs) : Bs → Option Bs := fun x => if x = s then v else f x
theorem disk_put {w : World} {p mb : Nat} {d : Dk} (h : DiskAt w p mb d) (s : Bs) (hs : s.length ≤ 140737488355328) (b : Bs) (v : Value) (hv : Sl w 5 1 v b.length (b.map bv)) (hb : b.length ≤ 70368744177664) (hn : d.puts < 4611686018427387904) :
    ∃ w', (Instr.mapUpdate 80 (.map (some mb)) (.string (mk s)) v).run Tryz.prog w = .ok () w' ∧ DiskAt w' p mb { d with files := updF d.files s (some b), puts := d.puts + 1 } ∧ Fr [mb] w w' := by
  obtain ⟨f, hm, hfs⟩ := h.map
  obtain ⟨w', hr, hm', hF⟩ := hm.put u_string u_files (by omega) s (by simp only [maxLen]; omega) v
  have hne : p ≠ mb := by
    obtain ⟨cs, hrow⟩ := h.row
    obtain ⟨es, clock, hmr⟩ := hm.row
    rintro rfl
    rw [hrow] at hmr; cases hmr
  have hb' := hF.blk p h.lt (by simpa using hne)
  have c := fun o => World.cell?_of_block (w := w) (w' := w') (a := ⟨p, o, none⟩) hb'
  have ho : Off [mb] w 5 := hm.off _
  obtain ⟨cs, hrow⟩ := h.row
  refine ⟨w', hr, ⟨(c 0).trans h.ccap, (c 1).trans h.cmap, (c 2).trans h.cfree, let ⟨n, hn⟩ := h.cops; ⟨n, (c 3).trans hn⟩, (c 4).trans h.cleft, (c 5).trans h.coff, fun o => (World.frozen?_of_block (w := w) hb').trans (h.free_ o), ⟨cs, hb'.trans hrow⟩, ?_, _, hm', ?_⟩, hF⟩
  · intro x b' hx
    simp only [updF] at hx
    split at hx
    · cases hx; exact hb
    · exact h.small x b' hx
  · intro x
    simp only [updF, upd]
    by_cases hx : x = s
    · simp only [if_pos hx]; exact ⟨v, rfl, hv.fr hF ho⟩
    · simp only [if_neg hx]
      have := hfs x
      split at this
      · exact this
      · obtain ⟨u, h1, h2⟩ := this
        exact ⟨u, h1, h2.fr hF ho⟩
theorem disk_del {w : World} {p mb : Nat} {d : Dk} (h : DiskAt w p mb d) (s : Bs) (hs : s.length ≤ 140737488355328) (ty : TypeId) :
    ∃ w', (Builtin.delete_ #[80, 9] ty #[.map (some mb), .string (mk s)]).run Tryz.prog w = .ok (.tuple #[]) w' ∧ DiskAt w' p mb { d with files := updF d.files s none } ∧ Fr [mb] w w' := by
  obtain ⟨f, hm, hfs⟩ := h.map
  obtain ⟨w', hr, hm', hF⟩ := hm.del u_string u_files s (by simp only [maxLen]; omega) ty
  have hne : p ≠ mb := by
    obtain ⟨cs, hrow⟩ := h.row
    obtain ⟨es, clock, hmr⟩ := hm.row
    rintro rfl
    rw [hrow] at hmr; cases hmr
  have hb' := hF.blk p h.lt (by simpa using hne)
  have c := fun o => World.cell?_of_block (w := w) (w' := w') (a := ⟨p, o, none⟩) hb'
  have ho : Off [mb] w 5 := hm.off _
  obtain ⟨cs, hrow⟩ := h.row
  refine ⟨w', hr, ⟨(c 0).trans h.ccap, (c 1).trans h.cmap, (c 2).trans h.cfree, let ⟨n, hn⟩ := h.cops; ⟨n, (c 3).trans hn⟩, (c 4).trans h.cleft, (c 5).trans h.coff, fun o => (World.frozen?_of_block (w := w) hb').trans (h.free_ o), ⟨cs, hb'.trans hrow⟩, ?_, _, hm', ?_⟩, hF⟩
  · intro x b' hx
    simp only [updF] at hx
    split at hx
    · cases hx
    · exact h.small x b' hx
  · intro x
    simp only [updF, upd]
    by_cases hx : x = s
    · simp only [if_pos hx]
    · simp only [if_neg hx]
      have := hfs x
      split at this
      · exact this
      · obtain ⟨u, h1, h2⟩ := this
        exact ⟨u, h1, h2.fr hF ho⟩

theorem cell_ne_map {P : Program} {k : TypeId} {w : World} {mb n : Nat} {f : Bs → Option Value} (h : MapAt P k w mb n f) {b o : Nat} {v : Value} (hc : w.cell? ⟨b, o, none⟩ = some v) : b ∉ [mb] := by
  obtain ⟨es, clock, hm⟩ := h.row
  intro hx
  obtain rfl : b = mb := by simpa using hx
  simp [World.cell?, hm] at hc
theorem DiskAt.ne_map {w : World} {p mb : Nat} {d : Dk} (h : DiskAt w p mb d) {b o : Nat} {v : Value} (hc : w.cell? ⟨b, o, none⟩ = some v) : b ∉ [mb] := by
  obtain ⟨f, hm, _⟩ := h.map
  exact cell_ne_map hm hc

theorem append1_calls (p mb : Nat) (d : Dk) (w : World) (hd : DiskAt w p mb d) (bo bb bd bn : Nat) (s l1 l2 : Bs) (v1 v2 : Value) (c1 : w.cell? ⟨bo, 0, none⟩ = some v1) (c2 : w.cell? ⟨bb, 0, none⟩ = some v2) (c3 : w.cell? ⟨bd, 0, none⟩ = some (.pointer (some ⟨p, 0, none⟩))) (c4 : w.cell? ⟨bn, 0, none⟩ = some (.string (mk s)))
    (hs : s.length ≤ 1048576) (h1 : Sl w 5 1 v1 l1.length (l1.map bv)) (h2 : Sl w 5 1 v2 l2.length (l2.map bv)) (hl : l1.length + l2.length ≤ 70368744177664) (hn : d.puts < 4611686018427387904) :
    Calls Tryz.prog 217 #[.pointer (some ⟨bo, 0, none⟩), .pointer (some ⟨bb, 0, none⟩), .pointer (some ⟨bd, 0, none⟩), .pointer (some ⟨bn, 0, none⟩)] w fun e w' => e = .returned (.tuple #[]) ∧ DiskAt w' p mb { d with files := updF d.files s (some (l1 ++ l2)), puts := d.puts + 1 } ∧ Fr [mb] w w' := by
  obtain ⟨a1, k1, rfl, h3, h4⟩ := h1.shape
  obtain ⟨a2, k2, rfl, h5, h6⟩ := h2.shape
  have cm := hd.cmap
  generalize hW : (w.alloc (.cells #[.slice a1 l1.length k1, .slice a2 l2.length k2] 60)).drew = W
  have hFW : Fr [] w W := by rw [← hW]; exact ((Fr.refl _ _).alloc _).drew
  have C0 : W.cell? ⟨w.heap.size, 0, none⟩ = some (.slice a1 l1.length k1) := by rw [← hW]; simp only [World.cell?, World.drew, heap_alloc_new]; rfl
  have C1 : W.cell? ⟨w.heap.size, 1, none⟩ = some (.slice a2 l2.length k2) := by rw [← hW]; simp only [World.cell?, World.drew, heap_alloc_new]; rfl
  have HC := Lib.hid (Concat_calls w.heap.size _ _ l1 l2 W C0 C1 (h1.fr0 hFW) (h2.fr0 hFW) hl)
  have HW := Lib.hid hW
  clear C0 C1 hW
  go_enter Tryz.func217, Tryz.ntmps217
  go_wp2_with fail
  go_region_held3 (fun w' => w'.cell? ⟨bo, 0, none⟩ = some (.slice a1 l1.length k1) ∧ w'.cell? ⟨bb, 0, none⟩ = some (.slice a2 l2.length k2) ∧ w'.cell? ⟨bd, 0, none⟩ = some (.pointer (some ⟨p, 0, none⟩)) ∧ w'.cell? ⟨bn, 0, none⟩ = some (.string (mk s)) ∧ w'.cell? ⟨p, 1, none⟩ = some (.map (some mb))) (first | go_keep | exact ⟨hF2'.cell c1 (by simp), hF2'.cell c2 (by simp), hF2'.cell c3 (by simp), hF2'.cell c4 (by simp), hF2'.cell cm (by simp)⟩ | exact ⟨hF3'.cell c1 (hd.ne_map c1), hF3'.cell c2 (hd.ne_map c2), hF3'.cell c3 (hd.ne_map c3), hF3'.cell c4 (hd.ne_map c4), hF3'.cell cm (hd.ne_map cm)⟩) ((go_at_call 218; rw [HW.out]; refine HC.out.mono ?_; rintro e w2 ⟨v, rfl, ho, hF2⟩; have hF2' : Fr [] w w2 := hFW.trans0 hF2; obtain ⟨w3, hr3, hd3, hF3⟩ := disk_put (hd.fr0 hF2') s (by omega) (l1 ++ l2) v (Sl.of_own ho) (by simpa using hl) hn; have hF3' : Fr [mb] w w3 := (hF2'.weaken (by simp)).trans hF3 (by simp)))
  all_goals
    go_wp2_with fail
    go_end0
    exact ⟨rfl, hd3, hF3'⟩
end Go.Proofs.YtjelehcnpocnoaaGreatDoor
/- Layer 4, disk: Append, Sync, Remove, Rename. -/
namespace Go.Proofs.YtjelehcnpocnoaaGreatDoor
set_option linter.unusedSimpArgs false
set_option linter.unusedVariables false
set_option linter.unnecessarySimpa false
open Go.RowKit
set_option maxRecDepth 100000
set_option maxHeartbeats 2000000

def moreOf (d : Dk) (s c : Bs) : Nat := c.length + (if (d.files s).isSome then 0 else 16 + s.length)
def oldOf (d : Dk) (s : Bs) : Bs := (d.files s).getD []
/-- A raw write that got as far as being paid for. -/
def WritePost (p mb : Nat) (d : Dk) (more : Int) (d' : Dk) (w : World) (e : Ending) (w' : World) : Prop :=
  (0 < more ∧ d.free < more ∧ e = .returned (.int .i64 4) ∧ Fr [] w w') ∨ (¬ (0 < more ∧ d.free < more) ∧ d.left = 0 ∧ e = .returned (.int .i64 5) ∧ DiskAt w' p mb (cutOff d) ∧ Fr [p] w w') ∨
    (¬ (0 < more ∧ d.free < more) ∧ d.left ≠ 0 ∧ e = .returned (.int .i64 0) ∧ DiskAt w' p mb d' ∧ Fr [p, mb] w w')
/-- What a raw write asks of a disk, so that no number leaves its range. -/
structure Sane (d : Dk) : Prop where
  f1 : -1099511627776 ≤ d.free
  f2 : d.free ≤ 1099511627776
  l1 : -1 ≤ d.left
  l2 : d.left ≤ 1099511627776
  n : d.puts < 4611686018427387904

theorem disk_old {w : World} {p mb : Nat} {d : Dk} (h : DiskAt w p mb d) (s : Bs) (hs : s.length ≤ 140737488355328) :
    ∃ a c, (∀ X, Fr [] w X → (Instr.lookup 80 (.map (some mb)) (.string (mk s)) true).run Tryz.prog X = .ok (.tuple #[.slice a (oldOf d s).length c, .bool (d.files s).isSome]) X) ∧
      Sl w 5 1 (.slice a (oldOf d s).length c) (oldOf d s).length ((oldOf d s).map bv) ∧ (oldOf d s).length ≤ c ∧ c ≤ 9223372036854775807 := by
  obtain ⟨f, hm, h2⟩ := h.map
  have h2s := h2 s
  have hg : ∀ X, Fr [] w X → (Instr.lookup 80 (.map (some mb)) (.string (mk s)) true).run Tryz.prog X = .ok (.tuple #[(f s).getD (.slice none 0 0), .bool (f s).isSome]) X :=
    fun X hX => (hm.fr hX (by simp)).get_ok u_string u_files z_bytes s (by simp only [maxLen]; omega)
  unfold oldOf
  cases hf : d.files s with
  | none =>
    rw [hf] at h2s
    rw [h2s] at hg
    exact ⟨none, 0, hg, Sl.nil _ _ _, Nat.le_refl _, by omega⟩
  | some b =>
    rw [hf] at h2s
    obtain ⟨v, hv, hsl⟩ := h2s
    rw [hv] at hg
    obtain ⟨a, c, rfl, h3, h4⟩ := hsl.shape
    exact ⟨a, c, hg, hsl, h3, h4⟩

theorem Append_calls (p mb : Nat) (d : Dk) (w : World) (hd : DiskAt w p mb d) (hS : Sane d) (s c : Bs) (v : Value) (hv : Sl w 5 1 v c.length (c.map bv)) (hc : c.length ≤ 64) (hn : nameOk s = true) (hoff : d.off = false) (hold : (oldOf d s).length + c.length ≤ 70368744177664) :
    Calls Tryz.prog 154 #[.pointer (some ⟨p, 0, none⟩), .string (mk s), v] w (WritePost p mb d (moreOf d s c) { spent d (moreOf d s c) with files := updF d.files s (some (oldOf d s ++ c)), puts := d.puts + 1 } w) := by
  obtain ⟨a, k, rfl, h2, h3⟩ := hv.shape
  have hsz := mk_size s
  have hb64 : decide (64 < (c.length : Int)) = false := by simp; omega
  go_enter Tryz.func154, Tryz.ntmps154
  go_wp2_with fail
  generalize hW : (((w.alloc (.cells #[.pointer (some ⟨p, 0, none⟩)] 45)).alloc (.cells #[.string (mk s)] 9)).alloc (.cells #[.slice a c.length k] 60)).alloc (.cells #[.string (mk s)] 9) = W
  have hFW : Fr [] w W := by rw [← hW]; exact ((((Fr.refl _ _).alloc _).alloc _).alloc _).alloc _
  have hsz : W.heap.size = w.heap.size + 4 := by rw [← hW]; simp
  have hsl : Sl W 9 1 (.slice (some ⟨w.heap.size + 1 + 1 + 1, 0, none⟩) 1 1) [s].length ([s].map sv) := by
    have := Sl.lit (w := ((w.alloc (.cells #[.pointer (some ⟨p, 0, none⟩)] 45)).alloc (.cells #[.string (mk s)] 9)).alloc (.cells #[.slice a c.length k] 60)) (e := 9) (size := 1) #[.string (mk s)] 1 rfl (by decide)
    rw [hW] at this
    simpa [sv] using this
  have k3 : W.cell? ⟨w.heap.size, 0, none⟩ = some (.pointer (some ⟨p, 0, none⟩)) := by rw [← hW]; exact (((Fr.refl [] _).alloc _).alloc _ |>.alloc _).cell (World.cell?_alloc_new w #[_] _ 0) (by simp)
  have k4 : W.cell? ⟨w.heap.size + 1, 0, none⟩ = some (.string (mk s)) := by
    have := (((Fr.refl [] _).alloc (.cells #[.slice a c.length k] 60)).alloc (.cells #[.string (mk s)] 9)).cell (World.cell?_alloc_new (w.alloc (.cells #[.pointer (some ⟨p, 0, none⟩)] 45)) #[.string (mk s)] 9 0) (by simp)
    rw [← hW]; simpa using this
  have k5 : W.cell? ⟨w.heap.size + 1 + 1, 0, none⟩ = some (.slice a c.length k) := by
    have := ((Fr.refl [] _).alloc (.cells #[.string (mk s)] 9)).cell (World.cell?_alloc_new ((w.alloc (.cells #[.pointer (some ⟨p, 0, none⟩)] 45)).alloc (.cells #[.string (mk s)] 9)) #[.slice a c.length k] 60 0) (by simp)
    rw [← hW]; simpa using this
  clear hW
  have hdW := hd.fr0 hFW
  refine (ready_calls p mb d _ [s] W hdW hsl (by simp; rw [nameOk_iff] at hn; omega) (by simp)).mono ?_
  rintro e W1 ⟨rfl, rfl⟩
  simp only [List.all_cons, List.all_nil, hn, hoff, Bool.and_true, if_true, if_false, Bool.false_eq_true]
  obtain ⟨oa, oc, hget, hsold, ho1, ho2⟩ := disk_old hdW s (by have := ((nameOk_iff s).1 hn).2.1; omega)
  have gA := hget _ (Fr.refl _ _).drew
  have gB := hget _ ((Fr.refl _ _).alloc (.cells #[.slice none 0 0] 60)).drew
  have cm := hdW.cmap
  clear hget
  have n3 := World.new_ne W1 _ k3
  have n4 := World.new_ne W1 _ k4
  have n5 := World.new_ne W1 _ cm
  have hF2 : Fr [] W1 (W1.alloc (.cells #[.slice oa (oldOf d s).length oc] 60)).drew := ((Fr.refl _ _).alloc _).drew
  have K2 : (W1.alloc (.cells #[.slice oa (oldOf d s).length oc] 60)).drew.cell? ⟨W1.heap.size, 0, none⟩ = some (.slice oa (oldOf d s).length oc) := by
    simp
  generalize hW2 : (W1.alloc (.cells #[.slice oa (oldOf d s).length oc] 60)).drew = W2 at *
  have hpl := hd.lt
  have hd2 := hdW.fr0 hF2
  have K3 := hF2.cell k3 (by simp)
  have K4 := hF2.cell k4 (by simp)
  have K5 := hF2.cell k5 (by simp)
  have hs1 := hsold.fr0 hF2
  have hs2 := hv.fr0 (hFW.trans0 hF2)
  have hFw2 := hFW.trans0 hF2
  have HO := Lib.hid hold
  have hsn := ((nameOk_iff s).1 hn).2.1
  have HSz := Lib.hid hsz
  have HC : ∀ more : Nat, more = moreOf d s c → Hid (Calls Tryz.prog 212 #[.pointer (some ⟨p, 0, none⟩), .int .i64 (more : Int), .func (.func 217) #[] #[.pointer (some ⟨W1.heap.size, 0, none⟩), .pointer (some ⟨w.heap.size + 1 + 1, 0, none⟩), .pointer (some ⟨w.heap.size, 0, none⟩), .pointer (some ⟨w.heap.size + 1, 0, none⟩)]] W2
      (WritePost p mb d (moreOf d s c) { spent d (moreOf d s c) with files := updF d.files s (some (oldOf d s ++ c)), puts := d.puts + 1 } w)) := by
    intro more hmore
    have hmb : more ≤ 1000000 := by
      rw [hmore]; unfold moreOf; split <;> omega
    rw [← hmore]
    have h1 := hS.f1
    have h2 := hS.f2
    have h3 := hS.l1
    have h4 := hS.l2
    refine (spend_calls p mb d W2 hd2 more (by omega) (by omega) (by omega) (by omega) (by omega) (by omega) 217 (enters_of Tryz.func217 (by kernel_rfl) rfl) _ (fun w' => DiskAt w' p mb { spent d more with files := updF d.files s (some (oldOf d s ++ c)), puts := d.puts + 1 } ∧ Fr [p, mb] w w') ?_).mono ?_
    · intro w1 hdw hFp
      refine (append1_calls p mb (spent d more) w1 hdw _ _ _ _ s (oldOf d s) c _ _ (hFp.cell K2 (by simp; omega)) (hFp.cell K5 (by simp; omega)) (hFp.cell K3 (by simp; omega)) (hFp.cell K4 (by simp; omega)) (by omega) (hs1.fr hFp (fun x hx => hd2.off_ _ (by decide) x (by simp at hx; simp [hx]))) (hs2.fr hFp (fun x hx => hd2.off_ _ (by decide) x (by simp at hx; simp [hx]))) HO.out (by simpa [spent] using hS.n)).mono ?_
      rintro e w2 ⟨rfl, hdd, hFm⟩
      refine ⟨rfl, hdd, ?_⟩
      exact ((hFw2.weaken (by simp)).trans (hFp.weaken (G := [p, mb]) (by simp)) (by simp)).trans (hFm.weaken (G := [p, mb]) (by simp)) (by simp)
    · rintro e w2 (⟨h1, h2, rfl, rfl⟩ | ⟨h1, h2, rfl, h3, h4⟩ | ⟨h1, h2, rfl, h3, h4⟩)
      · exact .inl ⟨h1, h2, rfl, hFw2⟩
      · exact .inr (.inl ⟨h1, h2, rfl, h3, hFw2.weaken (by simp) |>.trans h4 (by simp)⟩)
      · exact .inr (.inr ⟨h1, h2, rfl, h3, h4⟩)
  have HK2 := Lib.hid K2
  have HK3 := Lib.hid K3
  have HK4 := Lib.hid K4
  have HK5 := Lib.hid K5
  have HW2 := Lib.hid hW2
  clear K2 K3 K4 K5 hW2 hs1 hs2 hd2 hsold hv hdW hsl hsz hFw2 hF2 hFW
  go_wp2_with fail
  go_region_held3 (fun w' => w'.cell? ⟨w.heap.size, 0, none⟩ = some (.pointer (some ⟨p, 0, none⟩)) ∧ w'.cell? ⟨w.heap.size + 1, 0, none⟩ = some (.string (mk s)) ∧ w'.cell? ⟨p, 1, none⟩ = some (.map (some mb))) (go_keep) (fail)
  all_goals
    clear gA gB n3 n4 n5 cm
    rw [HW2.out]
    have k4' := HK4.out
    have k3' := HK3.out
    cases hi : (d.files s).isSome with
    | true =>
      have HC' := HC c.length (by simp [moreOf, hi])
      go_wp2_with fail
      refine HC'.out.mono ?_
      rintro e w3 hP
      have HP := Lib.hid hP
      clear hP
      obtain ⟨r, rfl⟩ : ∃ r, e = .returned (.int .i64 r) := by
        rcases HP.out with ⟨_, _, h, _⟩ | ⟨_, _, h, _⟩ | ⟨_, _, h, _⟩ <;> exact ⟨_, h⟩
      go_wp2_with fail
      go_ret
      exact HP.out
    | false =>
      have HC' := HC (c.length + (16 + s.length)) (by simp [moreOf, hi])
      have e1 : IntKind.i64.wrap (16 + (s.length : Int)) = 16 + s.length := by rw [IntKind.wrap_i64]; omega
      have e2 : IntKind.i64.wrap ((c.length : Int) + (16 + s.length)) = ((c.length + (16 + s.length) : Nat) : Int) := by rw [IntKind.wrap_i64]; omega
      generalize c.length + (16 + s.length) = m at *
      go_wp2_with fail
      refine HC'.out.mono ?_
      rintro e w3 hP
      have HP := Lib.hid hP
      clear hP
      obtain ⟨r, rfl⟩ : ∃ r, e = .returned (.int .i64 r) := by
        rcases HP.out with ⟨_, _, h, _⟩ | ⟨_, _, h, _⟩ | ⟨_, _, h, _⟩ <;> exact ⟨_, h⟩
      go_wp2_with fail
      go_ret
      exact HP.out
end Go.Proofs.YtjelehcnpocnoaaGreatDoor
/- Layer 4, disk: Sync, Remove, Rename. -/
namespace Go.Proofs.YtjelehcnpocnoaaGreatDoor
set_option linter.unusedSimpArgs false
set_option linter.unusedVariables false
set_option linter.unnecessarySimpa false
open Go.RowKit
set_option maxRecDepth 100000
set_option maxHeartbeats 2000000

theorem thereOf_ok (d : Dk) (s : Bs) (l : List Bs) (hn : (l ++ [s]).all nameOk = true) (ho : d.off = false) (hf : (d.files s).isSome = true) : thereOf d s l = 0 := by
  unfold thereOf readyOf
  rw [hn, ho, hf]; rfl
theorem WritePost.code {p mb : Nat} {d d' : Dk} {more : Int} {w w' : World} {e : Ending} (h : WritePost p mb d more d' w e w') : ∃ r, e = .returned (.int .i64 r) := by
  rcases h with ⟨_, _, h, _⟩ | ⟨_, _, h, _⟩ | ⟨_, _, h, _⟩ <;> exact ⟨_, h⟩
theorem WritePost.of_spend {p mb : Nat} {d d' : Dk} {more : Int} {w w1 w' : World} {e : Ending} (hF : Fr [] w w1) (h : SpendPost p mb d more w1 (fun w' => DiskAt w' p mb d' ∧ Fr [p, mb] w w') e w') : WritePost p mb d more d' w e w' := by
  rcases h with ⟨h1, h2, rfl, rfl⟩ | ⟨h1, h2, rfl, h3, h4⟩ | ⟨h1, h2, rfl, h3, h4⟩
  · exact .inl ⟨h1, h2, rfl, hF⟩
  · exact .inr (.inl ⟨h1, h2, rfl, h3, (hF.weaken (by simp)).trans h4 (by simp)⟩)
  · exact .inr (.inr ⟨h1, h2, rfl, h3, h4⟩)

theorem WritePost.frame {p mb : Nat} {d d' : Dk} {more : Int} {w w' : World} {e : Ending} (h : WritePost p mb d more d' w e w') : Fr [p, mb] w w' := by
  rcases h with ⟨_, _, _, h⟩ | ⟨_, _, _, _, h⟩ | ⟨_, _, _, _, h⟩
  · exact h.weaken (by simp)
  · exact h.weaken (by simp)
  · exact h
theorem WritePost.from {p mb : Nat} {d d' : Dk} {more : Int} {w w1 w' : World} {e : Ending} (hF : Fr [] w w1) (h : WritePost p mb d more d' w1 e w') : WritePost p mb d more d' w e w' := by
  rcases h with ⟨h1, h2, h3, h⟩ | ⟨h1, h2, h3, h4, h⟩ | ⟨h1, h2, h3, h4, h⟩
  · exact .inl ⟨h1, h2, h3, hF.trans0 h⟩
  · exact .inr (.inl ⟨h1, h2, h3, h4, (hF.weaken (by simp)).trans h (by simp)⟩)
  · exact .inr (.inr ⟨h1, h2, h3, h4, (hF.weaken (by simp)).trans h (by simp)⟩)

theorem Sync_calls (p mb : Nat) (d : Dk) (w : World) (hd : DiskAt w p mb d) (hS : Sane d) (s : Bs) (hn : nameOk s = true) (hoff : d.off = false) (hf : (d.files s).isSome = true) :
    Calls Tryz.prog 155 #[.pointer (some ⟨p, 0, none⟩), .string (mk s)] w (WritePost p mb d 0 (spent d 0) w) := by
  have hsn := ((nameOk_iff s).1 hn).2.1
  have h1 := hS.f1
  have h2 := hS.f2
  have h3 := hS.l1
  have h4 := hS.l2
  have HT := there_calls p mb d s (.slice none 0 0) [] w hd (World.ownsRow_nil _ _ _ _) (by omega) (by simp) (by simp)
  rw [thereOf_ok d s [] (by simpa using hn) hoff hf] at HT
  go_enter Tryz.func155, Tryz.ntmps155
  go_wp2_with fail
  refine HT.mono ?_
  rintro e w1 ⟨rfl, hF⟩
  have hF : Fr [] w w1 := hF
  have hd1 := hd.fr0 hF
  go_wp2_with fail
  refine (spend_calls p mb d w1 hd1 0 (by omega) (by omega) (by omega) (by omega) (by omega) (by omega) 219 (enters_of Tryz.func219 (by kernel_rfl) rfl) _ (fun w' => DiskAt w' p mb (spent d 0) ∧ Fr [p, mb] w w') ?_).mono ?_
  · intro w2 hd2 hF2
    go_enter Tryz.func219, Tryz.ntmps219
    go_wp2_with fail
    go_end0
    exact ⟨rfl, hd2, (hF.weaken (by simp)).trans (hF2.weaken (G := [p, mb]) (by simp)) (by simp)⟩
  · intro e w2 hP
    have HP := Lib.hid (WritePost.of_spend hF hP)
    clear hP
    obtain ⟨r, rfl⟩ := HP.out.code
    go_wp2_with fail
    go_ret
    exact HP.out

theorem remove1_calls (p mb : Nat) (d : Dk) (w : World) (hd : DiskAt w p mb d) (bd bn : Nat) (s : Bs) (c3 : w.cell? ⟨bd, 0, none⟩ = some (.pointer (some ⟨p, 0, none⟩))) (c4 : w.cell? ⟨bn, 0, none⟩ = some (.string (mk s))) (hs : s.length ≤ 1048576) :
    Calls Tryz.prog 214 #[.pointer (some ⟨bd, 0, none⟩), .pointer (some ⟨bn, 0, none⟩)] w fun e w' => e = .returned (.tuple #[]) ∧ DiskAt w' p mb { d with files := updF d.files s none } ∧ Fr [mb] w w' := by
  have cm := hd.cmap
  obtain ⟨w3, hr3, hd3, hF3⟩ := disk_del (hd.fr0 (Fr.refl [] w).drew) s (by omega) 0
  have hF3' : Fr [mb] w w3 := ((Fr.refl _ _).drew).trans hF3 (by simp)
  go_enter Tryz.func214, Tryz.ntmps214
  go_wp2_with fail
  go_region_held3 (fun w' => w'.cell? ⟨bd, 0, none⟩ = some (.pointer (some ⟨p, 0, none⟩)) ∧ w'.cell? ⟨bn, 0, none⟩ = some (.string (mk s)) ∧ w'.cell? ⟨p, 1, none⟩ = some (.map (some mb))) (first | go_keep | exact ⟨hF3'.cell c3 (hd.ne_map c3), hF3'.cell c4 (hd.ne_map c4), hF3'.cell cm (hd.ne_map cm)⟩) (fail)
  all_goals
    go_wp2_with fail
    go_end0
    exact ⟨rfl, hd3, hF3'⟩

theorem cell_two0 (w : World) (v1 v2 : Value) (t1 t2 : TypeId) : ((w.alloc (.cells #[v1] t1)).alloc (.cells #[v2] t2)).cell? ⟨w.heap.size, 0, none⟩ = some v1 :=
  ((Fr.refl [] _).alloc _).cell (World.cell?_alloc_new w #[v1] t1 0) (by simp)
theorem cell_two1 (w : World) (v1 v2 : Value) (t1 t2 : TypeId) : ((w.alloc (.cells #[v1] t1)).alloc (.cells #[v2] t2)).cell? ⟨w.heap.size + 1, 0, none⟩ = some v2 := by
  have := World.cell?_alloc_new (w.alloc (.cells #[v1] t1)) #[v2] t2 0
  simp

theorem Remove_calls (p mb : Nat) (d : Dk) (w : World) (hd : DiskAt w p mb d) (hS : Sane d) (s : Bs) (hn : nameOk s = true) (hoff : d.off = false) (hf : (d.files s).isSome = true) :
    Calls Tryz.prog 150 #[.pointer (some ⟨p, 0, none⟩), .string (mk s)] w (WritePost p mb d (-(costOf d s : Int)) { spent d (-(costOf d s : Int)) with files := updF d.files s none } w) := by
  have hsn := ((nameOk_iff s).1 hn).2.1
  have h1 := hS.f1
  have h2 := hS.f2
  have h3 := hS.l1
  have h4 := hS.l2
  have hpl := hd.lt
  have hco : costOf d s ≤ 140737488355328 := by
    unfold costOf
    cases he : d.files s with
    | none => simp
    | some b => have := hd.small s b he; simp; omega
  have hFW : Fr [] w ((w.alloc (.cells #[.pointer (some ⟨p, 0, none⟩)] 45)).alloc (.cells #[.string (mk s)] 9)) := ((Fr.refl _ _).alloc _).alloc _
  have k3 := cell_two0 w (.pointer (some ⟨p, 0, none⟩)) (.string (mk s)) 45 9
  have k4 := cell_two1 w (.pointer (some ⟨p, 0, none⟩)) (.string (mk s)) 45 9
  go_enter Tryz.func150, Tryz.ntmps150
  go_wp2_with fail
  generalize (w.alloc (.cells #[.pointer (some ⟨p, 0, none⟩)] 45)).alloc (.cells #[.string (mk s)] 9) = W at *
  have hdW := hd.fr0 hFW
  have HT := there_calls p mb d s (.slice none 0 0) [] W hdW (World.ownsRow_nil _ _ _ _) (by omega) (by simp) (by simp)
  rw [thereOf_ok d s [] (by simpa using hn) hoff hf] at HT
  refine HT.mono ?_
  rintro e w1 ⟨rfl, hF⟩
  have hF : Fr [] W w1 := hF
  have hd1 := hdW.fr0 hF
  have hF1 := hFW.trans0 hF
  have k3' := hF.cell k3 (by simp)
  have k4' := hF.cell k4 (by simp)
  clear HT k3 k4 hdW hFW hF
  have HS : Hid (∀ k, Calls Tryz.prog 212 #[.pointer (some ⟨p, 0, none⟩), .int .i64 (-(costOf d s : Int)), .func (.func 214) #[] #[.pointer (some ⟨w.heap.size, 0, none⟩), .pointer (some ⟨w.heap.size + 1, 0, none⟩)]] (w1.drewN k)
      (WritePost p mb d (-(costOf d s : Int)) { spent d (-(costOf d s : Int)) with files := updF d.files s none } w1)) := by
    intro k
    have hFd : Fr [] w1 (w1.drewN k) := (Fr.refl _ _).drewN k
    refine (spend_calls p mb d (w1.drewN k) (hd1.fr0 hFd) (-(costOf d s : Int)) (by omega) (by omega) (by omega) (by omega) (by omega) (by omega) 214 (enters_of Tryz.func214 (by kernel_rfl) rfl) _ (fun w' => DiskAt w' p mb { spent d (-(costOf d s : Int)) with files := updF d.files s none } ∧ Fr [p, mb] w1 w') ?_).mono ?_
    · intro w2 hd2 hF2
      have hF2' := hFd.weaken (G := [p]) (by simp) |>.trans hF2 (by simp)
      refine (remove1_calls p mb _ w2 hd2 _ _ s (hF2'.cell k3' (by simp; omega)) (hF2'.cell k4' (by simp; omega)) (by omega)).mono ?_
      rintro e w3 ⟨rfl, hd3, hF3⟩
      exact ⟨rfl, hd3, (hF2'.weaken (G := [p, mb]) (by simp)).trans (hF3.weaken (G := [p, mb]) (by simp)) (by simp)⟩
    · intro e w2 hP
      exact WritePost.of_spend hFd hP
  have HCo : Hid (∀ k, Calls Tryz.prog 213 #[.pointer (some ⟨p, 0, none⟩), .string (mk s)] (w1.drewN k) fun e w' => e = .returned (.int .i64 (costOf d s)) ∧ w' = w1.drewN k) :=
    fun k => cost_calls p mb d s (w1.drewN k) (hd1.fr0 ((Fr.refl _ _).drewN k)) (by omega)
  have hne3 : w.heap.size ∉ [p, mb] := by
    have := hd1.ne_map k3'
    simp at this ⊢; omega
  have hne4 : w.heap.size + 1 ∉ [p, mb] := by
    have := hd1.ne_map k4'
    simp at this ⊢; omega
  generalize costOf d s = co at *
  have hneg : IntKind.i64.wrap (-(co : Int)) = -(co : Int) := by rw [IntKind.wrap_i64]; omega
  go_wp2_with fail
  go_region_held3 (fun w' => w'.cell? ⟨w.heap.size, 0, none⟩ = some (.pointer (some ⟨p, 0, none⟩)) ∧ w'.cell? ⟨w.heap.size + 1, 0, none⟩ = some (.string (mk s))) (first | go_keep | exact ⟨HP.out.frame.cell k3' hne3, HP.out.frame.cell k4' hne4⟩)
    (first | (go_at_call 213; refine (HCo.out 1).mono ?_; rintro e w2 ⟨rfl, rfl⟩) | (go_at_call 212; refine (HS.out 1).mono ?_; rintro e w2 hP; have HP := Lib.hid hP; clear hP; obtain ⟨r, rfl⟩ := HP.out.code))
  all_goals
    go_wp2_with fail
    go_ret
    exact WritePost.from hF1 HP.out
end Go.Proofs.YtjelehcnpocnoaaGreatDoor
/- Layer 4, disk: Rename, New, Names. -/
namespace Go.Proofs.YtjelehcnpocnoaaGreatDoor
set_option linter.unusedSimpArgs false
set_option linter.unusedVariables false
set_option linter.unnecessarySimpa false
open Go.RowKit
set_option maxRecDepth 100000
set_option maxHeartbeats 2000000

theorem rename1_calls (p mb : Nat) (d : Dk) (w : World) (hd : DiskAt w p mb d) (bd bf bt : Nat) (s t : Bs) (b : Bs) (c3 : w.cell? ⟨bd, 0, none⟩ = some (.pointer (some ⟨p, 0, none⟩))) (c4 : w.cell? ⟨bf, 0, none⟩ = some (.string (mk s))) (c5 : w.cell? ⟨bt, 0, none⟩ = some (.string (mk t)))
    (hs : s.length ≤ 1048576) (ht : t.length ≤ 1048576) (hf : d.files s = some b) (hn : d.puts < 4611686018427387904) :
    Calls Tryz.prog 220 #[.pointer (some ⟨bd, 0, none⟩), .pointer (some ⟨bf, 0, none⟩), .pointer (some ⟨bt, 0, none⟩)] w fun e w' => e = .returned (.tuple #[]) ∧ DiskAt w' p mb { d with files := updF (updF d.files s none) t (some b), puts := d.puts + 1 } ∧ Fr [mb] w w' := by
  have cm := hd.cmap
  have hbl := hd.small s b hf
  obtain ⟨f, hm, h2⟩ := hd.map
  have h2s := h2 s
  rw [hf] at h2s
  obtain ⟨v, hv, hsl⟩ := h2s
  have hg : ∀ k, (Instr.lookup 80 (.map (some mb)) (.string (mk s)) false).run Tryz.prog (w.drewN k) = .ok v (w.drewN k) := fun k => by
    have := (hm.fr ((Fr.refl [] w).drewN k) (by simp)).get u_string u_files z_bytes s (by simp only [maxLen]; omega)
    rw [hv] at this; exact this
  obtain ⟨a, k, rfl, hk1, hk2⟩ := hsl.shape
  clear h2 hv
  go_enter Tryz.func220, Tryz.ntmps220
  go_wp2_with fail
  go_quiet (fail)
  clear hg
  rename_i nq
  have hF1 : Fr [] w (w.drewN nq) := (Fr.refl _ _).drewN nq
  have c3' := hF1.cell c3 (by simp)
  have c4' := hF1.cell c4 (by simp)
  have c5' := hF1.cell c5 (by simp)
  have hd1 := hd.fr0 hF1
  have hsl1 := hsl.fr0 hF1
  have cm1 := hd1.cmap
  clear c3 c4 c5 cm
  generalize w.drewN nq = w1 at *
  obtain ⟨w3, hr3, hd3, hF3⟩ := disk_del (hd1.fr0 (Fr.refl [] w1).drew) s (by omega) 0
  have hF3' : Fr [mb] w1 w3 := ((Fr.refl _ _).drew).trans hF3 (by simp)
  have d3 := hF3'.cell c3' (hd1.ne_map c3')
  have d4 := hF3'.cell c4' (hd1.ne_map c4')
  have d5 := hF3'.cell c5' (hd1.ne_map c5')
  have dm := hF3'.cell cm1 (hd1.ne_map cm1)
  go_wp2_with fail
  go_region_held3 (fun w' => w'.cell? ⟨bd, 0, none⟩ = some (.pointer (some ⟨p, 0, none⟩)) ∧ w'.cell? ⟨bf, 0, none⟩ = some (.string (mk s)) ∧ w'.cell? ⟨p, 1, none⟩ = some (.map (some mb))) (first | go_keep | exact ⟨d3, d4, dm⟩) (fail)
  have hsl3 : Sl w3 5 1 (.slice a b.length k) b.length (b.map bv) := hsl1.fr hF3' (let ⟨_, h, _⟩ := hd1.map; h.off _)
  obtain ⟨w4, hr4, hd4, hF4⟩ := disk_put (hd3.fr0 (Fr.refl [] w3).drew) t (by omega) b _ (hsl3.fr0 (Fr.refl [] w3).drew) hbl hn
  have hF4' : Fr [mb] w3 w4 := ((Fr.refl _ _).drew).trans hF4 (by simp)
  have e3 := hF4'.cell d3 (hd3.ne_map d3)
  have e5 := hF4'.cell d5 (hd3.ne_map d5)
  have em := hF4'.cell dm (hd3.ne_map dm)
  clear hr3
  go_wp2_with fail
  go_region_held3 (fun w' => w'.cell? ⟨bd, 0, none⟩ = some (.pointer (some ⟨p, 0, none⟩)) ∧ w'.cell? ⟨bt, 0, none⟩ = some (.string (mk t)) ∧ w'.cell? ⟨p, 1, none⟩ = some (.map (some mb))) (first | go_keep | exact ⟨e3, e5, em⟩) (fail)
  all_goals
    go_wp2_with fail
    go_end0
    exact ⟨rfl, hd4, ((hF1.weaken (by simp)).trans hF3' (by simp)).trans hF4' (by simp)⟩

theorem mk_toList (s : Bs) : (mk s).toList = s := by rw [ByteArray.toList_eq]; exact bl_mk s
theorem mk_inj {s t : Bs} (h : mk s = mk t) : s = t := by
  have := congrArg bl h
  simpa [bl_mk] using this
def renameMore (d : Dk) (s t : Bs) : Int := t.length - s.length - costOf d t
theorem Rename_calls (p mb : Nat) (d : Dk) (w : World) (hd : DiskAt w p mb d) (hS : Sane d) (s t : Bs) (b : Bs) (hn : nameOk s = true) (hnt : nameOk t = true) (hst : s ≠ t) (hoff : d.off = false) (hf : d.files s = some b) :
    Calls Tryz.prog 156 #[.pointer (some ⟨p, 0, none⟩), .string (mk s), .string (mk t)] w (WritePost p mb d (renameMore d s t) { spent d (renameMore d s t) with files := updF (updF d.files s none) t (some b), puts := d.puts + 1 } w) := by
  have hsn := ((nameOk_iff s).1 hn).2.1
  have htn := ((nameOk_iff t).1 hnt).2.1
  have hz1 := mk_size s
  have hz2 := mk_size t
  have h1 := hS.f1
  have h2 := hS.f2
  have h3 := hS.l1
  have h4 := hS.l2
  have hpl := hd.lt
  have hco : costOf d t ≤ 140737488355328 := by
    unfold costOf
    cases he : d.files t with
    | none => simp
    | some b => have := hd.small t b he; simp; omega
  go_enter Tryz.func156, Tryz.ntmps156
  go_wp2_with fail
  generalize hW : (((w.alloc (.cells #[.pointer (some ⟨p, 0, none⟩)] 45)).alloc (.cells #[.string (mk s)] 9)).alloc (.cells #[.string (mk t)] 9)).alloc (.cells #[.string (mk t)] 9) = W
  have hFW : Fr [] w W := by rw [← hW]; exact ((((Fr.refl _ _).alloc _).alloc _).alloc _).alloc _
  have how : W.ownsRow 0 9 1 (.slice (some ⟨w.heap.size + 1 + 1 + 1, 0, none⟩) 1 1) [t].length ([t].map sv) := by
    have := World.ownsRow_lit (base := 0) (e := 9) (size := 1) (((w.alloc (.cells #[.pointer (some ⟨p, 0, none⟩)] 45)).alloc (.cells #[.string (mk s)] 9)).alloc (.cells #[.string (mk t)] 9)) #[.string (mk t)] 1 (Nat.zero_le _) (by simp only [maxLen]; omega) rfl
    rw [hW] at this
    simpa [sv] using this
  have k3 : W.cell? ⟨w.heap.size, 0, none⟩ = some (.pointer (some ⟨p, 0, none⟩)) := by rw [← hW]; exact (((Fr.refl [] _).alloc _).alloc _ |>.alloc _).cell (World.cell?_alloc_new w #[_] _ 0) (by simp)
  have k4 : W.cell? ⟨w.heap.size + 1, 0, none⟩ = some (.string (mk s)) := by
    have := (((Fr.refl [] _).alloc (.cells #[.string (mk t)] 9)).alloc (.cells #[.string (mk t)] 9)).cell (World.cell?_alloc_new (w.alloc (.cells #[.pointer (some ⟨p, 0, none⟩)] 45)) #[.string (mk s)] 9 0) (by simp)
    rw [← hW]; simpa using this
  have k5 : W.cell? ⟨w.heap.size + 1 + 1, 0, none⟩ = some (.string (mk t)) := by
    have := ((Fr.refl [] _).alloc (.cells #[.string (mk t)] 9)).cell (World.cell?_alloc_new ((w.alloc (.cells #[.pointer (some ⟨p, 0, none⟩)] 45)).alloc (.cells #[.string (mk s)] 9)) #[.string (mk t)] 9 0) (by simp)
    rw [← hW]; simpa using this
  clear hW
  have hdW := hd.fr0 hFW
  have HT := there_calls p mb d s _ [t] W hdW how (by omega) (by simp; omega) (by simp)
  rw [thereOf_ok d s [t] (by simp [hn, hnt]) hoff (by rw [hf]; rfl)] at HT
  refine HT.mono ?_
  rintro e w1 ⟨rfl, hF⟩
  have hF : Fr [w.heap.size + 1 + 1 + 1] W w1 := hF
  have hd1 : DiskAt w1 p mb d := hdW.fr hF (by simp; omega) (by have := hd.mlt; simp; omega) (own_off how (by decide))
  have k3' := hF.cell k3 (by simp; omega)
  have k4' := hF.cell k4 (by simp)
  have k5' := hF.cell k5 (by simp)
  have hF1 : Fr [] w w1 := hFW.trans hF (by simp; omega)
  clear HT k3 k4 k5 hdW hFW hF how
  have HS : Hid (Calls Tryz.prog 212 #[.pointer (some ⟨p, 0, none⟩), .int .i64 (renameMore d s t), .func (.func 220) #[] #[.pointer (some ⟨w.heap.size, 0, none⟩), .pointer (some ⟨w.heap.size + 1, 0, none⟩), .pointer (some ⟨w.heap.size + 1 + 1, 0, none⟩)]] w1
      (WritePost p mb d (renameMore d s t) { spent d (renameMore d s t) with files := updF (updF d.files s none) t (some b), puts := d.puts + 1 } w)) := by
    have hrm : renameMore d s t = t.length - s.length - costOf d t := rfl
    refine (spend_calls p mb d w1 hd1 (renameMore d s t) (by omega) (by omega) (by omega) (by omega) (by omega) (by omega) 220 (enters_of Tryz.func220 (by kernel_rfl) rfl) _ (fun w' => DiskAt w' p mb { spent d (renameMore d s t) with files := updF (updF d.files s none) t (some b), puts := d.puts + 1 } ∧ Fr [p, mb] w w') ?_).mono ?_
    · intro w2 hd2 hF2
      refine (rename1_calls p mb _ w2 hd2 _ _ _ s t b (hF2.cell k3' (by simp; omega)) (hF2.cell k4' (by simp; omega)) (hF2.cell k5' (by simp; omega)) (by omega) (by omega) (by simpa [spent] using hf) (by simpa [spent] using hS.n)).mono ?_
      rintro e w3 ⟨rfl, hd3, hF3⟩
      exact ⟨rfl, hd3, ((hF1.weaken (by simp)).trans (hF2.weaken (G := [p, mb]) (by simp)) (by simp)).trans (hF3.weaken (G := [p, mb]) (by simp)) (by simp)⟩
    · intro e w2 hP
      exact WritePost.of_spend hF1 hP
  have HCo : Calls Tryz.prog 213 #[.pointer (some ⟨p, 0, none⟩), .string (mk t)] w1 fun e w' => e = .returned (.int .i64 (costOf d t)) ∧ w' = w1 := cost_calls p mb d t w1 hd1 (by omega)
  have HRM : Hid (renameMore d s t = t.length - s.length - costOf d t) := rfl
  have q1 := mk_toList s
  have q2 := mk_toList t
  have hne1 : (s == t) = false := by simpa using hst
  generalize costOf d t = co at *
  have e1 : IntKind.i64.wrap ((t.length : Int) - s.length) = t.length - s.length := by rw [IntKind.wrap_i64]; omega
  have e2 : IntKind.i64.wrap ((t.length : Int) - s.length - co) = t.length - s.length - co := by rw [IntKind.wrap_i64]; omega
  rw [HRM.out] at HS ⊢
  go_wp2_with fail
  · refine HCo.mono ?_
    rintro e w2 ⟨rfl, rfl⟩
    go_wp2_with fail
    refine HS.out.mono ?_
    rintro e w3 hP
    have HP := Lib.hid hP
    clear hP
    obtain ⟨r, rfl⟩ := HP.out.code
    go_wp2_with fail
    go_ret
    rw [HRM.out]
    exact HP.out

def newDk (n : Nat) : Dk := { files := fun _ => none, cap := n, free := n, left := -1, off := false, puts := 0 }
theorem NewDisk_calls (n : Nat) (w : World) (hn : n ≤ 1099511627776) :
    Calls Tryz.prog 14 #[.int .i64 n] w fun e w' => ∃ p mb, e = .returned (.tuple #[.pointer (some ⟨p, 0, none⟩), .int .i64 0]) ∧ w.heap.size ≤ p ∧ w.heap.size ≤ mb ∧ DiskAt w' p mb (newDk n) ∧ Fr [] w w' := by
  have hmm := @run_makeMap Tryz.prog
  have b1 : decide ((n : Int) < 0) = false := by simp
  have b2 : decide (1099511627776 < (n : Int)) = false := by simp; omega
  go_enter Tryz.func14, Tryz.ntmps14
  go_wp2_with fail
  have hmap : MapAt Tryz.prog 9 (w.alloc (.map #[] 0)) w.heap.size 0 (fun _ => none) := MapAt.made _ _ _
  have hsz : (w.alloc (.map #[] 0)).heap.size = w.heap.size + 1 := by simp
  have hF1 : Fr [] w (w.alloc (.map #[] 0)) := (Fr.refl _ _).alloc _
  generalize hgw : w.alloc (.map #[] 0) = w1 at *
  have hn1 := heap_alloc_new w1 (.cells #[.int .i64 (n : Int), .map (some w.heap.size), .int .i64 (n : Int), .int .i64 0, .int .i64 (-1), .bool false] 87)
  have hF2 := (Fr.refl [] w1).alloc (.cells #[.int .i64 (n : Int), .map (some w.heap.size), .int .i64 (n : Int), .int .i64 0, .int .i64 (-1), .bool false] 87)
  generalize w1.alloc (.cells #[.int .i64 (n : Int), .map (some w.heap.size), .int .i64 (n : Int), .int .i64 0, .int .i64 (-1), .bool false] 87) = w2 at *
  rw [hsz] at hn1
  refine bodyPost_ret (v := .tuple #[.pointer (some ⟨w.heap.size + 1, 0, none⟩), .int .i64 0]) (by simp [results, Tryz.results14, go_sem]) rfl ⟨w.heap.size + 1, w.heap.size, rfl, by omega, Nat.le_refl _, ?_, hF1.trans0 hF2⟩
  refine ⟨?_, ?_, ?_, ⟨0, ?_⟩, ?_, ?_, ?_, ⟨_, hn1⟩, ?_, _, hmap.fr hF2 (by simp), fun s => rfl⟩
  · simp only [World.cell?, hn1]; rfl
  · simp only [World.cell?, hn1]; rfl
  · simp only [World.cell?, hn1]; rfl
  · simp only [World.cell?, hn1]; rfl
  · simp only [World.cell?, hn1]; rfl
  · simp only [World.cell?, hn1]; rfl
  · intro o; simp only [World.frozen?, hn1]; simp
  · intro s b h; cases h
end Go.Proofs.YtjelehcnpocnoaaGreatDoor
/- Layer 6, objects: what a name within a tree may be. -/
namespace Go.Proofs.YtjelehcnpocnoaaGreatDoor
set_option linter.unusedSimpArgs false
set_option linter.unusedVariables false
set_option linter.unnecessarySimpa false
open Go.RowKit
set_option maxRecDepth 100000
set_option maxHeartbeats 4000000

def partOk (s : Bs) : Bool := decide (1 ≤ s.length) && decide (s.length ≤ 100) && !s.contains 47 && !s.contains 0 && !(s == [46]) && !(s == [46, 46])
theorem partOk_iff (s : Bs) : partOk s = true ↔ 1 ≤ s.length ∧ s.length ≤ 100 ∧ 47 ∉ s ∧ 0 ∉ s ∧ s ≠ [46] ∧ s ≠ [46, 46] := by
  simp [partOk, and_assoc]
theorem index_cases (s : Bs) (c : UInt8) : (Lib.indexByte s c = -1 ∧ c ∉ s) ∨ (∃ o : Nat, Lib.indexByte s c = o ∧ c ∈ s) := by
  have h := Lib.indexByte_ge s c
  by_cases hi : Lib.indexByte s c = -1
  · refine .inl ⟨hi, fun h => ?_⟩
    obtain ⟨k, hk⟩ := List.getElem?_of_mem h
    exact Lib.indexByte_none hi k hk
  · obtain ⟨o, ho⟩ := Int.eq_ofNat_of_zero_le (show 0 ≤ Lib.indexByte s c by omega)
    exact .inr ⟨o, ho, List.mem_of_getElem? (Lib.indexByte_some ho).1⟩
theorem isId_calls (s : Bs) (w : World) (hs : s.length ≤ 140737488355328) :
    Calls Tryz.prog 294 #[.string (mk s)] w fun e w' => e = .returned (.bool (decide (s.length = 32))) ∧ w' = w := by
  have hz := mk_size s
  have hb : ((s.length : Int) == 32) = decide (s.length = 32) := by
    by_cases h : s.length = 32
    · simp [h]
    · simp only [h, decide_false, beq_eq_false_iff_ne]; omega
  go_enter Tryz.func294, Tryz.ntmps294
  go_wp2_with fail
  go_ret
  exact ⟨by simp [hb], rfl⟩
theorem Part_calls (s : Bs) (w : World) (hs : s.length ≤ 140737488355328) :
    Calls Tryz.prog 50 #[.string (mk s)] w fun e w' => e = .returned (.bool (partOk s)) ∧ w' = w := by
  have hz := mk_size s
  have hb0 : (mk s).data.toList = s := bl_mk s
  have hc1 : (47 : Int).toNat.toUInt8 = 47 := rfl
  have hc2 : (0 : Int).toNat.toUInt8 = 0 := rfl
  have q1 := mk_toList s
  have q2 : (⟨#[46]⟩ : ByteArray).toList = [46] := mk_toList [46]
  have q3 : (⟨#[46, 46]⟩ : ByteArray).toList = [46, 46] := mk_toList [46, 46]
  by_cases h1 : 1 ≤ s.length
  · have b1 : decide ((1 : Int) ≤ s.length) = true := by simp; omega
    have i1 : (1 : Int) ≤ s.length := by omega
    by_cases h2 : s.length ≤ 100
    · have b2 : decide ((s.length : Int) ≤ 100) = true := by simp; omega
      have i2 : (s.length : Int) ≤ 100 := by omega
      have HI1 := Lib.hid (index_cases s 47)
      have HI2 := Lib.hid (index_cases s 0)
      go_enter Tryz.func50, Tryz.ntmps50
      go_wp2_with fail
      refine (Tryz.strings_IndexByte (mk s) 47 w).mono ?_
      rintro e w1 ⟨rfl, rfl⟩
      rw [hb0, hc1]
      rcases HI1.out with ⟨hi, hx⟩ | ⟨o, hi, hx⟩
      · rw [hi]
        have HX := Lib.hid hx
        clear hi hx HI1
        go_wp2_with fail
        refine (Tryz.strings_IndexByte (mk s) 0 w1).mono ?_
        rintro e w2 ⟨rfl, rfl⟩
        rw [hb0, hc2]
        rcases HI2.out with ⟨hi, hx⟩ | ⟨o, hi, hx⟩
        · rw [hi]
          have HX2 := Lib.hid hx
          clear hi hx HI2
          by_cases h5 : s = [46]
          · have b5 : (s == [46]) = true := by simpa using h5
            have hp : partOk s = false := by rw [Bool.eq_false_iff]; intro h; exact ((partOk_iff s).1 h).2.2.2.2.1 h5
            have HPo := Lib.hid hp
            clear hp h5
            go_wp2_with fail
            go_ret
            exact ⟨by rw [HPo.out]; rfl, rfl⟩
          · have b5 : (s == [46]) = false := by simpa using h5
            by_cases h6 : s = [46, 46]
            · have b6 : (s == [46, 46]) = true := by simpa using h6
              have hp : partOk s = false := by rw [Bool.eq_false_iff]; intro h; exact ((partOk_iff s).1 h).2.2.2.2.2 h6
              have HPo := Lib.hid hp
              clear hp h6
              go_wp2_with fail
              go_ret
              exact ⟨by rw [HPo.out]; rfl, rfl⟩
            · have b6 : (s == [46, 46]) = false := by simpa using h6
              have hp : partOk s = true := (partOk_iff s).2 ⟨h1, h2, HX.out, HX2.out, h5, h6⟩
              have HPo := Lib.hid hp
              clear hp h6 h5
              go_wp2_with fail
              go_ret
              exact ⟨by rw [HPo.out]; rfl, rfl⟩
        · rw [hi]
          have hp : partOk s = false := by rw [Bool.eq_false_iff]; intro h; exact ((partOk_iff s).1 h).2.2.2.1 hx
          have HPo := Lib.hid hp
          clear hp hi hx
          go_wp2_with fail
          go_ret
          exact ⟨by rw [HPo.out]; rfl, rfl⟩
      · rw [hi]
        have hp : partOk s = false := by rw [Bool.eq_false_iff]; intro h; exact ((partOk_iff s).1 h).2.2.1 hx
        have HPo := Lib.hid hp
        clear hp hi hx
        go_wp2_with fail
        go_ret
        exact ⟨by rw [HPo.out]; rfl, rfl⟩
    · have b2 : decide ((s.length : Int) ≤ 100) = false := by simp; omega
      have i2 : (100 : Int) < s.length := by omega
      have hp : partOk s = false := by rw [Bool.eq_false_iff]; intro h; exact h2 ((partOk_iff s).1 h).2.1
      have HPo := Lib.hid hp
      clear hp
      go_enter Tryz.func50, Tryz.ntmps50
      go_wp2_with fail
      go_ret
      exact ⟨by rw [HPo.out]; rfl, rfl⟩
  · have b1 : decide ((1 : Int) ≤ s.length) = false := by simp; omega
    have i1 : (s.length : Int) < 1 := by omega
    have hp : partOk s = false := by rw [Bool.eq_false_iff]; intro h; exact h1 ((partOk_iff s).1 h).1
    have HPo := Lib.hid hp
    clear hp
    go_enter Tryz.func50, Tryz.ntmps50
    go_wp2_with fail
    go_ret
    exact ⟨by rw [HPo.out]; rfl, rfl⟩
end Go.Proofs.YtjelehcnpocnoaaGreatDoor
/- Layer 6, objects: a tree's entries; its bytes. -/
namespace Go.Proofs.YtjelehcnpocnoaaGreatDoor
set_option linter.unusedSimpArgs false
set_option linter.unusedVariables false
set_option linter.unnecessarySimpa false
open Go.RowKit
set_option maxRecDepth 100000
set_option maxHeartbeats 4000000

structure Ent where
  name : Bs
  dir : Bool
  id : Bs
deriving DecidableEq
def ev (e : Ent) : List Value := [.string (mk e.name), .bool e.dir, .string (mk e.id)]
def evs (l : List Ent) : List Value := l.flatMap ev
theorem evs_length (l : List Ent) : (evs l).length = l.length * 3 := by
  induction l with
  | nil => rfl
  | cons x l ih => simp only [evs, List.flatMap_cons, List.length_append] at *; rw [ih]; simp [ev]; omega
theorem evs_get : ∀ (l : List Ent) (j : Nat) (e : Ent), l[j]? = some e → (evs l)[j * 3]? = some (.string (mk e.name)) ∧ (evs l)[j * 3 + 1]? = some (.bool e.dir) ∧ (evs l)[j * 3 + 2]? = some (.string (mk e.id))
  | [], j, e, h => by simp at h
  | x :: l, 0, e, h => by
    obtain rfl : x = e := by simpa using h
    simp [evs, ev]
  | x :: l, j + 1, e, h => by
    have := evs_get l j e (by simpa using h)
    have hs : evs (x :: l) = ev x ++ evs l := rfl
    rw [hs]
    have h3 : (ev x).length = 3 := rfl
    rw [List.getElem?_append_right (by omega), List.getElem?_append_right (by omega), List.getElem?_append_right (by omega), h3]
    rw [show (j + 1) * 3 - 3 = j * 3 by omega, show (j + 1) * 3 + 1 - 3 = j * 3 + 1 by omega, show (j + 1) * 3 + 2 - 3 = j * 3 + 2 by omega]
    exact this
/-- A slice of entries. -/
abbrev Es (w : World) (v : Value) (l : List Ent) : Prop := Sl w 70 3 v l.length (evs l)
theorem Es.open3 {w : World} {v : Value} {l : List Ent} (h : Es w v l) : ∃ a c, v = .slice a l.length c ∧ l.length ≤ c ∧ c ≤ 9223372036854775807 ∧ (0 < l.length → ∃ b o, a = some ⟨b, o, none⟩ ∧
    ∀ j e, l[j]? = some e → w.cell? ⟨b, o + j * 3, none⟩ = some (.string (mk e.name)) ∧ w.cell? ⟨b, o + j * 3 + 1, none⟩ = some (.bool e.dir) ∧ w.cell? ⟨b, o + j * 3 + 2, none⟩ = some (.string (mk e.id))) := by
  obtain ⟨h1, a, c, rfl, h2, h3, h4, h5⟩ := h
  refine ⟨a, c, rfl, h2, by simp only [maxLen] at h3; omega, fun hn => ?_⟩
  obtain ⟨b, o, cs, fr, rfl, hb, hc⟩ := h5 hn
  refine ⟨b, o, rfl, fun j e he => ?_⟩
  obtain ⟨g1, g2, g3⟩ := evs_get l j e he
  refine ⟨?_, ?_, ?_⟩
  · simp [World.cell?, hb, hc _ _ g1]
  · have := hc _ _ g2
    rw [← Nat.add_assoc] at this
    simp [World.cell?, hb, this]
  · have := hc _ _ g3
    rw [← Nat.add_assoc] at this
    simp [World.cell?, hb, this]
def encEnt (e : Ent) : Bs := putText e.name ++ [if e.dir then 1 else 0] ++ e.id
def encEnts (l : List Ent) : Bs := l.flatMap encEnt
def entLe (e : Ent) : Prop := e.name.length ≤ 100 ∧ e.id.length = 32
theorem encEnt_len (e : Ent) (h : entLe e) : (encEnt e).length ≤ 150 := by
  have := putNum_len9 (n := e.name.length) (by unfold mostNum; have := h.1; omega)
  have h1 := h.1
  have h2 := h.2
  simp [encEnt, putText]
  omega
theorem encEnts_len (l : List Ent) (h : ∀ e ∈ l, entLe e) : (encEnts l).length ≤ 150 * l.length := by
  induction l with
  | nil => simp [encEnts]
  | cons x l ih =>
    have h1 := encEnt_len x (h x (by simp))
    have h2 := ih (fun e he => h e (by simp [he]))
    simp only [encEnts, List.flatMap_cons, List.length_append, List.length_cons] at *
    omega
theorem lay_calls (vx vb : Value) (l : List Ent) (b : Bs) (w : World) (hx : Es w vx l) (hl : ∀ e ∈ l, entLe e) (hn : l.length ≤ 1000000) (hb : Sl w 5 1 vb b.length (b.map bv)) (hbl : b.length ≤ 1000) :
    Calls Tryz.prog 291 #[.agg #[vx], vb] w fun e w' => ∃ v', e = .returned v' ∧ w'.ownsRow w.heap.size 5 1 v' (b ++ putNum l.length ++ encEnts l).length ((b ++ putNum l.length ++ encEnts l).map bv) ∧ Fr [] w w' := by
  obtain ⟨a, c, rfl, h3, h4, hc⟩ := Es.open3 hx
  have HP := Lib.hid (fun W (hW : Fr [] w W) => PutNum_calls vb b (l.length : Int) W (hb.fr0 hW) (by omega) (by omega) (by omega))
  rw [Int.toNat_natCast] at HP
  go_enter Tryz.func291, Tryz.ntmps291
  go_wp2_with fail
  refine (HP.out _ ((Fr.refl _ _).alloc _)).mono ?_
  rintro e w1 ⟨v1, rfl, ho1, hF1⟩
  have kx := hF1.cell (World.cell?_alloc_new w #[.slice a l.length c] 219 0) (by simp)
  have hFw : Fr [] w w1 := (((Fr.refl [] w).alloc (.cells #[.slice a l.length c] 219)).trans0 hF1)
  have ho1' := own_base ho1 (show w.heap.size ≤ _ by simp)
  clear ho1 hF1 HP
  go_wp2_with fail
  go_loopw [1, 15] (fun v i wr => ∃ k : Nat, i = .int .i64 k ∧ k ≤ l.length ∧ wr.ownsRow w.heap.size 5 1 v (b ++ putNum l.length ++ encEnts (l.take k)).length ((b ++ putNum l.length ++ encEnts (l.take k)).map bv) ∧ Fr [] w wr) (fun v i _ => l.length - (intOf i).toNat)
  case atStart => exact ⟨0, rfl, by omega, by simpa [encEnts] using ho1', hFw⟩
  case round =>
    obtain ⟨k, rfl, hk, ho, hF⟩ := hrel
    rename_i v _
    by_cases hlt : k < l.length
    · obtain ⟨g, o, rfl, hcell⟩ := hc (by omega)
      have hg := List.getElem?_eq_getElem hlt
      have hle := hl _ (List.getElem_mem hlt)
      obtain ⟨x1, x2, x3⟩ := hcell k _ hg
      have hen : encEnts (l.take (k + 1)) = encEnts (l.take k) ++ encEnt l[k] := by
        rw [List.take_add_one, hg]
        show encEnts (l.take k ++ [l[k]]) = _
        simp only [encEnts, List.flatMap_append, List.flatMap_cons, List.flatMap_nil, List.append_nil]
      have HEN := Lib.hid hen
      have hlen : (b ++ putNum l.length ++ encEnts (l.take k)).length ≤ 1009 + 150 * l.length := by
        have h1 := encEnts_len (l.take k) (fun e he => hl e (List.mem_of_mem_take he))
        have h2 := putNum_len9 (n := l.length) (by unfold mostNum; omega)
        simp only [List.length_append, List.length_take] at *
        omega
      have HLE := Lib.hid hle
      generalize l[k] = e at *
      obtain ⟨nm, dr, idn⟩ := e
      simp only at x1 x2 x3
      have y1 := hF.cell x1 (by simp)
      have y2 := hF.cell x2 (by simp)
      have y3 := hF.cell x3 (by simp)
      have b1 : decide ((k : Int) < l.length) = true := by simp; omega
      have i1 : (k : Int) < l.length := by omega
      have e1 : IntKind.i64.wrap ((k : Int) + 1) = (k : Int) + 1 := by rw [IntKind.wrap_i64]; omega
      generalize hout : b ++ putNum l.length ++ encEnts (l.take k) = out at *
      clear hcell x1 x2 x3 hc hen hg hle ho1'
      obtain ⟨i0, hi, hz0, hz1, hz2⟩ := info_parts i_byte
      have hnl : nm.length ≤ 100 := HLE.out.1
      have hil : idn.length = 32 := HLE.out.2
      have hFc : Fr [] wr (wr.alloc (.cells #[.string (mk nm), .bool dr, .string (mk idn)] 70)) := (Fr.refl _ _).alloc _
      have nz := World.cell?_alloc_new wr #[.string (mk nm), .bool dr, .string (mk idn)] 70 0
      have n0 := World.cell?_alloc_new wr #[.string (mk nm), .bool dr, .string (mk idn)] 70 1
      have n1 := World.cell?_alloc_new wr #[.string (mk nm), .bool dr, .string (mk idn)] 70 2
      have hrC := heap_alloc_new wr (.cells #[.string (mk nm), .bool dr, .string (mk idn)] 70 (0, 0))
      generalize hWc : wr.alloc (.cells #[.string (mk nm), .bool dr, .string (mk idn)] 70) = WC at *
      have HPT := Lib.hid (PutText_calls u1 (mk nm) out WC (Sl.of_own (own_fr ho hFc (off_nil _ _))) (by omega) (by rw [mk_size]; omega))
      rw [bl_mk] at HPT
      have hpt : (out ++ putText nm).length ≤ out.length + 109 := by have := putNum_len9 (n := nm.length) (by unfold mostNum; omega); simp [putText]; omega
      have hsC : wr.heap.size ≤ WC.heap.size := hFc.size
      go_wp2_with fail
      refine HPT.out.mono ?_
      rintro e w2 ⟨v2, rfl, ho2, hF2⟩
      have m1 := hF2.cell n0 (by simp)
      have m2 := hF2.cell n1 (by simp)
      generalize hout2 : out ++ putText nm = out2 at *
      have hb2 : w.heap.size ≤ WC.heap.size := Nat.le_trans hF.size hsC
      have hb3 : w.heap.size ≤ w2.heap.size := Nat.le_trans hb2 hF2.size
      have ho2' := own_base ho2 hb2
      clear ho2 HPT
      have hre : ∃ cs, w2.heap[wr.heap.size]? = some (.cells cs 70 (0, 0)) := ⟨#[.string (mk nm), .bool dr, .string (mk idn)], hF2.block hrC (by simp)⟩
      cases dr
      · go_wp2_with (at_builtin; refine wpl_app w.heap.size rfl _ _ 60 5 (.int .u8 0) 1 1 rfl u_bytes i_byte rfl (by decide) v2 _ _ rfl (own_fr ho2' ((Fr.refl [] _).alloc _) (off_nil _ _)) 1 [bv 0] (Sl.lit (w := w2) #[bv 0] 1 rfl (by decide)) (one_cell _ rfl) (by omega) (by omega) (by rw [World.size_alloc]; omega) ?_)
        intro v3 w3 ho3 hg3 _
        have hF23 : Fr v2.ownBlock.toList w2 w3 := ((Fr.refl _ _).alloc (.cells #[.int .u8 0] 5)).grown hg3 (fun k hk => .inl (by simp [hk]))
        have hn3 : wr.heap.size ∉ v2.ownBlock.toList := own_ne ho2' hre (by decide)
        have m3 := hF23.cell m2 hn3
        have hb4 : w.heap.size ≤ w3.heap.size := Nat.le_trans hb3 hF23.size
        go_wp2_with (at_builtin; refine Lib.wpList_append_own_string _ rfl _ _ _ _ rfl w.heap.size 5 i0 u_bytes u_string hi hz0 hz1 hz2 _ _ _ rfl ho3 (mk idn) rfl (by simp only [maxLen, mk_size]; omega) (by rw [mk_size]; omega) hb4 ?_)
        intro v4 w4 ho4 hg4 _
        have ho5 : w4.ownsRow w.heap.size 5 1 v4 (b ++ putNum l.length ++ encEnts (l.take (k + 1))).length ((b ++ putNum l.length ++ encEnts (l.take (k + 1))).map bv) := by
          rw [HEN.out, ← List.append_assoc, hout]
          have e3 : (out ++ encEnt ⟨nm, false, idn⟩).length = out2.length + 1 + (mk idn).size := by rw [← hout2, mk_size]; simp [encEnt]; omega
          have e4 : (out ++ encEnt ⟨nm, false, idn⟩).map bv = out2.map bv ++ [bv 0] ++ Lib.strCells (mk idn) := by rw [← hout2, strCells_bl, bl_mk]; simp [encEnt]
          rw [e3, e4]
          simpa using ho4
        have hFe : Fr [] w w4 := by
          have h1 : Fr [] w w2 := (hF.trans0 hFc).trans0 hF2
          have h2 : Fr [] w w3 := h1.trans hF23 (fun k hk => .inr (own_block ho2' k (by simpa [eq_comm] using hk)))
          exact h2.grown hg4 (fun k hk => .inr (own_block ho3 k hk))
        go_wp2_with fail
        exact ⟨⟨k + 1, by simp, by omega, ho5, hFe⟩, by simp [intOf]; omega⟩
      · go_wp2_with (at_builtin; refine wpl_app w.heap.size rfl _ _ 60 5 (.int .u8 0) 1 1 rfl u_bytes i_byte rfl (by decide) v2 _ _ rfl (own_fr ho2' ((Fr.refl [] _).alloc _) (off_nil _ _)) 1 [bv 1] (Sl.lit (w := w2) #[bv 1] 1 rfl (by decide)) (one_cell _ rfl) (by omega) (by omega) (by rw [World.size_alloc]; omega) ?_)
        intro v3 w3 ho3 hg3 _
        have hF23 : Fr v2.ownBlock.toList w2 w3 := ((Fr.refl _ _).alloc (.cells #[.int .u8 1] 5)).grown hg3 (fun k hk => .inl (by simp [hk]))
        have hn3 : wr.heap.size ∉ v2.ownBlock.toList := own_ne ho2' hre (by decide)
        have m3 := hF23.cell m2 hn3
        have hb4 : w.heap.size ≤ w3.heap.size := Nat.le_trans hb3 hF23.size
        go_wp2_with (at_builtin; refine Lib.wpList_append_own_string _ rfl _ _ _ _ rfl w.heap.size 5 i0 u_bytes u_string hi hz0 hz1 hz2 _ _ _ rfl ho3 (mk idn) rfl (by simp only [maxLen, mk_size]; omega) (by rw [mk_size]; omega) hb4 ?_)
        intro v4 w4 ho4 hg4 _
        have ho5 : w4.ownsRow w.heap.size 5 1 v4 (b ++ putNum l.length ++ encEnts (l.take (k + 1))).length ((b ++ putNum l.length ++ encEnts (l.take (k + 1))).map bv) := by
          rw [HEN.out, ← List.append_assoc, hout]
          have e3 : (out ++ encEnt ⟨nm, true, idn⟩).length = out2.length + 1 + (mk idn).size := by rw [← hout2, mk_size]; simp [encEnt]; omega
          have e4 : (out ++ encEnt ⟨nm, true, idn⟩).map bv = out2.map bv ++ [bv 1] ++ Lib.strCells (mk idn) := by rw [← hout2, strCells_bl, bl_mk]; simp [encEnt]
          rw [e3, e4]
          simpa using ho4
        have hFe : Fr [] w w4 := by
          have h1 : Fr [] w w2 := (hF.trans0 hFc).trans0 hF2
          have h2 : Fr [] w w3 := h1.trans hF23 (fun k hk => .inr (own_block ho2' k (by simpa [eq_comm] using hk)))
          exact h2.grown hg4 (fun k hk => .inr (own_block ho3 k hk))
        go_wp2_with fail
        exact ⟨⟨k + 1, by simp, by omega, ho5, hFe⟩, by simp [intOf]; omega⟩
    · have b1 : decide ((k : Int) < l.length) = false := by simp; omega
      have i1 : (l.length : Int) ≤ k := by omega
      obtain rfl : k = l.length := by omega
      rw [List.take_length] at ho
      go_wp2_with fail
      go_ret
      exact ⟨_, rfl, ho, hF⟩
end Go.Proofs.YtjelehcnpocnoaaGreatDoor
