/- Joined: Loose Loose2. -/
import Derived.Test.YtjelehcnpocnoaaGreatDoorK15
import Derived.Test.YtjelehcnpocnoaaGreatDoorK09
import Derived.Test.YtjelehcnpocnoaaGreatDoorK17
import Derived.Test.YtjelehcnpocnoaaGreatDoorK04
import Derived.Test.YtjelehcnpocnoaaGreatDoorK12
import Derived.Test.YtjelehcnpocnoaaGreatDoorK14
/- Layer 7, loose objects: names; what is held; Get. -/
namespace Go.Proofs.YtjelehcnpocnoaaGreatDoor
set_option linter.unusedSimpArgs false
set_option linter.unusedVariables false
set_option linter.unnecessarySimpa false
open Go.RowKit
set_option maxRecDepth 100000
set_option maxHeartbeats 4000000

theorem digit_facts : ∀ n : Nat, n < 16 → digit n ≠ 0 ∧ digit n ≠ 126 := by decide
theorem digit_inj : ∀ n : Nat, n < 16 → ∀ m : Nat, m < 16 → digit n = digit m → n = m := by decide
theorem hexOf_mem (l : Bs) : ∀ c ∈ hexOf l, c ≠ 0 ∧ c ≠ 126 := by
  intro c hc
  simp only [hexOf, List.mem_flatMap, List.mem_cons, List.not_mem_nil, or_false] at hc
  obtain ⟨b, _, rfl | rfl⟩ := hc
  · exact digit_facts _ (by have := b.toNat_lt; omega)
  · exact digit_facts _ (by omega)
theorem hexOf_inj : ∀ (a b : Bs), hexOf a = hexOf b → a = b
  | [], [], _ => rfl
  | [], _ :: _, h => by simp [hexOf] at h
  | _ :: _, [], h => by simp [hexOf] at h
  | x :: a, y :: b, h => by
    have h' : digit (x.toNat / 16) = digit (y.toNat / 16) ∧ digit (x.toNat % 16) = digit (y.toNat % 16) ∧ hexOf a = hexOf b := by
      simpa [hexOf] using h
    have hx := x.toNat_lt
    have hy := y.toNat_lt
    have h1 := digit_inj _ (by omega) _ (by omega) h'.1
    have h2 := digit_inj _ (by omega) _ (by omega) h'.2.1
    rw [hexOf_inj a b h'.2.2]
    congr 1
    exact UInt8.toNat_inj.1 (by omega)
/-- The name of an object's file. -/
def objName (id : Bs) : Bs := [111, 47] ++ hexOf id
theorem objName_len (id : Bs) (h : id.length = 32) : (objName id).length = 66 := by simp [objName, hexOf_len, h]
theorem objName_inj {a b : Bs} (h : objName a = objName b) : a = b := hexOf_inj a b (by simpa [objName] using h)
theorem objName_ok (id : Bs) (h : id.length = 32) : nameOk (objName id ++ [126]) = true := by
  refine (nameOk_iff _).2 ⟨by simp, by simp [objName_len id h], ?_⟩
  simp only [objName, List.mem_append, List.mem_cons, List.not_mem_nil, or_false, not_or]
  exact ⟨⟨by decide, fun hx => (hexOf_mem id 0 hx).1 rfl⟩, by decide⟩
theorem objName_ok' (id : Bs) (h : id.length = 32) : nameOk (objName id) = true := by
  refine (nameOk_iff _).2 ⟨by rw [objName_len id h]; omega, by rw [objName_len id h]; omega, ?_⟩
  simp only [objName, List.mem_append, List.mem_cons, List.not_mem_nil, or_false, not_or]
  exact ⟨by decide, fun hx => (hexOf_mem id 0 hx).1 rfl⟩
theorem objName_last (id : Bs) : Lib.hasSuffix (objName id) [126] = false := by
  rw [Bool.eq_false_iff]
  intro hs
  unfold Lib.hasSuffix at hs
  rw [List.isSuffixOf_iff_suffix] at hs
  have hm : (126 : UInt8) ∈ objName id := hs.subset (by simp)
  simp only [objName, List.mem_append, List.mem_cons, List.not_mem_nil, or_false] at hm
  rcases hm with h | h
  · revert h; decide
  · exact (hexOf_mem id 126 h).2 rfl
/-- What a disk of objects holds. -/
structure Objs (d : Dk) (O : Bs → Option (List Ent)) : Prop where
  only : ∀ s, d.files s ≠ none → ∃ id l, O id = some l ∧ s = objName id
  has : ∀ id l, O id = some l → okEnts l ∧ sumF (encTree l) = id ∧ ∃ p, d.files (objName id) = some p ∧ Pressed p (encTree l) ∧ p.length ≤ 18 + 28 * (encTree l).length
theorem Objs.len {d : Dk} {O : Bs → Option (List Ent)} (h : Objs d O) {id : Bs} {l : List Ent} (ho : O id = some l) : id.length = 32 := by
  obtain ⟨_, h2, _⟩ := h.has id l ho
  rw [← h2]; exact sumF_len _
theorem Objs.none {d : Dk} {O : Bs → Option (List Ent)} (h : Objs d O) {id : Bs} (ho : O id = none) : d.files (objName id) = none := by
  cases hf : d.files (objName id) with
  | none => rfl
  | some b =>
    obtain ⟨id', l, h1, h2⟩ := h.only (objName id) (by rw [hf]; simp)
    rw [objName_inj h2, h1] at ho
    cases ho
theorem Objs.shadow {d : Dk} {O : Bs → Option (List Ent)} (h : Objs d O) {id : Bs} (hl : id.length = 32) : d.files (objName id ++ [126]) = Option.none := by
  cases hf : d.files (objName id ++ [126]) with
  | none => rfl
  | some b =>
    obtain ⟨id', l, h1, h2⟩ := h.only _ (by rw [hf]; simp)
    have := congrArg List.length h2
    rw [List.length_append, objName_len id hl, objName_len id' (h.len h1)] at this
    simp at this

theorem Name_calls (id : Bs) (w : World) (h : id.length ≤ 1000) :
    Calls Tryz.prog 92 #[.string (mk id)] w fun e w' => e = .returned (.string (mk (objName id))) ∧ Fr [] w w' := by
  have hzz : ¬ 9223372036854775807 < 2 + (mk (hexOf id)).size := by rw [mk_size, hexOf_len]; omega
  have hm : (⟨#[111, 47]⟩ : ByteArray) ++ mk (hexOf id) = mk (objName id) := mk_app [111, 47] (hexOf id)
  go_enter Tryz.func92, Tryz.ntmps92
  go_wp2_with fail
  refine (Hex_calls id w h).mono ?_
  rintro e w1 ⟨rfl, hF⟩
  go_wp2_with fail
  go_ret
  exact ⟨rfl, hF⟩
theorem lright_calls (p mb : Nat) (d : Dk) (id : Bs) (w : World) (hd : DiskAt w p mb d) (hl : id.length = 32) :
    Calls Tryz.prog 90 #[.pointer (some ⟨p, 0, none⟩), .string (mk id)] w fun e w' => e = .returned (.bool true) ∧ Fr [] w w' := by
  have hz := mk_size id
  have hR := Lib.hid (Read_calls p mb d [111, 47] w hd (by decide))
  have hn : nameOk [111, 47] = true := by decide
  have HN := Lib.hid hn
  clear hn
  go_enter Tryz.func90, Tryz.ntmps90
  go_wp2_with fail
  refine hR.out.mono ?_
  rintro e w1 ⟨v, er, rfl, hF, _, hr⟩
  have hr2 := hr HN.out
  have her : er = 3 ∨ er = 0 := by
    revert hr2
    cases d.files [111, 47] with
    | none => intro h; exact .inl h.1
    | some b => intro h; exact .inr h.1
  clear hr hr2
  rcases her with rfl | rfl
  all_goals
    go_wp2_with fail
    go_ret
    simp [hl, hF]
theorem LGet_calls (p mb : Nat) (d : Dk) (O : Bs → Option (List Ent)) (id : Bs) (w : World) (hd : DiskAt w p mb d) (hO : Objs d O) (hl : id.length = 32) :
    Calls Tryz.prog 87 #[.pointer (some ⟨p, 0, none⟩), .string (mk id)] w fun e w' => Fr [] w w' ∧ (match O id with
      | none => e = .returned (.tuple #[.slice none 0 0, .int .i64 6])
      | some l => ∃ v, e = .returned (.tuple #[v, .int .i64 0]) ∧ w'.ownsRow w.heap.size 5 1 v (encTree l).length ((encTree l).map bv)) := by
  have hR := Lib.hid (lright_calls p mb d id w hd hl)
  have HNm := Lib.hid (fun W => Name_calls id W (by omega))
  have HRd := Lib.hid (fun W (hW : Fr [] w W) => Read_calls p mb d (objName id) W (hd.fr0 hW) (by rw [objName_len id hl]; omega))
  have HN := Lib.hid (objName_ok' id hl)
  cases hO1 : O id with
  | none =>
    have HF := Lib.hid (hO.none hO1)
    go_enter Tryz.func87, Tryz.ntmps87
    go_wp2_with fail
    refine hR.out.mono ?_
    rintro e w1 ⟨rfl, hF1⟩
    clear hR
    go_wp2_with fail
    refine (HNm.out w1).mono ?_
    rintro e w2 ⟨rfl, hF2⟩
    clear HNm
    go_wp2_with fail
    refine (HRd.out w2 (hF1.trans0 hF2)).mono ?_
    rintro e w3 ⟨v, er, rfl, hF3, _, hr⟩
    have hr2 := hr HN.out
    rw [HF.out] at hr2
    obtain ⟨rfl, rfl⟩ := hr2
    clear hr HRd
    go_wp2_with fail
    refine bodyPost_ret (v := .tuple #[.slice none 0 0, .int .i64 6]) (by simp [results, Tryz.results87, go_sem]) rfl ⟨(hF1.trans0 hF2).trans0 hF3, rfl⟩
  | some l =>
    obtain ⟨hok, hsum, pb, hpf, hpr, hpl⟩ := hO.has id l hO1
    have hel := encTree_len l hok
    have h4096 := hok.2.2
    have HF := Lib.hid hpf
    have HS := Lib.hid hsum
    have HOp := Lib.hid (fun (W : World) (v : Value) (hv : Sl W 5 1 v pb.length (pb.map bv)) => Open_calls v pb (encTree l) 2097152 W hv hpr (by omega) (by omega) (by omega))
    have HSm := Lib.hid (fun (W : World) (v : Value) (hv : Sl W 5 1 v (encTree l).length ((encTree l).map bv)) => Sum_calls v (encTree l) W hv (by omega))
    have HD := Lib.hid (fun (W : World) (v : Value) (hv : Sl W 5 1 v (encTree l).length ((encTree l).map bv)) => Decode_calls v l W hv hok)
    have q1 := mk_toList id
    rw [hsum] at HSm
    clear hpf hsum
    go_enter Tryz.func87, Tryz.ntmps87
    go_wp2_with fail
    refine hR.out.mono ?_
    rintro e w1 ⟨rfl, hF1⟩
    clear hR
    go_wp2_with fail
    refine (HNm.out w1).mono ?_
    rintro e w2 ⟨rfl, hF2⟩
    clear HNm
    go_wp2_with fail
    refine (HRd.out w2 (hF1.trans0 hF2)).mono ?_
    rintro e w3 ⟨v, er, rfl, hF3, _, hr⟩
    have hr2 := hr HN.out
    rw [HF.out] at hr2
    obtain ⟨rfl, ho3⟩ := hr2
    clear hr HRd
    go_wp2_with fail
    refine (HOp.out w3 _ (Sl.of_own ho3)).mono ?_
    rintro e w4 ⟨v4, rfl, ho4, hF4⟩
    clear HOp
    go_wp2_with fail
    refine (HSm.out w4 _ (Sl.of_own ho4)).mono ?_
    rintro e w5 ⟨rfl, hF5⟩
    clear HSm
    go_wp2_with fail
    refine (HD.out w5 _ ((Sl.of_own ho4).fr0 hF5)).mono ?_
    rintro e w6 ⟨ve, rfl, ho6, hF6⟩
    clear HD
    obtain ⟨ea, ec, rfl, _⟩ := (Sl.of_own ho6).shape
    unfold objV
    go_wp2_with fail
    refine bodyPost_ret (v := .tuple #[v4, .int .i64 0]) (by simp [results, Tryz.results87, go_sem]) rfl ?_
    have hF14 : Fr [] w w4 := ((hF1.trans0 hF2).trans0 hF3).trans0 hF4
    have hF46 : Fr [] w4 w6 := hF5.trans0 hF6
    have hw3 := ((hF1.trans0 hF2).trans0 hF3).size
    exact ⟨(hF14.trans0 hF46).alloc _, v4, rfl, own_base (own_fr ho4 (hF46.alloc _) (off_nil _ _)) hw3⟩
/-- What a Put leaves. -/
def PutPost (p mb : Nat) (d : Dk) (O : Bs → Option (List Ent)) (l : List Ent) (w : World) (e : Ending) (w' : World) : Prop :=
  (∃ l', O (sumF (encTree l)) = some l' ∧ encTree l' ≠ encTree l ∧ e = .returned (.tuple #[.string ⟨#[]⟩, .int .i64 7]) ∧ Fr [] w w') ∨
  (e = .returned (.tuple #[.string (mk (sumF (encTree l))), .int .i64 0]) ∧ ∃ d' l', encTree l' = encTree l ∧ DiskAt w' p mb d' ∧ Objs d' (fun x => if x = sumF (encTree l) then some l' else O x) ∧ d'.off = d.off ∧ d'.left = d.left ∧
    d.free - (200 + 28 * (encTree l).length : Nat) ≤ d'.free ∧ d'.free ≤ d.free ∧ d'.puts ≤ d.puts + (200 + 28 * (encTree l).length) ∧ Fr [p, mb] w w')
theorem eqB_calls (v1 v2 : Value) (l1 l2 : Bs) (w : World) (h1 : Sl w 5 1 v1 l1.length (l1.map bv)) (h2 : Sl w 5 1 v2 l2.length (l2.map bv)) :
    Calls Tryz.prog 47 #[v1, v2] w fun e w' => e = .returned (.bool (l1 == l2)) ∧ w' = w := by
  have c1 := conv_string (P := Tryz.prog) u_bytes u_byte u_string h1
  have c2 := conv_string (P := Tryz.prog) u_bytes u_byte u_string h2
  have q1 := mk_toList l1
  have q2 := mk_toList l2
  obtain ⟨a1, k1, rfl, _⟩ := h1.shape
  obtain ⟨a2, k2, rfl, _⟩ := h2.shape
  go_enter Tryz.func47, Tryz.ntmps47
  go_wp2_with fail
  go_ret
  exact ⟨rfl, rfl⟩
end Go.Proofs.YtjelehcnpocnoaaGreatDoor
/- Layer 7, loose objects: Put of what is not there. -/
namespace Go.Proofs.YtjelehcnpocnoaaGreatDoor
set_option linter.unusedSimpArgs false
set_option linter.unusedVariables false
set_option linter.unnecessarySimpa false
open Go.RowKit
set_option maxRecDepth 100000
set_option maxHeartbeats 4000000

/-- A disk on which there is room, the power on. -/
structure Roomy (d : Dk) : Prop where
  sane : Sane d
  off : d.off = false
  left : d.left = -1
  puts : d.puts ≤ 1000000000000
def putO (O : Bs → Option (List Ent)) (l : List Ent) : Bs → Option (List Ent) := fun x => if x = sumF (encTree l) then some l else O x
theorem Objs.put {d d' : Dk} {O : Bs → Option (List Ent)} {l : List Ent} {pb : Bs} (h : Objs d O) (hok : okEnts l) (hp : Pressed pb (encTree l)) (hl : pb.length ≤ 18 + 28 * (encTree l).length) (hf : d'.files = updF d.files (objName (sumF (encTree l))) (some pb)) : Objs d' (putO O l) := by
  refine ⟨fun s hs => ?_, fun id l' hid => ?_⟩
  · rw [hf] at hs
    by_cases h1 : s = objName (sumF (encTree l))
    · exact ⟨_, l, by simp [putO], h1⟩
    · simp only [updF, h1, if_false] at hs
      obtain ⟨id, l', h2, h3⟩ := h.only s hs
      refine ⟨id, l', ?_, h3⟩
      have hne : id ≠ sumF (encTree l) := fun e => h1 (by rw [h3, e])
      simp [putO, hne, h2]
  · by_cases h1 : id = sumF (encTree l)
    · subst h1
      obtain rfl : l = l' := by simpa [putO] using hid
      exact ⟨hok, rfl, pb, by rw [hf]; simp [updF], hp, hl⟩
    · have h2 : O id = some l' := by simpa [putO, h1] using hid
      obtain ⟨k1, k2, p, k3, k4, k5⟩ := h.has id l' h2
      refine ⟨k1, k2, p, ?_, k4, k5⟩
      rw [hf]
      have : objName id ≠ objName (sumF (encTree l)) := fun e => h1 (objName_inj e)
      simp [updF, this, k3]

theorem LPut_calls (p mb : Nat) (d : Dk) (O : Bs → Option (List Ent)) (l : List Ent) (vb : Value) (w : World) (hd : DiskAt w p mb d) (hO : Objs d O) (hR : Roomy d) (hok : okEnts l) (hv : Sl w 5 1 vb (encTree l).length ((encTree l).map bv)) (hO1 : O (sumF (encTree l)) = none) (hfree : ((200 + 28 * (encTree l).length : Nat) : Int) ≤ d.free) :
    Calls Tryz.prog 48 #[.pointer (some ⟨p, 0, none⟩), vb] w fun e w' => e = .returned (.tuple #[.string (mk (sumF (encTree l))), .int .i64 0]) ∧ ∃ d', DiskAt w' p mb d' ∧ Objs d' (putO O l) ∧ d'.off = d.off ∧ d'.left = d.left ∧
    d.free - (200 + 28 * (encTree l).length : Nat) ≤ d'.free ∧ d'.free ≤ d.free ∧ d'.puts ≤ d.puts + (200 + 28 * (encTree l).length) ∧ Fr [p, mb] w w' := by
  have hlen := encTree_len l hok
  have h4096 := hok.2.2
  have hidl : (sumF (encTree l)).length = 32 := sumF_len _
  obtain ⟨id, hid⟩ : ∃ id, sumF (encTree l) = id := ⟨_, rfl⟩
  have HSm := Lib.hid (Sum_calls vb (encTree l) w hv (by omega))
  rw [hid] at HSm hO1 hidl ⊢
  have HD := Lib.hid (fun (W : World) (hW : Fr [] w W) => Decode_calls vb l W (hv.fr0 hW) hok)
  have HRt := Lib.hid (fun W (hW : Fr [] w W) => lright_calls p mb d id W (hd.fr0 hW) hidl)
  have HG := Lib.hid (fun W (hW : Fr [] w W) => LGet_calls p mb d O id W (hd.fr0 hW) hO hidl)
  simp only [hO1] at HG
  have HNm := Lib.hid (fun W => Name_calls id W (by omega))
  have HP := Lib.hid (fun W (hW : Fr [] w W) => Press_calls vb (encTree l) W (hv.fr0 hW) (by omega))
  have HSv := Lib.hid (fun (W : World) (v : Value) (pb : Bs) (hW : Fr [] w W) (hs : Sl W 5 1 v pb.length (pb.map bv)) (hpl : pb.length ≤ 18 + 28 * (encTree l).length) => Save_calls p mb d (objName id) pb v W (hd.fr0 hW) hR.sane hs (by omega) (objName_ok id hidl) (by simp [objName]) (objName_last id) hR.off hR.left (hO.shadow hidl) (hO.none hO1) (by rw [objName_len id hidl]; omega) hR.puts)
  have HID := Lib.hid hid
  obtain ⟨va, vc, rfl, _⟩ := hv.shape
  clear hid hO1
  go_enter Tryz.func48, Tryz.ntmps48
  go_wp2_with fail
  refine HSm.out.mono ?_
  rintro e w1 ⟨rfl, hF1⟩
  clear HSm
  go_wp2_with fail
  refine (HD.out w1 hF1).mono ?_
  rintro e w2 ⟨ve, rfl, ho2, hF2⟩
  clear HD
  obtain ⟨ea, ec, rfl, _⟩ := (Sl.of_own ho2).shape
  have hFw2 : Fr [] w w2 := hF1.trans0 hF2
  unfold objV
  go_wp2_with fail
  refine (HRt.out _ (hFw2.alloc _)).mono ?_
  rintro e w3 ⟨rfl, hF3⟩
  clear HRt
  have hFw3 : Fr [] w w3 := (hFw2.alloc _).trans0 hF3
  go_wp2_with fail
  refine (HG.out _ hFw3).mono ?_
  rintro e w4 ⟨hF4, rfl⟩
  clear HG
  have hFw4 : Fr [] w w4 := hFw3.trans0 hF4
  go_wp2_with fail
  refine (HNm.out _).mono ?_
  rintro e w5 ⟨rfl, hF5⟩
  clear HNm
  have hFw5 : Fr [] w w5 := hFw4.trans0 hF5
  go_wp2_with fail
  refine (HP.out _ hFw5).mono ?_
  rintro e w6 ⟨v6, pb, rfl, hs6, hp6, hl6, hF6⟩
  clear HP
  have hFw6 : Fr [] w w6 := hFw5.trans0 hF6
  have HSv6 := Lib.hid (HSv.out w6 v6 pb hFw6 hs6 hl6)
  clear HSv
  go_wp2_with fail
  refine HSv6.out.mono ?_
  rintro e w7 ⟨rfl, k, hk, hd7, hF7⟩
  clear HSv6
  go_wp2_with fail
  refine bodyPost_ret (v := .tuple #[.string (mk id), .int .i64 0]) (by simp [results, Tryz.results48, go_sem]) rfl ⟨rfl, _, hd7, ?_, rfl, rfl, ?_, ?_, ?_, (hFw6.weaken (by simp)).trans hF7 (by simp)⟩
  · exact hO.put hok hp6 hl6 (by simp only; rw [HID.out])
  · simp only; rw [objName_len id hidl]; omega
  · simp only; omega
  · simp only; omega
end Go.Proofs.YtjelehcnpocnoaaGreatDoor
