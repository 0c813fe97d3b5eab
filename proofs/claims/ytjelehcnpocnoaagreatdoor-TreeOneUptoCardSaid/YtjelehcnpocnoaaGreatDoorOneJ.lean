/- The laws' walks: TreeOne. -/
import Derived.Test.YtjelehcnpocnoaaGreatDoorK26
namespace Go.Proofs.YtjelehcnpocnoaaGreatDoor
set_option linter.unusedSimpArgs false
set_option linter.unusedVariables false
set_option linter.unnecessarySimpa false
open Go.RowKit
set_option maxRecDepth 100000
set_option maxHeartbeats 8000000

theorem mask_small (i : Int) : ∃ q : Nat, bits .and .i64 i 65535 = (q : Int) ∧ q ≤ 65535 := by
  refine ⟨(BitVec.ofInt 64 i &&& BitVec.ofInt 64 65535).toNat, ?_, ?_⟩
  · have h : (BitVec.ofInt 64 i &&& BitVec.ofInt 64 65535).toNat ≤ 65535 := by
      rw [BitVec.toNat_and]
      exact Nat.le_trans Nat.and_le_right (by decide)
    have e : bits .and .i64 i 65535 = IntKind.i64.wrap ((BitVec.ofInt 64 i &&& BitVec.ofInt 64 65535).toNat : Int) := rfl
    rw [e, IntKind.wrap_i64]
    omega
  · rw [BitVec.toNat_and]
    exact Nat.le_trans Nat.and_le_right (by decide)
section
variable {P : Program} {ops : Array Oper} {rest : List Oper} {o : Oper} {a : Act} {Q : Exit → Act → World → Prop}
/-- append(nil, x...) of a slice that came in. -/
theorem wpl_copy {w : World} (base : Nat) (hgd : o.guard = none) (s x : Operand) (t e : TypeId) (z : Value) (size bytes : Nat)
    (ho : o.op = .call { callee := .builtin .append, args := #[s, x], argTypes := #[t, t] })
    (ht : P.underlying t = some (.slice e)) (hinfo : (P.info? e).map (fun i => (i.zero, i.size, i.bytes)) = some (some z, size, bytes))
    (hzs : z.cells.size = size) (hsz : 0 < size) (hs : a.eval s = .slice none 0 0)
    (ad : Addr) (m c : Nat) (ys : List Value) (hx : a.eval x = .slice (some ad) m c) (hy : ys.length = m * size) (hcells : ∀ j u, ys[j]? = some u → w.cell? (ad.add j) = some u) (h1 : ∀ u ∈ ys, u.oneCell' = true)
    (hlen : m ≤ 140737488355328) (hbytes : m * bytes ≤ 140737488355328) (hbase : base ≤ w.heap.size)
    (h : ∀ v' w', w'.ownsRow base e size v' m ys → Fr [] w w' → wpList P ops Q rest (a.put o.dst v') w') : wpList P ops Q (o :: rest) a w := by
  refine wpList_plain hgd fun K hK => ?_
  obtain ⟨i0, hi, hz0, hz1, hz2⟩ := info_parts hinfo
  obtain ⟨v1, w1, hr, h6, h7, _, h9⟩ := run_append_own_at (P := P) w base t o.type e i0 z size bytes ht hi hz0 hz1 hz2 hzs hsz (.slice none 0 0) 0 [] ⟨by simp, .inl ⟨rfl, rfl⟩⟩ ad m c ys hy hcells h1 (by simp only [maxLen]; omega) (by simpa using hbytes) hbase
  unfold Oper.wp execOp
  simp only [ho, resolve, invoke, builtin, Sem.run_bind, Sem.run_pure, Result.andThen_ok, List.map_toArray, List.map_cons, List.map_nil, hs, hx, hr]
  exact hK _ _ (h v1 w1 (by simpa using h6) ((Fr.refl [] w).grown h7 (fun k hk => by simp [Value.ownBlock] at hk)))
end
/-- One file's id turned. -/
def turn (l : List Fl) (at_ : Nat) (c : UInt8) : List Fl := l.set at_ ⟨(l.getD at_ ⟨[], []⟩).path, idOf c⟩

theorem turn_length (l : List Fl) (t : Nat) (c : UInt8) : (turn l t c).length = l.length := by simp [turn]
theorem turn_get (l : List Fl) (t : Nat) (c : UInt8) (j : Nat) (h : j < l.length) : (turn l t c)[j]? = some ⟨(l[j]'h).path, if j = t then idOf c else (l[j]'h).id⟩ := by
  unfold turn
  by_cases e : j = t
  · subst e
    rw [List.getElem?_set_self h]
    simp [h]
  · rw [List.getElem?_set_ne (fun e' => e e'.symm), List.getElem?_eq_getElem h]
    simp [e]
theorem turn_same (l : List Fl) (t : Nat) (c : UInt8) (h : t < l.length) (hi : (l[t]'h).id = idOf c) : turn l t c = l := by
  apply List.ext_getElem?
  intro j
  by_cases hj : j < l.length
  · rw [turn_get l t c j hj, List.getElem?_eq_getElem hj]
    by_cases e : j = t
    · subst e
      simp [← hi]
    · simp [e]
  · rw [List.getElem?_eq_none (by rw [turn_length]; omega), List.getElem?_eq_none (by omega)]
theorem TreeOne_calls (m : Int) (va : Value) (l : List Fl) (i : Int) (c : UInt8) (w : World) (ha : Ar w va l) (hl : l.length ≤ 1048576) (hs : ∀ f ∈ l, f.path.length ≤ 4000000 ∧ f.id.length ≤ 4000000) (hm : w.cell? ⟨0, 0, none⟩ = some (.int .i64 m)) :
    Calls Tryz.prog 4 #[va, .int .i64 i, bv c] w fun e w' => e = .returned (.bool true) ∧ Fr [] w w' := by
  have HA := Lib.hid ha
  obtain ⟨a1, c1, rfl, h3, h4, hc⟩ := ha
  have HAW := Lib.hid (awake_calls m w hm)
  unfold bv
  have hcase : (0 < l.length ∧ l.length ≤ 100) ∨ 100 < l.length ∨ l.length = 0 := by omega
  rcases hcase with ⟨hl0, hl1⟩ | hl1 | hl1
  rotate_left
  · have b0 : ((l.length : Int) == 0) = false := by rw [beq_eq_false_iff_ne]; omega
    have b1 : decide ((100 : Int) < l.length) = true := by simp; omega
    have i1 : (100 : Int) < l.length := by omega
    clear hc
    go_enter Tryz.func4, Tryz.ntmps4
    go_wp2_with fail
    refine HAW.out.mono ?_
    rintro e w1 ⟨rfl, hF1⟩
    go_wp2_with fail
    refine (both_calls w1).mono ?_
    rintro e w2 ⟨S, K, p, mb, R, rfl, hS, hp, hmb, hF2⟩
    clear hS
    go_wp2_with fail
    go_ret
    exact ⟨rfl, hF1.trans0 hF2⟩
  · have b0 : ((l.length : Int) == 0) = true := by rw [beq_iff_eq]; omega
    have HL := Lib.hid hl1
    clear hc hl1
    go_enter Tryz.func4, Tryz.ntmps4
    go_wp2_with fail
    refine HAW.out.mono ?_
    rintro e w1 ⟨rfl, hF1⟩
    go_wp2_with fail
    refine (both_calls w1).mono ?_
    rintro e w2 ⟨S, K, p, mb, R, rfl, hS, hp, hmb, hF2⟩
    clear hS
    go_wp2_with fail
    go_ret
    exact ⟨rfl, hF1.trans0 hF2⟩
  · have b0 : ((l.length : Int) == 0) = false := by rw [beq_eq_false_iff_ne]; omega
    have b1 : decide ((100 : Int) < l.length) = false := by simp; omega
    have i1 : (l.length : Int) ≤ 100 := by omega
    obtain ⟨q, hq, hq2⟩ := mask_small i
    obtain ⟨ga, oa, rfl, hcell⟩ := hc hl0
    have hi0 : (0 : Int) < l.length := by omega
    obtain ⟨t, ht⟩ : ∃ t, q % l.length = t := ⟨_, rfl⟩
    have htl : t < l.length := by rw [← ht]; exact Nat.mod_lt _ hl0
    have hqm : (q : Int) % (l.length : Int) = (t : Int) := by rw [← ht]; simp
    clear hc ht
    go_enter Tryz.func4, Tryz.ntmps4
    go_wp2_with fail
    refine HAW.out.mono ?_
    rintro e w1 ⟨rfl, hF1⟩
    go_wp2_with fail
    refine (both_calls w1).mono ?_
    rintro e w2 ⟨S, K, p, mb, R, rfl, hS, hp, hmb, hF2⟩
    have hF02 : Fr [] w w2 := hF1.trans0 hF2
    have hz1 := hF1.size
    have HS := Lib.hid hS
    have HCE := Lib.hid hcell
    clear hS HAW hcell
    have hcs : ∀ j u, (fvs l)[j]? = some u → w2.cell? ((⟨ga, oa, none⟩ : Addr).add j) = some u := by
      intro j u hu
      have hj : j < l.length * 2 := by have := (List.getElem?_eq_some_iff.1 hu).1; rwa [fvs_length] at this
      have hadd : (⟨ga, oa, none⟩ : Addr).add j = ⟨ga, oa + j, none⟩ := by unfold Addr.add; split <;> simp_all
      have hk := List.getElem?_eq_getElem (show j / 2 < l.length by omega)
      obtain ⟨x1, x2⟩ := HCE.out (j / 2) _ hk
      obtain ⟨y1, y2⟩ := fvs_get l (j / 2) _ hk
      rw [hadd]
      refine hF02.cell ?_ (by simp)
      rcases (show j = j / 2 * 2 ∨ j = j / 2 * 2 + 1 by omega) with e | e
      · rw [e] at hu ⊢
        rw [y1] at hu
        rw [← hu]; exact x1
      · rw [e] at hu ⊢
        rw [y2] at hu
        rw [← hu, ← Nat.add_assoc]; exact x2
    go_wp2_with (at_builtin; refine wpl_copy w2.heap.size rfl _ _ 22 39 _ 2 32 rfl u_filesR i_fileR rfl (by decide) rfl ⟨ga, oa, none⟩ l.length c1 (fvs l) rfl (fvs_length l) hcs (fv_one l) (by omega) (by omega) (Nat.le_refl _) ?_)
    intro v3 w3 ho3 hF3
    have hF03 : Fr [] w w3 := hF02.trans0 hF3
    have hsl3 : Fs w3 39 v3 l := Sl.of_own ho3
    obtain ⟨kb, kc, cur, rfl, hkb, hkg⟩ : ∃ g cap cur, v3 = .slice (some ⟨g, 0, none⟩) l.length cap ∧ w2.heap.size ≤ g ∧ w3.heap[g]? = some (.cells cur 39 (0, 0)) := by
      rcases ho3.2 with ⟨_, h0⟩ | ⟨g, cap, cur, rfl, hb, hg, _⟩
      · omega
      · exact ⟨g, cap, cur, rfl, hb, hg⟩
    have hkl : kb < w3.heap.size := (Array.getElem?_eq_some_iff.1 hkg).1
    have hkf : ∀ j, w3.frozen? ⟨kb, j, none⟩ = false := fun j => by simp [World.frozen?, hkg]
    have hpl := HS.out.disk.lt
    have hml := HS.out.disk.mlt
    have hcaps := hsl3.shape
    have hz2 := hF02.size
    have hkc : l.length ≤ kc ∧ kc ≤ 9223372036854775807 := by
      obtain ⟨a', c', hv, h5, h6⟩ := hcaps
      simp only [Value.slice.injEq] at hv
      omega
    obtain ⟨hkc1, hkc2⟩ := hkc
    have HSL3 := Lib.hid (fun j f (hf : l[j]? = some f) => Fs.at2 hsl3 hf)
    simp only [Nat.zero_add] at HSL3
    clear hcs hsl3 ho3 hkg hcaps
    go_wp2_with fail
    refine (id_calls c w3).mono ?_
    rintro e w4 ⟨rfl, hF4⟩
    have hF04 : Fr [] w w4 := hF03.trans0 hF4
    have hlt := List.getElem?_eq_getElem htl
    obtain ⟨y1, y2⟩ := HSL3.out t _ hlt
    have y2' := hF4.cell y2 (by simp)
    have hkf4 : w4.frozen? ⟨kb, t * 2 + 1, none⟩ = false := (World.frozen?_of_block (w := w3) (a := ⟨kb, t * 2 + 1, none⟩) (hF4.blk kb hkl (by simp))).trans (hkf _)
    have i3 : (t : Int) < l.length := by omega
    have hz3 := hF3.size
    have hz4 := hF4.size
    have HLT := Lib.hid hlt
    clear hlt y1 y2 hkf
    go_wp2_with fail
    have hF45 : Fr [kb] w4 (w4.setCell ⟨kb, t * 2 + 1, none⟩ (.string (mk (idOf c)))) := (Fr.refl _ _).setCell (.inl (by simp)) _
    have hF05 : Fr [] w (w4.setCell ⟨kb, t * 2 + 1, none⟩ (.string (mk (idOf c)))) := hF04.setCell (.inr (by simp only; omega)) _
    have hcell5 : ∀ (j : Nat) (f : Fl), (turn l t c)[j]? = some f → (w4.setCell ⟨kb, t * 2 + 1, none⟩ (.string (mk (idOf c)))).cell? ⟨kb, j * 2, none⟩ = some (.string (mk f.path)) ∧ (w4.setCell ⟨kb, t * 2 + 1, none⟩ (.string (mk (idOf c)))).cell? ⟨kb, j * 2 + 1, none⟩ = some (.string (mk f.id)) := by
      intro j f hf
      have hj : j < l.length := by have := (List.getElem?_eq_some_iff.1 hf).1; rwa [turn_length] at this
      obtain ⟨z1, z2⟩ := HSL3.out j _ (List.getElem?_eq_getElem hj)
      have z1' := hF4.cell z1 (by simp)
      have z2' := hF4.cell z2 (by simp)
      rw [turn_get l t c j hj] at hf
      obtain rfl : _ = f := Option.some.inj hf
      rw [cell_set_ne _ _ _ _ _ _ (.inr (by omega))]
      by_cases e : j = t
      · subst e
        rw [cell_set_same _ _ _ _ _ z2']
        exact ⟨z1', by simp⟩
      · rw [cell_set_ne _ _ _ _ _ _ (.inr (by omega))]
        exact ⟨z1', by simp [e, z2']⟩
    have HST := Lib.hid (fun W (hW : Fr [] w2 W) => HS.out.fr0 hW)
    have hF25 : Fr [] w2 (w4.setCell ⟨kb, t * 2 + 1, none⟩ (.string (mk (idOf c)))) := (hF3.trans0 hF4).setCell (.inr hkb) _
    generalize w4.setCell ⟨kb, t * 2 + 1, none⟩ (.string (mk (idOf c))) = w5 at *
    have hz5 := hF25.size
    have HK := Lib.hid (fun W (hW : Fr [p, mb] w5 W) => (show Ar W (.slice (some ⟨kb, 0, none⟩) l.length kc) (turn l t c) from
      ⟨_, _, by rw [turn_length], by rw [turn_length]; exact hkc1, hkc2, fun _ => ⟨kb, 0, rfl, fun j f hf => by
        rw [Nat.zero_add]
        obtain ⟨k1, k2⟩ := hcell5 j f hf
        exact ⟨hW.cell k1 (by simp only [List.mem_cons, List.not_mem_nil, or_false]; omega), hW.cell k2 (by simp only [List.mem_cons, List.not_mem_nil, or_false]; omega)⟩⟩⟩))
    have hks : ∀ f ∈ turn l t c, f.path.length ≤ 4000000 ∧ f.id.length ≤ 4000000 := fun f hf => by
      obtain ⟨j, hj⟩ := List.getElem?_of_mem hf
      have hjl : j < l.length := by have := (List.getElem?_eq_some_iff.1 hj).1; rwa [turn_length] at this
      rw [turn_get l t c j hjl] at hj
      obtain rfl : _ = f := Option.some.inj hj
      have := hs _ (List.getElem_mem hjl)
      refine ⟨this.1, ?_⟩
      simp only
      split
      · simp [idOf]
      · exact this.2
    have hktl := turn_length l t c
    have HKT := Lib.hid hktl
    have hk100 : (turn l t c).length ≤ 100 := by omega
    have HKS := Lib.hid hks
    clear hcell5 hkf4 y2' hktl hks HSL3
    refine (mine_calls _ l w5 (HA.out.fr0 hF05) hl).mono ?_
    rintro e w6 ⟨v6, rfl, hv6, hF6⟩
    have hF06 : Fr [] w w6 := hF05.trans0 hF6
    have hS6 := HST.out w6 (hF25.trans0 hF6)
    have HW := Lib.hid (TWrite_any m S K p mb (262000000000 + 0) _ _ v6 l w6 hS6 ⟨rfl, rfl, by decide, by decide, by decide⟩ hv6 hl1 hs (hF06.cell hm (by simp)))
    clear hv6 hS6
    go_wp2_with fail
    refine HW.out.mono ?_
    rintro e w7 ⟨r, s, rfl, hr, hF7, d7, O7, hS7, hR7, hE7, hz7⟩
    have hF57 : Fr [p, mb] w5 w7 := (hF6.weaken (by simp)).trans hF7 (by simp)
    have hF07 : Fr [] w w7 := hF06.trans hF7 (fun x hx => by
      right
      simp only [List.mem_cons, List.not_mem_nil, or_false] at hx
      rcases hx with rfl | rfl <;> omega)
    have HS7 := Lib.hid hS7
    have HR7 := Lib.hid hR7
    have HZ7 := Lib.hid hz7
    clear hS7 hR7 hE7 hz7 HW
    go_wp2_with fail
    refine (mine_calls _ (turn l t c) w7 (HK.out w7 hF57) (by omega)).mono ?_
    rintro e w8 ⟨v8, rfl, hv8, hF8⟩
    have hF08 : Fr [] w w8 := hF07.trans0 hF8
    have HW := Lib.hid (TWrite_any m S K p mb 0 _ _ v8 (turn l t c) w8 (HS7.out.fr0 hF8) HR7.out hv8 hk100 HKS.out (hF08.cell hm (by simp)))
    clear hv8
    go_wp2_with fail
    refine HW.out.mono ?_
    rintro e w9 ⟨r9, s9, rfl, hr9, hF9, d9, O9, hS9, hR9, hE9, hz9⟩
    have hF09 : Fr [] w w9 := hF08.trans hF9 (fun x hx => by
      right
      simp only [List.mem_cons, List.not_mem_nil, or_false] at hx
      rcases hx with rfl | rfl <;> omega)
    have HS9 := Lib.hid hS9
    have HE9 := Lib.hid hE9
    have HZ9 := Lib.hid hz9
    clear hS9 hR9 hE9 hz9 HW
    rcases hr with rfl | rfl | rfl <;> rcases hr9 with rfl | rfl | rfl
    rotate_left
    iterate 8
      · go_wp2_with fail
        go_ret
        exact ⟨rfl, hF09⟩
    obtain ⟨hs1, hok1, ho1⟩ := HZ7.out rfl
    obtain ⟨hs9, hok9, ho9⟩ := HZ9.out rfl
    have ho1' : ∀ x ∈ treesOf l, O9 (sumF (encTree x)) = some x := fun x hx => HE9.out _ _ (ho1 x hx)
    have hT := TRead_calls m S K p mb d9 O9 (turn l t c) w9 HS9.out hok9 ho9 (hF09.cell hm (by simp))
    have hrt : (s == s9) = ((l[t]'htl).id == idOf c) := by
      rw [Bool.eq_iff_iff, beq_iff_eq, beq_iff_eq, hs1, hs9]
      constructor
      · intro h
        have := root_inj hok1 hok9 ho1' ho9 h
        have h2 := turn_get l t c t htl
        rw [← this, List.getElem?_eq_getElem htl] at h2
        have h3 := congrArg Fl.id (Option.some.inj h2)
        simpa using h3
      · intro h
        rw [turn_same l t c htl h]
    rw [← hs9] at hT
    have HT := Lib.hid hT
    have HRT := Lib.hid hrt
    clear hs1 hok1 ho1 hs9 hok9 ho9 ho1' hT hrt HZ7 HZ9 HE9 HR7
    go_wp2_with fail
    refine HT.out.mono ?_
    rintro e w10 ⟨v10, rfl, hv10, hF10⟩
    have hF010 : Fr [] w w10 := hF09.trans0 hF10
    have HV := Lib.hid hv10
    obtain ⟨a10, c10, hv10e, _, _, hcl10⟩ := Fs.open2 hv10
    obtain ⟨g10, o10, rfl, hcm10⟩ := hcl10 (by rw [HKT.out]; omega)
    rw [HKT.out] at hv10e
    subst hv10e
    have HC10 := Lib.hid hcm10
    have HC0 := Lib.hid (fun j f (hf : l[j]? = some f) => (⟨hF010.cell (HCE.out j f hf).1 (by simp), hF010.cell (HCE.out j f hf).2 (by simp)⟩ : w10.cell? ⟨ga, oa + j * 2, none⟩ = some (.string (mk f.path)) ∧ w10.cell? ⟨ga, oa + j * 2 + 1, none⟩ = some (.string (mk f.id))))
    clear hcl10 hcm10 hv10 HT HCE
    go_wp2_with fail
    go_loopw [18] (fun i wr => ∃ n : Nat, i = .int .i64 n ∧ n ≤ l.length ∧ Fr [] w10 wr) (fun i _ => l.length - (intOf i).toNat)
    case atStart => exact ⟨0, rfl, by omega, Fr.refl _ _⟩
    case round =>
      obtain ⟨n, rfl, hn, hF⟩ := hrel
      by_cases hlt : n < l.length
      · have c1' : decide ((n : Int) < l.length) = true := by simp; omega
        have i4 : (n : Int) < l.length := by omega
        have e1 : IntKind.i64.wrap ((n : Int) + 1) = (n : Int) + 1 := by rw [IntKind.wrap_i64]; omega
        have hge := List.getElem?_eq_getElem hlt
        obtain ⟨x1, x2⟩ := HC0.out n _ hge
        obtain ⟨y1, y2⟩ := HC10.out n _ (turn_get l t c n hlt)
        have x1' := hF.cell x1 (by simp)
        have x2' := hF.cell x2 (by simp)
        have y1' := hF.cell y1 (by simp)
        have y2' := hF.cell y2 (by simp)
        simp only at y1' y2'
        by_cases hnt : n = t
        · rw [if_pos hnt] at y2'
          have hb : ((n : Int) == t) = true := by rw [beq_iff_eq]; omega
          have hbn : ((n : Int) != t) = false := by rw [bne, hb]; rfl
          generalize l[n] = f at *
          obtain ⟨ph, idn⟩ := f
          simp only at x1' x2' y1'
          have q1 := mk_toList ph
          clear hge x1 x2 y1 y2 hnt
          go_wp2_with fail
          go_quiet (fail)
          go_wp2_with fail
          exact ⟨⟨n + 1, by simp, by omega, hF.drewN _⟩, by simp [intOf]; omega⟩
        · rw [if_neg hnt] at y2'
          have hb : ((n : Int) == t) = false := by rw [beq_eq_false_iff_ne]; omega
          have hbn : ((n : Int) != t) = true := by rw [bne, hb]; rfl
          generalize l[n] = f at *
          obtain ⟨ph, idn⟩ := f
          simp only at x1' x2' y1' y2'
          have q1 := mk_toList ph
          have q2 := mk_toList idn
          clear hge x1 x2 y1 y2 hnt
          go_wp2_with fail
          go_quiet (fail)
          go_wp2_with fail
          exact ⟨⟨n + 1, by simp, by omega, hF.drewN _⟩, by simp [intOf]; omega⟩
      · obtain rfl : n = l.length := by omega
        have c1' : decide (((l.length : Nat) : Int) < l.length) = false := by simp
        obtain ⟨x1, x2⟩ := HC0.out t _ HLT.out
        obtain ⟨y1, y2⟩ := HC10.out t _ (turn_get l t c t htl)
        have x2' := hF.cell x2 (by simp)
        have y2' := hF.cell y2 (by simp)
        simp only [if_true] at y2'
        have HRT2 := HRT.out
        generalize l[t] = f at *
        obtain ⟨ph, idn⟩ := f
        simp only at x2' HRT2
        have HID := Lib.hid (fun W => id_calls c W)
        unfold bv at HID
        have q1 := mk_toList (idOf c)
        have q2 := mk_toList idn
        have q3 := mk_toList s
        have q4 := mk_toList s9
        clear x1 x2 y1 y2 HRT HLT HC0 HC10
        generalize hbb : (idn == idOf c) = bb at *
        cases bb
        all_goals
          go_wp2_with fail
          go_region_held3 (fun w' => w'.cell? ⟨g10, o10 + t * 2 + 1, none⟩ = some (.string (mk (idOf c))) ∧ w'.cell? ⟨ga, oa + t * 2 + 1, none⟩ = some (.string (mk idn))) (first | go_keep | exact hkk)
            ((go_at_call 12; refine (HID.out _).mono ?_; rintro e w' ⟨rfl, hF'⟩; have hkk : w'.cell? ⟨g10, o10 + t * 2 + 1, none⟩ = some (.string (mk (idOf c))) ∧ w'.cell? ⟨ga, oa + t * 2 + 1, none⟩ = some (.string (mk idn)) := (by first | exact ⟨hF'.cell hkk.1 (by simp), hF'.cell hkk.2 (by simp)⟩ | exact ⟨hF'.cell y2' (by simp), hF'.cell x2' (by simp)⟩); have hkf : Fr [] wr w' := (by first | exact hkf.trans0 hF' | exact hF'.of_drew | exact hF')))
          clear hkk
          go_wp2_with fail
          go_ret
          exact ⟨rfl, (hF010.trans0 hF).trans0 hkf⟩
end Go.Proofs.YtjelehcnpocnoaaGreatDoor
