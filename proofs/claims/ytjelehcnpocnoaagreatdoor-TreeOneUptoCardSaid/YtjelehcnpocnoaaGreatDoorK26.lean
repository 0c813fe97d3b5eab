/- Joined: LawFns Both Ex Law. -/
import Derived.Test.YtjelehcnpocnoaaGreatDoorK25
/- The law's own small functions. -/
namespace Go.Proofs.YtjelehcnpocnoaaGreatDoor
set_option linter.unusedSimpArgs false
set_option linter.unusedVariables false
set_option linter.unnecessarySimpa false
open Go.RowKit
set_option maxRecDepth 100000
set_option maxHeartbeats 8000000

theorem u_filesR : Tryz.prog.underlying 22 = some (.slice 39) := by kernel_rfl
theorem i_fileR : (Tryz.prog.info? 39).map (fun i => (i.zero, i.size, i.bytes)) = some (some (.agg #[.string ⟨#[]⟩, .string ⟨#[]⟩]), 2, 32) := by kernel_rfl
def idOf (c : UInt8) : Bs := List.replicate 32 c
theorem id_calls (c : UInt8) (w : World) : Calls Tryz.prog 12 #[bv c] w fun e w' => e = .returned (.string (mk (idOf c))) ∧ Fr [] w w' := by
  unfold bv
  go_enter Tryz.func12, Tryz.ntmps12
  go_wp2_with fail
  go_loopw [3, 4] (fun b i wr => ∃ k : Nat, i = .int .i64 k ∧ k ≤ 32 ∧ wr.ownsRow w.heap.size 5 1 b k ((List.replicate k c).map bv) ∧ Fr [] w wr) (fun _ i _ => 32 - (intOf i).toNat)
  case atStart => exact ⟨0, rfl, by omega, ⟨rfl, .inl ⟨rfl, rfl⟩⟩, Fr.refl _ _⟩
  case round =>
    obtain ⟨k, rfl, hk, ho, hF⟩ := hrel
    obtain ⟨a, cc, rfl, h3, h4⟩ := (Sl.of_own ho).shape
    by_cases hlt : k < 32
    · have b1 : decide ((k : Int) < 32) = true := by simp; omega
      have i1 : (k : Int) < 32 := by omega
      have e1 : IntKind.i64.wrap ((k : Int) + 1) = (k : Int) + 1 := by rw [IntKind.wrap_i64]; omega
      have HO := Lib.hid (own_fr ho ((Fr.refl [] wr).alloc (.cells #[bv c] 5)) (off_nil _ _))
      have hsz := hF.size
      clear ho
      go_wp2_with (at_builtin; refine wpl_app w.heap.size rfl _ _ 60 5 (.int .u8 0) 1 1 rfl u_bytes i_byte rfl (by decide) _ _ _ rfl HO.out 1 [bv c] (Sl.lit (w := wr) #[bv c] 1 rfl (by decide)) (one_cell _ rfl) (by omega) (by omega) (by simp only [World.size_alloc]; omega) ?_)
      intro v2 w2 ho2 hg2 _
      have hF2 : Fr [] w w2 := (hF.alloc _).grown hg2 (fun k hk => .inr (own_block HO.out k hk))
      have HO2 := Lib.hid ho2
      clear ho2 hg2
      go_wp2_with fail
      refine ⟨⟨k + 1, by simp, by omega, ?_, hF2⟩, by simp [intOf]; omega⟩
      have := HO2.out
      rw [List.replicate_succ']
      simpa using this
    · obtain rfl : k = 32 := by omega
      have b1 : decide (((32 : Nat) : Int) < 32) = false := by decide
      have hcv : (convert 60 9 (.slice a 32 cc)).run Tryz.prog wr = .ok (.string (mk (idOf c))) wr := by
        have := conv_string u_bytes u_byte u_string (l := idOf c) (v := .slice a 32 cc) (Sl.of_own ho)
        exact this
      have HO := Lib.hid ho
      clear ho
      go_wp2_with fail
      go_ret
      exact ⟨rfl, hF⟩

theorem grown_own {w w' : World} {v : Value} (h : w.grownBy w' v.ownBlock) : Fr v.ownBlock.toList w w' := (Fr.refl _ _).grown h (fun k hk => .inl (by rw [hk]; simp))
theorem Fs.at2 {w : World} {e : TypeId} {g o n c : Nat} {l : List Fl} (h : Sl w e 2 (.slice (some ⟨g, o, none⟩) n c) l.length (fvs l)) {k : Nat} {f : Fl} (hk : l[k]? = some f) : w.cell? ⟨g, o + k * 2, none⟩ = some (.string (mk f.path)) ∧ w.cell? ⟨g, o + k * 2 + 1, none⟩ = some (.string (mk f.id)) := by
  obtain ⟨a', c', hv, _, _, hc⟩ := Fs.open2 h
  obtain ⟨b, o', rfl, hcell⟩ := hc (by have := (List.getElem?_eq_some_iff.1 hk).1; omega)
  simp only [Value.slice.injEq, Option.some.injEq, Addr.mk.injEq, and_true] at hv
  obtain ⟨⟨rfl, rfl⟩, _, rfl⟩ := hv
  exact hcell k f hk
/-- A slice of files that came in: where its row lies is not told. -/
def Ar (w : World) (v : Value) (l : List Fl) : Prop := ∃ a c, v = .slice a l.length c ∧ l.length ≤ c ∧ c ≤ 9223372036854775807 ∧ (0 < l.length → ∃ b o, a = some ⟨b, o, none⟩ ∧
    ∀ (j : Nat) (f : Fl), l[j]? = some f → w.cell? ⟨b, o + j * 2, none⟩ = some (.string (mk f.path)) ∧ w.cell? ⟨b, o + j * 2 + 1, none⟩ = some (.string (mk f.id)))
theorem Ar.fr0 {w w' : World} {v : Value} {l : List Fl} (h : Ar w v l) (hF : Fr [] w w') : Ar w' v l := by
  obtain ⟨a, c, h1, h2, h3, h4⟩ := h
  refine ⟨a, c, h1, h2, h3, fun hn => ?_⟩
  obtain ⟨b, o, h5, h6⟩ := h4 hn
  exact ⟨b, o, h5, fun j f hf => ⟨hF.cell (h6 j f hf).1 (by simp), hF.cell (h6 j f hf).2 (by simp)⟩⟩
theorem Fs.ar {w : World} {e : TypeId} {v : Value} {l : List Fl} (h : Fs w e v l) : Ar w v l := Fs.open2 h
theorem mine_calls (v : Value) (l : List Fl) (w : World) (h : Ar w v l) (hl : l.length ≤ 1048576) :
    Calls Tryz.prog 8 #[v] w fun e w' => ∃ v', e = .returned v' ∧ Fs w' 40 v' l ∧ Fr [] w w' := by
  obtain ⟨a, c, rfl, h3, h4, hc⟩ := h
  go_enter Tryz.func8, Tryz.ntmps8
  go_wp2_with fail
  go_loopw [3, 4] (fun b i wr => ∃ k : Nat, i = .int .i64 k ∧ k ≤ l.length ∧ wr.ownsRow w.heap.size 40 2 b (l.take k).length (fvs (l.take k)) ∧ Fr [] w wr) (fun _ i _ => l.length - (intOf i).toNat)
  case atStart => exact ⟨0, rfl, by omega, ⟨rfl, .inl ⟨rfl, rfl⟩⟩, Fr.refl _ _⟩
  case round =>
    obtain ⟨k, rfl, hk, ho, hF⟩ := hrel
    obtain ⟨oa, oc, rfl, h5, h6⟩ := (Sl.of_own ho).shape
    have htl : (l.take k).length = k := by simp; omega
    rw [htl] at ho h5 ⊢
    by_cases hlt : k < l.length
    · obtain ⟨g, o, rfl, hcell⟩ := hc (by omega)
      have hge := List.getElem?_eq_getElem hlt
      obtain ⟨x1, x2⟩ := hcell k _ hge
      have htk : l.take (k + 1) = l.take k ++ [l[k]] := by rw [List.take_add_one, hge]; rfl
      generalize l[k] = f at *
      obtain ⟨ph, idn⟩ := f
      simp only at x1 x2
      have x1' := hF.cell x1 (by simp)
      have x2' := hF.cell x2 (by simp)
      have b1 : decide ((k : Int) < l.length) = true := by simp; omega
      have i1 : (k : Int) < l.length := by omega
      have e1 : IntKind.i64.wrap ((k : Int) + 1) = (k : Int) + 1 := by rw [IntKind.wrap_i64]; omega
      have hsz := hF.size
      have HTK := Lib.hid htk
      have HO := Lib.hid (fun W (hW : Fr [] wr W) => own_fr ho hW (off_nil _ _))
      have HFS := Lib.hid (fun W (hW : Fr [] w W) => (⟨hW.cell x1 (by simp), hW.cell x2 (by simp)⟩ : W.cell? ⟨g, o + k * 2, none⟩ = some (.string (mk ph)) ∧ W.cell? ⟨g, o + k * 2 + 1, none⟩ = some (.string (mk idn))))
      clear htk hge hcell hc x1 x2 ho htl
      go_wp2_with fail
      go_region_held3 (fun w' => w'.cell? ⟨g, o + k * 2, none⟩ = some (.string (mk ph)) ∧ w'.cell? ⟨g, o + k * 2 + 1, none⟩ = some (.string (mk idn))) (first | go_keep | exact hk2)
        ((refine step_app w.heap.size rfl _ _ 31 40 _ 2 32 rfl u_filesT i_file rfl (by decide) _ _ _ rfl (HO.out _ ((Fr.refl [] wr).alloc _).drew) 1 (fvs [⟨ph, idn⟩]) ((Sl.lit (w := wr) #[.string (mk ph), .string (mk idn)] 1 rfl (by decide)).fr0 (Fr.refl _ _).drew) (fv_one _) (by omega) (by omega) (by simp; omega) ?_; intro v2 w2 ho2 hg2 _; have hk2 := HFS.out w2 (((hF.alloc _).drew).grown hg2 (fun kk hkk => .inr (own_block (HO.out _ (Fr.refl _ _)) kk hkk)))))
      have hF3 : Fr [] w w2 := ((hF.alloc _).drew).grown hg2 (fun kk hkk => .inr (own_block (HO.out _ (Fr.refl _ _)) kk hkk))
      have HO2 := Lib.hid ho2
      clear ho2 hg2 hk2
      go_wp2_with fail
      refine ⟨⟨k + 1, by simp, by omega, ?_, hF3⟩, by simp [intOf]; omega⟩
      rw [HTK.out, fvs_app, List.length_append, List.length_take, Nat.min_eq_left (by omega)]
      exact HO2.out
    · obtain rfl : k = l.length := by omega
      have b1 : decide (((l.length : Nat) : Int) < l.length) = false := by simp
      rw [List.take_length] at ho
      have HO := Lib.hid ho
      clear hc ho
      go_wp2_with fail
      go_ret
      exact ⟨_, rfl, Sl.of_own HO.out, hF⟩
theorem theirs_calls (v : Value) (l : List Fl) (w : World) (h : Ar w v l) (hl : l.length ≤ 1048576) :
    Calls Tryz.prog 11 #[v] w fun e w' => ∃ v', e = .returned v' ∧ Fs w' 39 v' l ∧ Fr [] w w' := by
  obtain ⟨a, c, rfl, h3, h4, hc⟩ := h
  go_enter Tryz.func11, Tryz.ntmps11
  go_wp2_with fail
  go_loopw [3, 4] (fun b i wr => ∃ k : Nat, i = .int .i64 k ∧ k ≤ l.length ∧ wr.ownsRow w.heap.size 39 2 b (l.take k).length (fvs (l.take k)) ∧ Fr [] w wr) (fun _ i _ => l.length - (intOf i).toNat)
  case atStart => exact ⟨0, rfl, by omega, ⟨rfl, .inl ⟨rfl, rfl⟩⟩, Fr.refl _ _⟩
  case round =>
    obtain ⟨k, rfl, hk, ho, hF⟩ := hrel
    obtain ⟨oa, oc, rfl, h5, h6⟩ := (Sl.of_own ho).shape
    have htl : (l.take k).length = k := by simp; omega
    rw [htl] at ho h5 ⊢
    by_cases hlt : k < l.length
    · obtain ⟨g, o, rfl, hcell⟩ := hc (by omega)
      have hge := List.getElem?_eq_getElem hlt
      obtain ⟨x1, x2⟩ := hcell k _ hge
      have htk : l.take (k + 1) = l.take k ++ [l[k]] := by rw [List.take_add_one, hge]; rfl
      generalize l[k] = f at *
      obtain ⟨ph, idn⟩ := f
      simp only at x1 x2
      have x1' := hF.cell x1 (by simp)
      have x2' := hF.cell x2 (by simp)
      have b1 : decide ((k : Int) < l.length) = true := by simp; omega
      have i1 : (k : Int) < l.length := by omega
      have e1 : IntKind.i64.wrap ((k : Int) + 1) = (k : Int) + 1 := by rw [IntKind.wrap_i64]; omega
      have hsz := hF.size
      have HTK := Lib.hid htk
      have HO := Lib.hid (fun W (hW : Fr [] wr W) => own_fr ho hW (off_nil _ _))
      have HFS := Lib.hid (fun W (hW : Fr [] w W) => (⟨hW.cell x1 (by simp), hW.cell x2 (by simp)⟩ : W.cell? ⟨g, o + k * 2, none⟩ = some (.string (mk ph)) ∧ W.cell? ⟨g, o + k * 2 + 1, none⟩ = some (.string (mk idn))))
      clear htk hge hcell hc x1 x2 ho htl
      go_wp2_with fail
      go_region_held3 (fun w' => w'.cell? ⟨g, o + k * 2, none⟩ = some (.string (mk ph)) ∧ w'.cell? ⟨g, o + k * 2 + 1, none⟩ = some (.string (mk idn))) (first | go_keep | exact hk2)
        ((refine step_app w.heap.size rfl _ _ 22 39 _ 2 32 rfl u_filesR i_fileR rfl (by decide) _ _ _ rfl (HO.out _ ((Fr.refl [] wr).alloc _).drew) 1 (fvs [⟨ph, idn⟩]) ((Sl.lit (w := wr) #[.string (mk ph), .string (mk idn)] 1 rfl (by decide)).fr0 (Fr.refl _ _).drew) (fv_one _) (by omega) (by omega) (by simp; omega) ?_; intro v2 w2 ho2 hg2 _; have hk2 := HFS.out w2 (((hF.alloc _).drew).grown hg2 (fun kk hkk => .inr (own_block (HO.out _ (Fr.refl _ _)) kk hkk)))))
      have hF3 : Fr [] w w2 := ((hF.alloc _).drew).grown hg2 (fun kk hkk => .inr (own_block (HO.out _ (Fr.refl _ _)) kk hkk))
      have HO2 := Lib.hid ho2
      clear ho2 hg2 hk2
      go_wp2_with fail
      refine ⟨⟨k + 1, by simp, by omega, ?_, hF3⟩, by simp [intOf]; omega⟩
      rw [HTK.out, fvs_app, List.length_append, List.length_take, Nat.min_eq_left (by omega)]
      exact HO2.out
    · obtain rfl : k = l.length := by omega
      have b1 : decide (((l.length : Nat) : Int) < l.length) = false := by simp
      rw [List.take_length] at ho
      have HO := Lib.hid ho
      clear hc ho
      go_wp2_with fail
      go_ret
      exact ⟨_, rfl, Sl.of_own HO.out, hF⟩

def sameB (a b : List Fl) : Bool := decide (a = b)
theorem Same_calls (va vb : Value) (a b : List Fl) (w : World) (ha : Ar w va a) (hb : Ar w vb b) (hl : a.length ≤ 1048576) (hl2 : b.length ≤ 1048576) :
    Calls Tryz.prog 10 #[va, vb] w fun e w' => e = .returned (.bool (sameB a b)) ∧ Fr [] w w' := by
  obtain ⟨a1, c1, rfl, h3, h4, hc1⟩ := ha
  obtain ⟨a2, c2, rfl, h5, h6, hc2⟩ := hb
  by_cases hlen : a.length = b.length
  · have b0 : ((a.length : Int) == b.length) = true := by rw [beq_iff_eq]; omega
    have HL := Lib.hid hlen
    clear hlen
    go_enter Tryz.func10, Tryz.ntmps10
    go_wp2_with fail
    go_loopw [5] (fun i wr => ∃ k : Nat, i = .int .i64 k ∧ k ≤ a.length ∧ Hid (a.take k = b.take k) ∧ Fr [] w wr) (fun i _ => a.length - (intOf i).toNat)
    case atStart => exact ⟨0, rfl, by omega, rfl, Fr.refl _ _⟩
    case round =>
      obtain ⟨k, rfl, hk, hsame, hF⟩ := hrel
      by_cases hlt : k < a.length
      · have hlt2 : k < b.length := by rw [← HL.out]; exact hlt
        obtain ⟨g1, o1, rfl, hcell1⟩ := hc1 (by omega)
        obtain ⟨g2, o2, rfl, hcell2⟩ := hc2 (by omega)
        have hge1 := List.getElem?_eq_getElem hlt
        have hge2 := List.getElem?_eq_getElem hlt2
        obtain ⟨x1, x2⟩ := hcell1 k _ hge1
        obtain ⟨y1, y2⟩ := hcell2 k _ hge2
        have htk1 : a.take (k + 1) = a.take k ++ [a[k]] := by rw [List.take_add_one, hge1]; rfl
        have htk2 : b.take (k + 1) = b.take k ++ [b[k]] := by rw [List.take_add_one, hge2]; rfl
        generalize a[k] = f at *
        generalize b[k] = f2 at *
        obtain ⟨ph, idn⟩ := f
        obtain ⟨ph2, idn2⟩ := f2
        simp only at x1 x2 y1 y2
        have x1' := hF.cell x1 (by simp)
        have x2' := hF.cell x2 (by simp)
        have y1' := hF.cell y1 (by simp)
        have y2' := hF.cell y2 (by simp)
        have b1 : decide ((k : Int) < a.length) = true := by simp; omega
        have i1 : (k : Int) < a.length := by omega
        have i2 : (k : Int) < b.length := by omega
        have e1 : IntKind.i64.wrap ((k : Int) + 1) = (k : Int) + 1 := by rw [IntKind.wrap_i64]; omega
        have q1 := mk_toList ph
        have q2 := mk_toList idn
        have q3 := mk_toList ph2
        have q4 := mk_toList idn2
        have HT1 := Lib.hid htk1
        have HT2 := Lib.hid htk2
        clear htk1 htk2 hge1 hge2 hcell1 hcell2 hc1 hc2 x1 x2 y1 y2
        have HK := Lib.hid (fun (h : a = b) => (show (⟨ph, idn⟩ : Fl) = ⟨ph2, idn2⟩ from by
          have h1 := HT1.out
          rw [h, HT2.out, ← h] at h1
          have h2 := List.append_inj_right h1 (by simp)
          exact (by simpa using h2.symm)))
        by_cases hp : ph = ph2
        · subst hp
          by_cases hi : idn = idn2
          · subst hi
            clear HK
            go_wp2_with fail
            go_region_held3 (fun w' => w'.cell? ⟨g1, o1 + k * 2, none⟩ = some (.string (mk ph)) ∧ w'.cell? ⟨g1, o1 + k * 2 + 1, none⟩ = some (.string (mk idn)) ∧ w'.cell? ⟨g2, o2 + k * 2, none⟩ = some (.string (mk ph)) ∧ w'.cell? ⟨g2, o2 + k * 2 + 1, none⟩ = some (.string (mk idn))) (go_keep) (fail)
            go_wp2_with fail
            refine ⟨⟨k + 1, by simp, by omega, ?_, hF.drew⟩, by simp [intOf]; omega⟩
            show _ = _
            rw [HT1.out, HT2.out, hsame.out]
          · have hib : (idn == idn2) = false := by simpa using hi
            have HNO : Hid (sameB a b = false) := by
              show decide (a = b) = false
              rw [decide_eq_false_iff_not]
              intro h
              have := HK.out h
              simp only [Fl.mk.injEq] at this
              exact hi this.2
            clear hi HK
            go_wp2_with fail
            go_region_held3 (fun w' => w'.cell? ⟨g1, o1 + k * 2, none⟩ = some (.string (mk ph)) ∧ w'.cell? ⟨g1, o1 + k * 2 + 1, none⟩ = some (.string (mk idn)) ∧ w'.cell? ⟨g2, o2 + k * 2, none⟩ = some (.string (mk ph)) ∧ w'.cell? ⟨g2, o2 + k * 2 + 1, none⟩ = some (.string (mk idn2))) (go_keep) (fail)
            go_wp2_with fail
            go_ret
            exact ⟨by rw [HNO.out]; rfl, hF.drew⟩
        · have hpb : (ph == ph2) = false := by simpa using hp
          have HNO : Hid (sameB a b = false) := by
            show decide (a = b) = false
            rw [decide_eq_false_iff_not]
            intro h
            have := HK.out h
            simp only [Fl.mk.injEq] at this
            exact hp this.1
          clear hp HK
          go_wp2_with fail
          go_region_held3 (fun w' => w'.cell? ⟨g1, o1 + k * 2, none⟩ = some (.string (mk ph)) ∧ w'.cell? ⟨g1, o1 + k * 2 + 1, none⟩ = some (.string (mk idn)) ∧ w'.cell? ⟨g2, o2 + k * 2, none⟩ = some (.string (mk ph2)) ∧ w'.cell? ⟨g2, o2 + k * 2 + 1, none⟩ = some (.string (mk idn2))) (go_keep) (fail)
          go_wp2_with fail
          go_ret
          exact ⟨by rw [HNO.out]; rfl, hF.drew⟩
      · obtain rfl : k = a.length := by omega
        have b1 : decide (((a.length : Nat) : Int) < a.length) = false := by simp
        have HY : Hid (sameB a b = true) := by
          have h1 := hsame.out
          rw [List.take_length, HL.out, List.take_length] at h1
          show decide (a = b) = true
          rw [decide_eq_true_eq]
          exact h1
        clear hc1 hc2
        go_wp2_with fail
        go_ret
        exact ⟨by rw [HY.out]; rfl, hF⟩
  · have b0 : ((a.length : Int) == b.length) = false := by rw [beq_eq_false_iff_ne]; omega
    have hne : sameB a b = false := by
      unfold sameB
      rw [decide_eq_false_iff_not]
      rintro rfl
      exact hlen rfl
    have b0n : ((a.length : Int) != b.length) = true := by rw [bne, b0]; rfl
    have HN := Lib.hid hne
    clear hlen hne hc1 hc2
    go_enter Tryz.func10, Tryz.ntmps10
    go_wp2_with fail
    go_ret
    exact ⟨by rw [HN.out]; rfl, Fr.refl _ _⟩
end Go.Proofs.YtjelehcnpocnoaaGreatDoor
/- The law's stores: both, without objects. -/
namespace Go.Proofs.YtjelehcnpocnoaaGreatDoor
set_option linter.unusedSimpArgs false
set_option linter.unusedVariables false
set_option linter.unnecessarySimpa false
open Go.RowKit
set_option maxRecDepth 100000
set_option maxHeartbeats 8000000

theorem RNew_calls (n : Nat) (w : World) (hn : n ≤ 1099511627776) :
    Calls Tryz.prog 19 #[.int .i64 n] w fun e w' => ∃ D, e = .returned (.tuple #[.pointer (some ⟨D, 0, none⟩), .int .i64 0]) ∧ w'.cell? ⟨D, 1, none⟩ = some (.slice none 0 0) ∧ Fr [] w w' := by
  have b1 : decide ((n : Int) < 0) = false := by simp
  have b2 : decide (1099511627776 < (n : Int)) = false := by simp; omega
  go_enter Tryz.func19, Tryz.ntmps19
  go_wp2_with fail
  have h1 := World.cell?_alloc_new w #[.int .i64 (n : Int), .slice none 0 0, .int .i64 0, .int .i64 (-1), .bool false] 100 1
  refine bodyPost_ret (v := .tuple #[.pointer (some ⟨w.heap.size, 0, none⟩), .int .i64 0]) (by simp [results, Tryz.results19, go_sem]) rfl ⟨_, rfl, h1, (Fr.refl _ _).alloc _⟩
theorem RDump_calls (D : Nat) (w : World) (h : w.cell? ⟨D, 1, none⟩ = some (.slice none 0 0)) :
    Calls Tryz.prog 36 #[.pointer (some ⟨D, 0, none⟩)] w fun e w' => e = .returned (.slice none 0 0) ∧ Fr [] w w' := by
  go_enter Tryz.func36, Tryz.ntmps36
  go_wp2_with fail
  go_loopw [3, 4] (fun b i wr => b = .slice none 0 0 ∧ i = .int .i64 0 ∧ wr = w) (fun _ _ _ => 0)
  case atStart => exact ⟨rfl, rfl, rfl⟩
  case round =>
    obtain ⟨rfl, rfl, rfl⟩ := hrel
    go_wp2_with fail
    go_ret
    exact ⟨rfl, Fr.refl _ _⟩
theorem ROpen_calls (D : Nat) (w : World) (h : w.cell? ⟨D, 1, none⟩ = some (.slice none 0 0)) :
    Calls Tryz.prog 20 #[.pointer (some ⟨D, 0, none⟩)] w fun e w' => ∃ R, e = .returned (.tuple #[.pointer (some ⟨R, 0, none⟩), .int .i64 0]) ∧ Fr [] w w' := by
  have HD := Lib.hid (RDump_calls D w h)
  go_enter Tryz.func20, Tryz.ntmps20
  go_wp2_with fail
  refine HD.out.mono ?_
  rintro e w1 ⟨rfl, hF1⟩
  go_wp2_with fail
  go_loopw [5] (fun i wr => i = .int .i64 0 ∧ wr = w1) (fun _ _ => 0)
  case atStart => exact ⟨rfl, rfl⟩
  case round =>
    obtain ⟨rfl, rfl⟩ := hrel
    go_wp2_with fail
    refine bodyPost_ret (v := .tuple #[.pointer (some ⟨wr.heap.size, 0, none⟩), .int .i64 0]) (by simp [results, Tryz.results20, go_sem]) rfl ⟨_, rfl, hF1.alloc _⟩
theorem both_calls (w : World) :
    Calls Tryz.prog 6 #[.slice none 0 0] w fun e w' => ∃ S K p mb R, e = .returned (.tuple #[.pointer (some ⟨S, 0, none⟩), .pointer (some ⟨R, 0, none⟩)]) ∧ StoreAt w' S K p mb (newDk 1099511627776) (fun _ => none) ∧ w.heap.size ≤ p ∧ w.heap.size ≤ mb ∧ Fr [] w w' := by
  have HD := Lib.hid (NewDisk_calls 1099511627776 w (by decide))
  have HO := Lib.hid (fun (W : World) p mb (hd : DiskAt W p mb (newDk 1099511627776)) => SOpen_calls p mb (newDk 1099511627776) W hd (fun _ => rfl) (by decide))
  have HR := Lib.hid (fun (W : World) => RNew_calls 1099511627776 W (by decide))
  go_enter Tryz.func6, Tryz.ntmps6
  go_wp2_with fail
  refine HD.out.mono ?_
  rintro e w1 ⟨p, mb, rfl, hp, hmb, hd, hF1⟩
  go_wp2_with fail
  refine (HO.out w1 p mb hd).mono ?_
  rintro e w2 ⟨S, K, rfl, hS, hF2⟩
  have HS := Lib.hid hS
  clear hS hd HO HD
  go_wp2_with fail
  refine (HR.out w2).mono ?_
  rintro e w3 ⟨D, rfl, hD, hF3⟩
  have HRO := Lib.hid (ROpen_calls D w3 hD)
  clear HR hD
  go_wp2_with fail
  refine HRO.out.mono ?_
  rintro e w4 ⟨R, rfl, hF4⟩
  clear HRO
  go_wp2_with fail
  have hFF : Fr [] w w4 := ((hF1.trans0 hF2).trans0 hF3).trans0 hF4
  have HS4 := Lib.hid (HS.out.fr0 (hF3.trans0 hF4))
  go_loopw [12] (fun i wr => i = .int .i64 0 ∧ wr = w4) (fun _ _ => 0)
  case atStart => exact ⟨rfl, rfl⟩
  case round =>
    obtain ⟨rfl, rfl⟩ := hrel
    go_wp2_with fail
    refine bodyPost_ret (v := .tuple #[.pointer (some ⟨S, 0, none⟩), .pointer (some ⟨R, 0, none⟩)]) (by simp [results, Tryz.results6, go_sem]) rfl ⟨S, K, p, mb, R, rfl, HS4.out, hp, hmb, hFF⟩
end Go.Proofs.YtjelehcnpocnoaaGreatDoor
/- The document's example: its files, its two trees. -/
namespace Go.Proofs.YtjelehcnpocnoaaGreatDoor
set_option linter.unusedSimpArgs false
set_option linter.unusedVariables false
set_option linter.unnecessarySimpa false
open Go.RowKit
set_option maxRecDepth 100000
set_option maxHeartbeats 8000000

def exL : List Fl := [⟨[97, 47, 120], idOf 1⟩, ⟨[97, 47, 121], idOf 2⟩, ⟨[98], idOf 3⟩]
def exT1 : List Ent := [⟨[120], false, idOf 1⟩, ⟨[121], false, idOf 2⟩]
def exT2 : List Ent := [⟨[97], true, sumF (encTree exT1)⟩, ⟨[98], false, idOf 3⟩]
theorem ex_sums : sumF (encTree exT1) ≠ sumF (encTree exT2) := by decide +kernel
theorem ex_sub : inDir exL [97] = [⟨[120], idOf 1⟩, ⟨[121], idOf 2⟩] := by decide +kernel
theorem ex_names : names exL = [[97]] := by decide +kernel
theorem ex_t1 (n : Nat) : treeE (n + 1) [⟨[120], idOf 1⟩, ⟨[121], idOf 2⟩] = exT1 := by
  have h : entsOf n [⟨[120], idOf 1⟩, ⟨[121], idOf 2⟩] = exT1 := rfl
  rw [treeE_succ, h]
  exact (sort_one (.refl _) (by decide +kernel) (by decide +kernel)).symm
theorem ex_t2 (n : Nat) : treeE (n + 2) exL = exT2 := by
  have h : entsOf (n + 1) exL = [⟨[98], false, idOf 3⟩, ⟨[97], true, sumF (encTree exT1)⟩] := by
    unfold entsOf
    rw [ex_names]
    simp only [List.map_cons, List.map_nil]
    rw [ex_sub, ex_t1]
    rfl
  rw [treeE_succ, h]
  refine (sort_one (l' := exT2) (List.Perm.swap _ _ _) ?_ ?_).symm
  · exact List.pairwise_cons.2 ⟨fun y hy => by
      obtain rfl : y = ⟨[98], false, idOf 3⟩ := by simpa using hy
      show ([97] : Bs) ≤ [98]
      decide, List.pairwise_singleton _ _⟩
  · exact List.pairwise_cons.2 ⟨fun y hy => by
      obtain rfl : y = ⟨[97], true, sumF (encTree exT1)⟩ := by simpa using hy
      show ([98] : Bs) ≠ [97]
      decide, List.pairwise_singleton _ _⟩
theorem ex_trees : treesOf exL = [exT1, exT2] := by
  have h1 : ∀ o, subE 151 [⟨[120], idOf 1⟩, ⟨[121], idOf 2⟩] o = addT o exT1 := fun o => by
    unfold subE
    rw [ex_t1 150, show names [⟨[120], idOf 1⟩, ⟨[121], idOf 2⟩] = [] from by decide +kernel]
    rfl
  unfold treesOf subE
  rw [ex_t2 150, ex_names]
  simp only [List.foldl_cons, List.foldl_nil]
  rw [ex_sub, h1]
  have h2 : addT [] exT1 = [exT1] := rfl
  rw [h2]
  unfold addT
  rw [if_neg]
  · rfl
  · intro h
    have h3 : exT2 = exT1 := by simpa using h
    exact ex_sums (by rw [h3])
theorem ex_root : rootOf exL = sumF (encTree exT2) := by unfold rootOf; rw [ex_t2 150]
theorem ex_len1 : (encTree exT1).length = 72 := by decide +kernel
theorem ex_len2 : (encTree exT2).length = 72 := by decide +kernel
theorem ex_cost : costT (treesOf exL) = 4432 := by
  rw [ex_trees]
  show (200 + 28 * (encTree exT1).length) + ((200 + 28 * (encTree exT2).length) + 0) = 4432
  rw [ex_len1, ex_len2]
theorem ex_no_clash : ¬ Clash (fun _ => none) (treesOf exL) := by
  rw [ex_trees]
  rintro ⟨x, y, hne, hs, hx, hy | ⟨id, hy⟩⟩
  · simp only [List.mem_cons, List.not_mem_nil, or_false] at hx hy
    rcases hx with rfl | rfl <;> rcases hy with rfl | rfl
    · exact hne rfl
    · exact ex_sums hs
    · exact ex_sums hs.symm
    · exact hne rfl
  · cases hy
theorem chk_slash (p : Bs) (i : Nat) (h : p[i]? = some 47) : i < p.length := (List.getElem?_eq_some_iff.1 h).1
theorem ex_ok : checkOk exL := by
  refine ⟨fun k f hk => ?_, by decide⟩
  match k, hk with
  | 0, hk =>
    obtain rfl : _ = f := by simpa [exL] using hk
    refine ⟨by decide +kernel, by decide +kernel, fun g h => absurd h (by omega), fun i hi g hg => ?_⟩
    have h1 := chk_slash _ i hi
    obtain rfl : _ = g := by simpa [exL, eq_comm] using hg
    match i, hi, h1 with
    | 0, hi, _ => exact absurd hi (by decide)
    | 1, _, _ => decide
    | 2, hi, _ => exact absurd hi (by decide)
  | 1, hk =>
    obtain rfl : _ = f := by simpa [exL] using hk
    refine ⟨by decide +kernel, by decide +kernel, fun g _ hg => ?_, fun i hi g hg => ?_⟩
    · obtain rfl : _ = g := by simpa [exL] using hg
      decide
    · have h1 := chk_slash _ i hi
      have hg2 : g = ⟨[97, 47, 120], idOf 1⟩ ∨ g = ⟨[97, 47, 121], idOf 2⟩ := by simpa [exL] using hg
      match i, hi, h1 with
      | 0, hi, _ => exact absurd hi (by decide)
      | 1, _, _ => rcases hg2 with rfl | rfl <;> decide
      | 2, hi, _ => exact absurd hi (by decide)
  | 2, hk =>
    obtain rfl : _ = f := by simpa [exL] using hk
    refine ⟨by decide +kernel, by decide +kernel, fun g _ hg => ?_, fun i hi g hg => ?_⟩
    · obtain rfl : _ = g := by simpa [exL] using hg
      decide
    · have h1 := chk_slash _ i hi
      match i, hi, h1 with
      | 0, hi, _ => exact absurd hi (by decide)
  | k + 3, hk => simp [exL] at hk
def exBad : List Fl := [⟨[97], idOf 1⟩, ⟨[97, 47, 120], idOf 1⟩]
theorem ex_bad : ¬ checkOk exBad := fun h => by
  have := (h.1 1 ⟨[97, 47, 120], idOf 1⟩ rfl).2.2.2 1 rfl ⟨[97], idOf 1⟩ (by simp [exBad])
  exact this rfl

theorem awake_calls (m : Int) (w : World) (hm : w.cell? ⟨0, 0, none⟩ = some (.int .i64 m)) :
    Calls Tryz.prog 5 #[] w fun e w' => e = .returned (.bool true) ∧ Fr [] w w' := by
  have HI := Lib.hid (fun c W => id_calls c W)
  unfold bv at HI
  have hw0 : 0 < w.heap.size := Nat.lt_of_le_of_lt (Nat.zero_le _) (World.block_lt_of_cell? w _ hm)
  go_enter Tryz.func5, Tryz.ntmps5
  go_wp2_with fail
  refine (HI.out 1 _).mono ?_
  rintro e w1 ⟨rfl, hF1⟩
  go_wp2_with fail
  refine (HI.out 2 _).mono ?_
  rintro e w2 ⟨rfl, hF2⟩
  go_wp2_with fail
  refine (HI.out 3 _).mono ?_
  rintro e w3 ⟨rfl, hF3⟩
  have hF03 : Fr [] w w3 := (hF1.trans0 hF2).trans0 hF3
  go_wp2_with fail
  have hFs : Fs (w3.alloc (.cells #[.string ⟨#[97, 47, 120]⟩, .string (mk (idOf 1)), .string ⟨#[97, 47, 121]⟩, .string (mk (idOf 2)), .string ⟨#[98]⟩, .string (mk (idOf 3))] 40)) 40 (.slice (some ⟨w3.heap.size, 0, none⟩) 3 3) exL := Sl.lit (w := w3) (e := 40) (size := 2) #[.string ⟨#[97, 47, 120]⟩, .string (mk (idOf 1)), .string ⟨#[97, 47, 121]⟩, .string (mk (idOf 2)), .string ⟨#[98]⟩, .string (mk (idOf 3))] 3 rfl (by decide)
  have hF04 := hF03.alloc (.cells #[.string ⟨#[97, 47, 120]⟩, .string (mk (idOf 1)), .string ⟨#[97, 47, 121]⟩, .string (mk (idOf 2)), .string ⟨#[98]⟩, .string (mk (idOf 3))] 40)
  generalize w3.alloc (.cells #[.string ⟨#[97, 47, 120]⟩, .string (mk (idOf 1)), .string ⟨#[97, 47, 121]⟩, .string (mk (idOf 2)), .string ⟨#[98]⟩, .string (mk (idOf 3))] 40) = w4 at *
  generalize w3.heap.size = fb at *
  have HFS := Lib.hid hFs
  clear hFs
  refine (TBuild_ok m _ exL w4 HFS.out ex_ok (by decide) (hF04.cell hm (by simp))).mono ?_
  rintro e w5 ⟨vo, rfl, hraw, hF5⟩
  obtain ⟨vs, hvs, _⟩ := hraw
  rw [ex_trees] at hvs
  obtain ⟨oa, oc, rfl, _, _⟩ := hvs.shape
  have hF05 := hF04.trans0 hF5
  obtain ⟨rt, hrt⟩ : ∃ rt, rootOf exL = rt := ⟨_, rfl⟩
  have HRT := Lib.hid hrt
  rw [hrt]
  clear hvs hrt
  go_wp2_with fail
  refine (NewDisk_calls 10000 w5 (by decide)).mono ?_
  rintro e w6 ⟨p, mb, rfl, hp, hmb, hd, hF6⟩
  have hF06 := hF05.trans0 hF6
  have HD := Lib.hid hd
  have hz5 := hF05.size
  clear hd
  go_wp2_with fail
  refine (SOpen_calls p mb (newDk 10000) w6 HD.out (fun _ => rfl) (by decide)).mono ?_
  rintro e w7 ⟨S, K, rfl, hS, hF7⟩
  have hF07 := hF06.trans0 hF7
  have HS := Lib.hid hS
  have hF47 : Fr [] w4 w7 := (hF5.trans0 hF6).trans0 hF7
  clear hS HD
  go_wp2_with fail
  refine (TWrite_calls m S K p mb 0 (newDk 10000) (fun _ => none) _ exL w7 HS.out ⟨rfl, rfl, by rw [ex_cost]; decide, by decide, by rw [ex_cost]; decide⟩ (HFS.out.fr0 hF47) ex_ok (hF07.cell hm (by simp))).mono ?_
  rintro e w8 ⟨⟨rfl, d', O', hS8, hR8, hE8, hall⟩ | ⟨_, hcl, _⟩, hF8⟩
  rotate_left
  · exact absurd hcl ex_no_clash
  have hFS8 : Fs w8 40 (.slice (some ⟨fb, 0, none⟩) 3 3) exL := (HFS.out.fr0 hF47).fr hF8 (HS.out.disk.off_ _ (by decide))
  have hF08 : Fr [] w w8 := hF07.trans hF8 (fun x hx => by
    right
    simp only [List.mem_cons, List.not_mem_nil, or_false] at hx
    rcases hx with rfl | rfl <;> omega)
  have HFS8 := Lib.hid hFS8
  have HS8 := Lib.hid hS8
  have HALL := Lib.hid hall
  rw [HRT.out]
  clear hFS8 hS8 hR8 hE8 hall HFS HS
  go_wp2_with fail
  have hT := TRead_calls m S K p mb d' O' exL w8 HS8.out ex_ok HALL.out (hF08.cell hm (by simp))
  rw [HRT.out] at hT
  refine hT.mono ?_
  rintro e w9 ⟨v9, rfl, hFs9, hF9⟩
  have HFS9 := Lib.hid hFs9
  obtain ⟨a9, c9, hv9, _, _, hc9⟩ := Fs.open2 hFs9
  obtain ⟨g9, o9, rfl, hcell9⟩ := hc9 (by decide)
  have hv9' : v9 = .slice (some ⟨g9, o9, none⟩) 3 c9 := hv9
  subst hv9'
  have x9 : w9.cell? ⟨g9, o9 + 2, none⟩ = some (.string ⟨#[97, 47, 121]⟩) := (hcell9 1 _ rfl).1
  clear hv9
  have HFSF := Lib.hid (HFS8.out.fr0 hF9)
  have hF09 := hF08.trans0 hF9
  have hm9 := hF09.cell hm (by simp)
  have HUN := Lib.hid (fun p d W h1 h2 => Under_calls p d W h1 h2)
  clear hFs9 hc9 hcell9 hT HFS8
  have hu1 : underOf [97, 47, 120] [97] = true := by decide
  have hu2 : underOf [97] [97] = false := by decide
  have HU1 := Lib.hid (Under_calls [97, 47, 120] [97] w9 (by decide) (by decide))
  have HU2 := Lib.hid (Under_calls [97] [97] w9 (by decide) (by decide))
  rw [hu1] at HU1
  rw [hu2] at HU2
  clear hu1 hu2
  go_wp2_with fail
  refine HU1.out.mono ?_
  rintro e w10 ⟨rfl, rfl⟩
  go_wp2_with fail
  refine HU2.out.mono ?_
  rintro e w10 ⟨rfl, rfl⟩
  go_wp2_with fail
  refine (Find_calls _ exL [98] w10 HFSF.out (by decide) ⟨⟨[98], idOf 3⟩, by simp [exL], rfl⟩).mono ?_
  rintro e w11 ⟨⟨f, hf, hfp, rfl⟩, hF11⟩
  have hfi : f.id = idOf 3 := by
    simp only [exL, List.mem_cons, List.not_mem_nil, or_false] at hf
    rcases hf with rfl | rfl | rfl
    · exact absurd hfp (by decide)
    · exact absurd hfp (by decide)
    · rfl
  rw [hfi]
  clear hf hfp hfi
  go_wp2_with fail
  refine (HI.out 3 _).mono ?_
  rintro e w12 ⟨rfl, hF12⟩
  go_wp2_with fail
  refine (HI.out 1 _).mono ?_
  rintro e w13 ⟨rfl, hF13⟩
  go_wp2_with fail
  refine (HI.out 1 _).mono ?_
  rintro e w14 ⟨rfl, hF14⟩
  have hF014 : Fr [] w w14 := (((hF09.trans0 hF11).trans0 hF12).trans0 hF13).trans0 hF14
  go_wp2_with fail
  have hFB : Fs (w14.alloc (.cells #[.string ⟨#[97]⟩, .string (mk (idOf 1)), .string ⟨#[97, 47, 120]⟩, .string (mk (idOf 1))] 40)) 40 (.slice (some ⟨w14.heap.size, 0, none⟩) 2 2) exBad := Sl.lit (w := w14) (e := 40) (size := 2) #[.string ⟨#[97]⟩, .string (mk (idOf 1)), .string ⟨#[97, 47, 120]⟩, .string (mk (idOf 1))] 2 rfl (by decide)
  have hF15 := hF014.alloc (.cells #[.string ⟨#[97]⟩, .string (mk (idOf 1)), .string ⟨#[97, 47, 120]⟩, .string (mk (idOf 1))] 40)
  refine (TCheck_calls m _ exBad _ hFB (by decide) (fun f hf => ?_) (hF15.cell hm (by simp))).mono ?_
  · simp only [exBad, List.mem_cons, List.not_mem_nil, or_false] at hf
    rcases hf with rfl | rfl <;> exact ⟨by decide, by decide⟩
  rintro e w16 ⟨r, rfl, hr, hF16⟩
  rcases hr with ⟨_, hok⟩ | ⟨rfl, _⟩
  · exact absurd hok ex_bad
  clear hFB
  go_wp2_with fail
  go_ret
  exact ⟨rfl, hF15.trans0 hF16⟩
end Go.Proofs.YtjelehcnpocnoaaGreatDoor
/- The laws' walks: TreeBack. -/
namespace Go.Proofs.YtjelehcnpocnoaaGreatDoor
set_option linter.unusedSimpArgs false
set_option linter.unusedVariables false
set_option linter.unnecessarySimpa false
open Go.RowKit
set_option maxRecDepth 100000
set_option maxHeartbeats 8000000

theorem cost_ok {l : List Fl} (h : checkOk l) (hl : l.length ≤ 100) : costT (treesOf l) ≤ 262000000000 := by
  have h1 := sub_len 152 l []
  have h2 := wt_le 152 100 (check_short h) hl
  have h3 := costT_le 614410 (treesOf l) (fun x hx => by
    have hok := trees_ok h x hx
    have := encTree_len x hok
    have := hok.2.2
    omega)
  have h4 : (treesOf l).length ≤ 15201 := by unfold treesOf; simp at h1; omega
  have h5 : (treesOf l).length * (200 + 28 * 614410) ≤ 15201 * (200 + 28 * 614410) := Nat.mul_le_mul_right _ h4
  omega
theorem TWrite_no (m : Int) (S : Nat) (v : Value) (l : List Fl) (w : World) (hv : Fs w 40 v l) (hl : l.length ≤ 1000000) (hs : ∀ f ∈ l, f.path.length ≤ 4000000 ∧ f.id.length ≤ 4000000) (hno : ¬ checkOk l) (hm : w.cell? ⟨0, 0, none⟩ = some (.int .i64 m)) :
    Calls Tryz.prog 7 #[.pointer (some ⟨S, 0, none⟩), v] w fun e w' => e = .returned (.tuple #[.string ⟨#[]⟩, .int .i64 1]) ∧ Fr [] w w' := by
  have HB := Lib.hid (TBuild_no m v l w hv hl hs hno hm)
  obtain ⟨a, c, rfl, h3, h4, hc⟩ := Fs.open2 hv
  clear hc
  go_enter Tryz.func7, Tryz.ntmps7
  go_wp2_with fail
  refine HB.out.mono ?_
  rintro e w1 ⟨rfl, hF1⟩
  go_wp2_with fail
  refine bodyPost_ret (v := .tuple #[.string ⟨#[]⟩, .int .i64 1]) (by simp [results, Tryz.results7, go_sem]) rfl ⟨rfl, hF1⟩
/-- What a Write leaves, whatever the files. -/
def WOut (S K p mb need : Nat) (O : Bs → Option (List Ent)) (l : List Fl) (w : World) (e : Ending) (w' : World) : Prop :=
  ∃ (r : Int) (s : Bs), e = .returned (.tuple #[.string (mk s), .int .i64 r]) ∧ (r = 0 ∨ r = 1 ∨ r = 7) ∧ Fr [p, mb] w w' ∧ ∃ d' O', StoreAt w' S K p mb d' O' ∧ Room d' need ∧ Ext O O' ∧ (r = 0 → s = rootOf l ∧ checkOk l ∧ ∀ x ∈ treesOf l, O' (sumF (encTree x)) = some x)
theorem TWrite_any (m : Int) (S K p mb need : Nat) (d : Dk) (O : Bs → Option (List Ent)) (v : Value) (l : List Fl) (w : World) (h : StoreAt w S K p mb d O) (hR : Room d (262000000000 + need)) (hv : Fs w 40 v l) (hl : l.length ≤ 100) (hs : ∀ f ∈ l, f.path.length ≤ 4000000 ∧ f.id.length ≤ 4000000) (hm : w.cell? ⟨0, 0, none⟩ = some (.int .i64 m)) :
    Calls Tryz.prog 7 #[.pointer (some ⟨S, 0, none⟩), v] w (WOut S K p mb need O l w) := by
  by_cases hok : checkOk l
  · refine (TWrite_calls m S K p mb need d O v l w h (hR.le (by have := cost_ok hok hl; omega)) hv hok hm).mono ?_
    rintro e w' ⟨⟨rfl, d', O', h1, h2, h3, h4⟩ | ⟨rfl, _, d', O', h1, h2, h3⟩, hF⟩
    · exact ⟨0, rootOf l, rfl, .inl rfl, hF, d', O', h1, h2, h3, fun _ => ⟨rfl, hok, h4⟩⟩
    · exact ⟨7, [], rfl, .inr (.inr rfl), hF, d', O', h1, h2, h3, fun h => absurd h (by decide)⟩
  · refine (TWrite_no m S v l w hv (by omega) hs hok hm).mono ?_
    rintro e w' ⟨rfl, hF⟩
    exact ⟨1, [], rfl, .inr (.inl rfl), hF.weaken (by simp), d, O, h.fr0 hF, hR.le (by omega), fun x y h => h, fun h => absurd h (by decide)⟩
theorem root_inj {O : Bs → Option (List Ent)} {l k : List Fl} (hl : checkOk l) (hk : checkOk k) (h1 : ∀ x ∈ treesOf l, O (sumF (encTree x)) = some x) (h2 : ∀ x ∈ treesOf k, O (sumF (encTree x)) = some x) (h : rootOf l = rootOf k) : l = k := by
  have hf := flat_eq (O := O) 152 [] l k (held_of 152 l [] h1) (held_of 152 k [] h2) (check_short hl) (check_short hk) h
  have p1 := flat_perm 152 [] l (check_short hl)
  have p2 := flat_perm 152 [] k (check_short hk)
  rw [pre_nil] at p1 p2
  rw [hf] at p1
  have hkl : k.Perm l := p2.symm.trans p1
  exact (sort_files (check_rise hl) hkl ((check_rise hk).imp fun {x y} h => List.le_of_lt h)).symm
theorem sameB_eq (a b : List Fl) : (sameB a b = true) ↔ a = b := by unfold sameB; simp

theorem TreeBack_calls (m : Int) (va vb : Value) (l k : List Fl) (w : World) (ha : Ar w va l) (hb : Ar w vb k) (hl : l.length ≤ 1048576) (hl2 : k.length ≤ 1048576) (hs : ∀ f ∈ l, f.path.length ≤ 4000000 ∧ f.id.length ≤ 4000000) (hs2 : ∀ f ∈ k, f.path.length ≤ 4000000 ∧ f.id.length ≤ 4000000) (hm : w.cell? ⟨0, 0, none⟩ = some (.int .i64 m)) :
    Calls Tryz.prog 3 #[va, vb] w fun e w' => e = .returned (.bool true) ∧ Fr [] w w' := by
  have HA := Lib.hid ha
  have HB := Lib.hid hb
  obtain ⟨a1, c1, rfl, h3, h4, _⟩ := ha
  obtain ⟨a2, c2, rfl, h5, h6, _⟩ := hb
  have HAW := Lib.hid (awake_calls m w hm)

  have hcase : (l.length ≤ 100 ∧ k.length ≤ 100) ∨ 100 < l.length ∨ (l.length ≤ 100 ∧ 100 < k.length) := by omega
  rcases hcase with ⟨hl1, hk1⟩ | hl1 | ⟨hl1, hk1⟩
  rotate_left
  · have b1 : decide ((100 : Int) < l.length) = true := by simp; omega
    have i1 : (100 : Int) < l.length := by omega
    go_enter Tryz.func3, Tryz.ntmps3
    go_wp2_with fail
    refine HAW.out.mono ?_
    rintro e w1 ⟨rfl, hF1⟩
    go_wp2_with fail
    refine (both_calls w1).mono ?_
    rintro e w2 ⟨S, K, p, mb, R, rfl, hS, hp, hmb, hF2⟩
    clear hS
    go_wp2_with fail
    go_ret
    exact ⟨rfl, hF1.trans0 hF2⟩
  · have b1 : decide ((100 : Int) < l.length) = false := by simp; omega
    have i1 : (l.length : Int) ≤ 100 := by omega
    have b2 : decide ((100 : Int) < k.length) = true := by simp; omega
    have i2 : (100 : Int) < k.length := by omega
    go_enter Tryz.func3, Tryz.ntmps3
    go_wp2_with fail
    refine HAW.out.mono ?_
    rintro e w1 ⟨rfl, hF1⟩
    go_wp2_with fail
    refine (both_calls w1).mono ?_
    rintro e w2 ⟨S, K, p, mb, R, rfl, hS, hp, hmb, hF2⟩
    clear hS
    go_wp2_with fail
    go_ret
    exact ⟨rfl, hF1.trans0 hF2⟩
  · have b1 : decide ((100 : Int) < l.length) = false := by simp; omega
    have i1 : (l.length : Int) ≤ 100 := by omega
    have b2 : decide ((100 : Int) < k.length) = false := by simp; omega
    have i2 : (k.length : Int) ≤ 100 := by omega
    go_enter Tryz.func3, Tryz.ntmps3
    go_wp2_with fail
    refine HAW.out.mono ?_
    rintro e w1 ⟨rfl, hF1⟩
    go_wp2_with fail
    refine (both_calls w1).mono ?_
    rintro e w2 ⟨S, K, p, mb, R, rfl, hS, hp, hmb, hF2⟩
    have hF02 : Fr [] w w2 := hF1.trans0 hF2
    have hz1 := hF1.size
    have HS := Lib.hid hS
    clear hS HAW
    go_wp2_with fail
    refine (mine_calls _ l w2 (HA.out.fr0 hF02) (by omega)).mono ?_
    rintro e w3 ⟨v3, rfl, hv3, hF3⟩
    have hS3 := HS.out.fr0 hF3
    have hF03 : Fr [] w w3 := hF02.trans0 hF3
    have HW := Lib.hid (TWrite_any m S K p mb (262000000000 + 0) _ _ v3 l w3 hS3 ⟨rfl, rfl, by decide, by decide, by decide⟩ hv3 hl1 hs (hF03.cell hm (by simp)))
    have HS3 := Lib.hid hS3
    clear hS3 hv3
    go_wp2_with fail
    refine HW.out.mono ?_
    rintro e w4 ⟨r, s, rfl, hr, hF4, d4, O4, hS4, hR4, hE4, hz4⟩
    have hF04 : Fr [] w w4 := hF03.trans hF4 (fun x hx => by
      right
      simp only [List.mem_cons, List.not_mem_nil, or_false] at hx
      rcases hx with rfl | rfl <;> omega)
    have HA4 := Lib.hid (HA.out.fr0 hF04)
    have HB4 := Lib.hid (HB.out.fr0 hF04)
    have HS4 := Lib.hid hS4
    have HR4 := Lib.hid hR4
    have HZ4 := Lib.hid hz4
    clear hS4 hR4 hE4 hz4 HW HS3 HS
    go_wp2_with fail
    refine (mine_calls _ k w4 HB4.out (by omega)).mono ?_
    rintro e w5 ⟨v5, rfl, hv5, hF5⟩
    have hS5 := HS4.out.fr0 hF5
    have hF05 : Fr [] w w5 := hF04.trans0 hF5
    have HW := Lib.hid (TWrite_any m S K p mb 0 _ _ v5 k w5 hS5 HR4.out hv5 hk1 hs2 (hF05.cell hm (by simp)))
    have HS5 := Lib.hid hS5
    clear hS5 hv5
    go_wp2_with fail
    refine HW.out.mono ?_
    rintro e w6 ⟨r6, s6, rfl, hr6, hF6, d6, O6, hS6, hR6, hE6, hz6⟩
    have hF06 : Fr [] w w6 := hF05.trans hF6 (fun x hx => by
      right
      simp only [List.mem_cons, List.not_mem_nil, or_false] at hx
      rcases hx with rfl | rfl <;> omega)
    have HA6 := Lib.hid (HA.out.fr0 hF06)
    have HB6 := Lib.hid (HB.out.fr0 hF06)
    have HS6 := Lib.hid hS6
    have HE6 := Lib.hid hE6
    have HZ6 := Lib.hid hz6
    clear hS6 hR6 hE6 hz6 HW HS5
    rcases hr with rfl | rfl | rfl <;> rcases hr6 with rfl | rfl | rfl
    rotate_left
    iterate 8
      · go_wp2_with fail
        go_ret
        exact ⟨rfl, hF06⟩
    obtain ⟨hs1, hok1, ho1⟩ := HZ4.out rfl
    obtain ⟨hs6, hok6, ho6⟩ := HZ6.out rfl
    have ho1' : ∀ x ∈ treesOf l, O6 (sumF (encTree x)) = some x := fun x hx => HE6.out _ _ (ho1 x hx)
    have HT1 := TRead_calls m S K p mb d6 O6 l w6 HS6.out hok1 ho1' (hF06.cell hm (by simp))
    have HT2 := fun W (hW : Fr [] w6 W) => TRead_calls m S K p mb d6 O6 k W (HS6.out.fr0 hW) hok6 ho6 (hW.cell (hF06.cell hm (by simp)) (by simp))
    have hrt : (s == s6) = sameB l k := by
      rw [Bool.eq_iff_iff, beq_iff_eq, sameB_eq, hs1, hs6]
      exact ⟨fun h => root_inj hok1 hok6 ho1' ho6 h, fun h => by rw [h]⟩
    rw [← hs1] at HT1
    rw [← hs6] at HT2
    have HT1 := Lib.hid HT1
    have HT2 := Lib.hid HT2
    have q1 := mk_toList s
    have q2 := mk_toList s6
    have hsl : sameB l l = true := (sameB_eq l l).2 rfl
    have hsk : sameB k k = true := (sameB_eq k k).2 rfl
    have HRT := Lib.hid hrt
    have HSL := Lib.hid hsl
    have HSK := Lib.hid hsk
    clear hs1 hok1 ho1 hs6 hok6 ho6 ho1' hrt hsl hsk HZ4 HZ6 HE6 HR4
    go_wp2_with fail
    refine HT1.out.mono ?_
    rintro e w7 ⟨v7, rfl, hv7, hF7⟩
    have HV7 := Lib.hid hv7
    obtain ⟨a7, c7, rfl, _, _, _⟩ := Fs.open2 hv7
    clear hv7
    go_wp2_with fail
    refine (HT2.out _ hF7).mono ?_
    rintro e w8 ⟨v8, rfl, hv8, hF8⟩
    have HV8 := Lib.hid hv8
    obtain ⟨a8, c8, rfl, _, _, _⟩ := Fs.open2 hv8
    clear hv8 HT1 HT2
    go_wp2_with fail
    refine (theirs_calls _ l w8 (HV7.out.ar.fr0 hF8) (by omega)).mono ?_
    rintro e w9 ⟨v9, rfl, hv9, hF9⟩
    have HV9 := Lib.hid hv9
    clear hv9
    have hF69 : Fr [] w6 w9 := (hF7.trans0 hF8).trans0 hF9
    go_wp2_with fail
    refine (Same_calls _ _ l l w9 HV9.out.ar (HA6.out.fr0 hF69) hl hl).mono ?_
    rintro e w10 ⟨rfl, hF10⟩
    rw [HSL.out]
    go_wp2_with fail
    refine (theirs_calls _ k w10 (HV8.out.ar.fr0 (hF9.trans0 hF10)) (by omega)).mono ?_
    rintro e w11 ⟨v11, rfl, hv11, hF11⟩
    have HV11 := Lib.hid hv11
    clear hv11
    have hF611 : Fr [] w6 w11 := (hF69.trans0 hF10).trans0 hF11
    go_wp2_with fail
    refine (Same_calls _ _ k k w11 HV11.out.ar (HB6.out.fr0 hF611) hl2 hl2).mono ?_
    rintro e w12 ⟨rfl, hF12⟩
    rw [HSK.out]
    have hF612 : Fr [] w6 w12 := hF611.trans0 hF12
    go_wp2_with fail
    refine (Same_calls _ _ l k w12 (HA6.out.fr0 hF612) (HB6.out.fr0 hF612) hl hl2).mono ?_
    rintro e w13 ⟨rfl, hF13⟩
    rw [← HRT.out]
    generalize (s == s6) = bb at *
    have hF613 : Fr [] w6 w13 := hF612.trans0 hF13
    cases bb
    all_goals
      go_wp2_with fail
      go_ret
      exact ⟨rfl, hF06.trans0 hF613⟩
end Go.Proofs.YtjelehcnpocnoaaGreatDoor
