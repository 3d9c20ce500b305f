/- l3Put: ballots put to their pile. -/
import Derived.Test.YtlfgmljgoolbeaaPiOwn
import Derived.Deep.RegionLaw
namespace Go.Proofs.Ytlfgmljgoolbeaa
open Go.RowKit
set_option linter.unusedSimpArgs false

theorem srcp_all {W : World} {B b off n : Nat} {ps : List Pil.Pl} (h : RdP W B (some ⟨b, off, none⟩) n ps) : ∀ j u, (pcells ps)[j]? = some u → W.cell? ((⟨b, off, none⟩ : Addr).add j) = some u := by
  have := srcP h 0 ps.length (by omega)
  simpa using this
theorem srcp_take {W : World} {B b off n : Nat} {ps : List Pil.Pl} (h : RdP W B (some ⟨b, off, none⟩) n ps) (k : Nat) (hk : k ≤ ps.length) : ∀ j u, (pcells (ps.take k))[j]? = some u → W.cell? ((⟨b, off, none⟩ : Addr).add j) = some u := by
  have := srcP h 0 k (by omega)
  simpa using this
theorem srcp_drop {W : World} {B b off n : Nat} {ps : List Pil.Pl} (h : RdP W B (some ⟨b, off, none⟩) n ps) (k : Nat) (hk : k ≤ ps.length) : ∀ j u, (pcells (ps.drop k))[j]? = some u → W.cell? ((⟨b, off + k * 2, none⟩ : Addr).add j) = some u := by
  have := srcP h k (ps.length - k) (by omega)
  rw [List.take_of_length_le (by simp)] at this
  exact this
theorem srcp_one {w : World} {g : Nat} {t : ByteArray} {m : Int} (h0 : w.cell? ⟨g, 0, none⟩ = some (.string t)) (h1 : w.cell? ⟨g, 1, none⟩ = some (.int .i64 m)) : ∀ j u, (pcells [(t, m)])[j]? = some u → w.cell? ((⟨g, 0, none⟩ : Addr).add j) = some u := by
  intro j u hj
  rw [addr_add]
  match j with
  | 0 => simp [pcells] at hj; subst hj; exact h0
  | 1 => simp [pcells] at hj; subst hj; exact h1
  | j + 2 => simp [pcells] at hj

/-- piles in new memory, never nil -/
def PutPost (W : World) (qs : List Pil.Pl) (e : Ending) (w' : World) : Prop :=
  ∃ g n c, e = .returned (.slice (some ⟨g, 0, none⟩) n c) ∧ OwP w' W.heap.size (some ⟨g, 0, none⟩) n c qs ∧ Below W.heap.size W w'

theorem putPre_zero (ps : List Pil.Pl) (t : ByteArray) : Pil.PutPre ps t 0 := fun _ _ h => absurd h (by omega)
theorem putPre_succ {ps : List Pil.Pl} {t : ByteArray} {k : Nat} (h : Pil.PutPre ps t k) (hk : k < ps.length) (hb : Pil.bl ps[k].1 t = true) : Pil.PutPre ps t (k + 1) := by
  intro i hi hik
  by_cases e : i = k
  · subst e; exact hb
  · exact h i hi (by omega)

set_option maxHeartbeats 6400000 in
theorem l3Put_any (b off n c : Nat) (ps : List Pil.Pl) (t : ByteArray) (m : Int) (W : World) (h : RdP W W.heap.size (some ⟨b, off, none⟩) n ps) (hnc : n ≤ c) (hn : n ≤ 4194303) (hcm : c ≤ maxLen)
    (hM : ∀ p ∈ ps, 0 ≤ p.2 ∧ p.2 ≤ 4294967296) (hm0 : 0 ≤ m) (hm1 : m ≤ 4294967296) :
    Calls Try.prog 40 #[.slice (some ⟨b, off, none⟩) n c, .string t, .int .i64 m] W (PutPost W (Pil.put ps t m)) := by
  have HL := Lib.hid h.len
  have HM := Lib.hid hM
  have HE := Lib.hid (OwP.empty W W.heap.size (Nat.le_refl _))
  have HSA := Lib.hid (fun (w' : World) (hb : Below W.heap.size W w') => srcp_all (h.below hb))
  have HST := Lib.hid (fun (k : Nat) (hk : k ≤ ps.length) (w' : World) (hb : Below W.heap.size W w') => srcp_take (h.below hb) k hk)
  have HSD := Lib.hid (fun (k : Nat) (hk : k ≤ ps.length) (w' : World) (hb : Below W.heap.size W w') => srcp_drop (h.below hb) k hk)
  have hncI : (n : Int) ≤ (c : Int) := by omega
  have hmx : c ≤ 9223372036854775807 := by unfold maxLen at hcm; exact hcm
  have hmxI : (c : Int) ≤ 9223372036854775807 := by omega
  clear hM hcm
  go_enter Try.func40, Try.ntmps40
  go_wp2_with fail
  go_loop [7] (fun i => ∃ k : Nat, k ≤ n ∧ i = .int .i64 k ∧ Pil.PutPre ps t k) (fun i => n - (intOf i).toNat)
  case atStart => exact ⟨0, Nat.zero_le _, rfl, putPre_zero _ _⟩
  case round =>
    obtain ⟨k, hk, rfl, hp⟩ := hrel
    have HP := Lib.hid hp
    clear hp
    have hk0 : (0 : Int) ≤ (k : Int) := by omega
    have hkI : (k : Int) ≤ (n : Int) := by omega
    have hkcI : (k : Int) ≤ (c : Int) := by omega
    have hkl : k ≤ ps.length := by have := HL.out; omega
    -- the rest where nothing is added to a pile
    by_cases hlt : k < n
    · have hk' : k < ps.length := by have := HL.out; omega
      obtain ⟨b', off', hbe, hbB, hcell⟩ := h.at_ hk'
      injection hbe with hbe
      injection hbe with e1 e2
      subst e1 e2
      obtain ⟨c0, c1⟩ := hcell k hk'
      have hlt' : (k : Int) < (n : Int) := by omega
      clear h hcell
      cases hb : Pil.bl ps[k].1 t with
      | true =>
        have HP2 := Lib.hid (putPre_succ HP.out hk' hb)
        have hlss : Op.bytesLess ps[k].1.toList t.toList = true := hb
        clear hb
        generalize ps[k].1 = s at *
        generalize ps[k].2 = y at *
        go_wp2_with fail
        go_round
        case rel => exact ⟨k + 1, by omega, by go_num, HP2.out⟩
        case measure => simp [intOf]; omega
      | false =>
        have hlss : Op.bytesLess ps[k].1.toList t.toList = false := hb
        have HPA := Lib.hid (Pil.put_at m hkl HP.out (fun _ => hb))
        by_cases heq : ps[k].1 = t
        · obtain ⟨y0, y1⟩ := HM.out ps[k] (List.getElem_mem hk')
          have HR := Lib.hid (show Pil.put ps t m = ps.set k (ps[k].1, ps[k].2 + m) by rw [HPA.out, dif_pos hk', if_pos heq, heq])
          have HQ := Lib.hid (fun (w1 : World) (g c1 : Nat) (ho : OwP w1 W.heap.size (some ⟨g, 0, none⟩) n c1 ps) => ho.setM k hk' (ps[k].2 + m))
          have HC := Lib.hid (fun (w1 : World) (g c1 : Nat) (ho : OwP w1 W.heap.size (some ⟨g, 0, none⟩) n c1 ps) => (show w1.cell? ⟨g, k * 2, none⟩ = some (.string ps[k].1) ∧ w1.cell? ⟨g, k * 2 + 1, none⟩ = some (.int .i64 ps[k].2) ∧ w1.frozen? ⟨g, k * 2 + 1, none⟩ = false by
            obtain ⟨g', hg', -, -, hcl⟩ := ho.at_ (by omega)
            injection hg' with e; injection e with e; subst e
            exact ⟨(hcl k hk').1, (hcl k hk').2.1, (hcl k hk').2.2.2⟩))
          have HB := Lib.hid (fun (w1 : World) (hb1 : Below W.heap.size W w1) => (show w1.cell? ⟨b, off + k * 2, none⟩ = some (.string ps[k].1) from (hb1.cell (p := ⟨b, off + k * 2, none⟩) hbB).trans c0))
          clear hb
          rw [heq] at hlss c0
          rw [heq] at HR HQ HC HB
          clear heq HPA
          generalize ps[k].2 = y at *
          go_wp2_with (at_builtin; refine wpList_appP (by rfl) _ _ (by rfl) (B := W.heap.size) (by rfl) ⟨b, off, none⟩ n c (by rfl) HE.out HL.out (HSA.out _ ((Below.refl _ _).alloc (Nat.le_refl _) _)) n (Nat.zero_add n) (by omega) (by simp) ?_)
          intro A4 c4 w4 ho4 hb4 _ _ g4 hA4
          subst hA4
          have hbw4 := ((Below.refl _ W).alloc (Nat.le_refl _) _).trans hb4
          have d0 := HB.out w4 hbw4
          obtain ⟨e0, e1, f1⟩ := HC.out w4 g4 c4 ho4
          have HO := Lib.hid (HQ.out w4 g4 c4 ho4)
          have hB4 : W.heap.size ≤ g4 := by
            rcases ho4.parts with ⟨hx, _⟩ | ⟨g', cur, hx, hx2, _⟩
            · cases hx
            · injection hx with e; injection e with e; subst e; exact hx2
          clear ho4 hb4
          go_wp2_with fail
          go_ret
          exact ⟨g4, n, c4, rfl, by rw [HR.out]; exact HO.out, hbw4.setCell hB4 _⟩
        · have HR := Lib.hid (show Pil.put ps t m = ps.take k ++ [(t, m)] ++ ps.drop k by rw [HPA.out, dif_pos hk', if_neg heq, List.append_assoc]; rfl)
          have hneq : (ps[k].1.toList == t.toList) = false := (Go.Lib.bytes_beq_false_iff _ _).2 heq
          have HB := Lib.hid (fun (w1 : World) (hb1 : Below W.heap.size W w1) => (show w1.cell? ⟨b, off + k * 2, none⟩ = some (.string ps[k].1) from (hb1.cell (p := ⟨b, off + k * 2, none⟩) hbB).trans c0))
          clear hb heq HPA
          generalize ps[k].1 = s at *
          clear c1
          have hkT := Lib.hid (show (ps.take k).length = k by rw [List.length_take]; omega)
          have hkD := Lib.hid (show (ps.drop k).length = n - k by rw [List.length_drop, HL.out])
          have HT := Lib.hid (HST.out k hkl)
          by_cases hck : c = k
          case' pos =>
            have hif : ∀ x y : Option Addr, (if c = k then x else y) = x := fun x y => if_pos hck
            have HD : Hid (∀ w', Below W.heap.size W w' → ∀ j u, (pcells (ps.drop k))[j]? = some u → w'.cell? ((⟨b, off, none⟩ : Addr).add j) = some u) := fun w' _ j u hj => by
              have : ps.drop k = [] := List.eq_nil_of_length_eq_zero (by rw [hkD.out]; omega)
              rw [this] at hj; simp [pcells] at hj
          case' neg =>
            have hif : ∀ x y : Option Addr, (if c = k then x else y) = y := fun x y => if_neg hck
            have HD := Lib.hid (HSD.out k hkl)
          all_goals
            clear hck
            go_wp2_with (at_builtin; refine wpList_appP (by rfl) _ _ (by rfl) (B := W.heap.size) (by rfl) ⟨b, off, none⟩ n c (by rfl) HE.out HL.out (HSA.out _ ((Below.refl _ _).alloc (Nat.le_refl _) _)) n (Nat.zero_add n) (by omega) (by simp) ?_)
            intro A4 c4 w4 ho4 hb4 _ _ g4 hA4
            subst hA4
            have hbw4 := ((Below.refl _ W).alloc (Nat.le_refl _) _).trans hb4
            have d0 := HB.out w4 hbw4
            have hB4 := hbw4.size
            clear ho4 hb4
            go_wp2_with fail
            have hp1 : Below W.heap.size W (w4.drew.alloc (.cells #[] 44)) := hbw4.drew.alloc hB4 _
            have hp2 : Below W.heap.size W ((w4.drew.alloc (.cells #[] 44)).alloc (.cells #[.string t, .int .i64 m] 44)) := hp1.alloc (by simp; omega) _
            have hp3 : Below W.heap.size W ((w4.drew.alloc (.cells #[.string t, .int .i64 m] 44)).alloc (.cells #[] 44)) := (hbw4.drew.alloc hB4 _).alloc (by simp; omega) _
            have HP123 := Lib.hid (And.intro hp1 (And.intro hp2 hp3))
            have HE4 := Lib.hid (fun w (hw : W.heap.size ≤ w.heap.size) => OwP.empty w W.heap.size hw)
            have HE5 := Lib.hid (show OwP ((w4.drew.alloc (.cells #[.string t, .int .i64 m] 44)).alloc (.cells #[] 44)) W.heap.size (some ⟨w4.heap.size + 1, 0, none⟩) 0 0 [] by
              have h := OwP.empty (w4.drew.alloc (.cells #[.string t, .int .i64 m] 44)) W.heap.size (by simp; omega)
              have e : (w4.drew.alloc (.cells #[.string t, .int .i64 m] 44)).heap.size = w4.heap.size + 1 := by simp
              rw [e] at h
              exact h)
            clear hp1 hp2 hp3
            go_region_law (first
              | (refine step_appP (by rfl) _ _ (by rfl) (B := W.heap.size) (ps := []) (qs := ps.take k) (A := some ⟨w4.heap.size, 0, none⟩) (n := 0) (c := 0) (by rfl) ⟨b, off, none⟩ k c (by rfl) (HE4.out w4.drew hB4) hkT.out (HT.out _ HP123.out.1) k (Nat.zero_add k) (by omega) (by simp; omega) ?_; intro A5 c5 w5 ho5 hb5 hg5 _ hn5; obtain ⟨g5, rfl⟩ := hn5 (by simp); have hbw5 := HP123.out.1.trans hb5; rw [List.nil_append] at ho5; have hz5 := hbw5.size; clear hn5 hb5 hg5)
              | (refine step_appP (by rfl) _ _ (by rfl) (B := W.heap.size) (ps := []) (qs := ps.take k) (A := some ⟨w4.heap.size, 0, none⟩) (n := 0) (c := 0) (by rfl) ⟨b, off, none⟩ k c (by rfl) ((HE4.out w4.drew hB4).alloc _) hkT.out (HT.out _ HP123.out.2.1) k (Nat.zero_add k) (by omega) (by simp; omega) ?_; intro A5 c5 w5 ho5 hb5 hg5 _ hn5; obtain ⟨g5, rfl⟩ := hn5 (by simp); have hbw5 := HP123.out.2.1.trans hb5; rw [List.nil_append] at ho5; have HS5 := Lib.hid (srcp_one (g := w4.heap.size + 1) (t := t) (m := m) ((hg5.cell_far ⟨w4.heap.size + 1, 0, none⟩ (by first | (simp; done) | (simp; omega)) (by simp [Value.ownBlock])).trans (by simp [go_sem])) ((hg5.cell_far ⟨w4.heap.size + 1, 1, none⟩ (by first | (simp; done) | (simp; omega)) (by simp [Value.ownBlock])).trans (by simp [go_sem]))); have hz5 := hbw5.size; clear hn5 hb5 hg5)
              | (refine step_appP (by rfl) _ _ (by rfl) (B := W.heap.size) (ps := []) (qs := ps.take k) (A := some ⟨w4.heap.size + 1, 0, none⟩) (n := 0) (c := 0) (by rfl) ⟨b, off, none⟩ k c (by rfl) HE5.out hkT.out (HT.out _ HP123.out.2.2) k (Nat.zero_add k) (by omega) (by simp; omega) ?_; intro A5 c5 w5 ho5 hb5 hg5 _ hn5; obtain ⟨g5, rfl⟩ := hn5 (by simp); have hbw5 := HP123.out.2.2.trans hb5; rw [List.nil_append] at ho5; have HS5 := Lib.hid (srcp_one (g := w4.heap.size) (t := t) (m := m) ((hg5.cell_far ⟨w4.heap.size, 0, none⟩ (by first | (simp; done) | (simp; omega)) (by simp [Value.ownBlock])).trans (by simp [go_sem])) ((hg5.cell_far ⟨w4.heap.size, 1, none⟩ (by first | (simp; done) | (simp; omega)) (by simp [Value.ownBlock])).trans (by simp [go_sem]))); have hz5 := hbw5.size; clear hn5 hb5 hg5)
              | (refine step_appP (by rfl) _ _ (by rfl) (B := W.heap.size) (ps := ps.take k) (qs := [(t, m)]) (A := some ⟨g5, 0, none⟩) (n := k) (c := c5) (by rfl) ⟨w5.heap.size, 0, none⟩ 1 1 (by rfl) (ho5.alloc _) rfl (srcp_one (by simp [go_sem]) (by simp [go_sem])) (k + 1) rfl (by omega) (by simp; omega) ?_; intro A6 c6 w6 ho6 hb6 _ _ hn6; obtain ⟨g6, rfl⟩ := hn6 (by simp); have hbw6 := (hbw5.alloc hz5 _).trans hb6; have hz6 := hbw6.size; clear hn6 hb6)
              | (refine step_appP (by rfl) _ _ (by rfl) (B := W.heap.size) (ps := ps.take k) (qs := [(t, m)]) (A := some ⟨g5, 0, none⟩) (n := k) (c := c5) (by rfl) ⟨_, 0, none⟩ 1 1 (by rfl) ho5 rfl HS5.out (k + 1) rfl (by omega) hz5 ?_; intro A6 c6 w6 ho6 hb6 _ _ hn6; obtain ⟨g6, rfl⟩ := hn6 (by simp); have hbw6 := hbw5.trans hb6; have hz6 := hbw6.size; clear hn6 hb6)
              | (refine step_appP (by rfl) _ _ (by rfl) (B := W.heap.size) (ps := ps.take k ++ [(t, m)]) (qs := ps.drop k) (A := some ⟨g6, 0, none⟩) (n := k + 1) (c := c6) (by rfl) _ (n - k) (c - k) (by rfl) ho6 hkD.out (HD.out _ hbw6) (n + 1) (by omega) (by omega) hz6 ?_; intro A7 c7 w7 ho7 hb7 _ _ hn7; obtain ⟨g7, rfl⟩ := hn7 (by simp); have hbw7 := hbw6.trans hb7; clear hn7 hb7))
            all_goals
              go_wp2_with fail
              go_ret
              exact ⟨g7, n + 1, c7, rfl, by rw [HR.out]; exact ho7, hbw7⟩
    · have hlt' : ¬ (k : Int) < (n : Int) := by omega
      have hkn : k = n := by omega
      have HPA := Lib.hid (Pil.put_at m hkl HP.out (fun hh => absurd hh (by have := HL.out; omega)))
      have HR := Lib.hid (show Pil.put ps t m = ps.take k ++ [(t, m)] ++ ps.drop k by rw [HPA.out, dif_neg (by have := HL.out; omega), List.take_of_length_le (by have := HL.out; omega), List.drop_eq_nil_of_le (by have := HL.out; omega), List.append_nil])
      clear h HPA hkn
      have hkT := Lib.hid (show (ps.take k).length = k by rw [List.length_take]; omega)
      have hkD := Lib.hid (show (ps.drop k).length = n - k by rw [List.length_drop, HL.out])
      have HT := Lib.hid (HST.out k hkl)
      by_cases hck : c = k
      case' pos =>
        have hif : ∀ x y : Option Addr, (if c = k then x else y) = x := fun x y => if_pos hck
        have HD : Hid (∀ w', Below W.heap.size W w' → ∀ j u, (pcells (ps.drop k))[j]? = some u → w'.cell? ((⟨b, off, none⟩ : Addr).add j) = some u) := fun w' _ j u hj => by
          have : ps.drop k = [] := List.eq_nil_of_length_eq_zero (by rw [hkD.out]; omega)
          rw [this] at hj; simp [pcells] at hj
      case' neg =>
        have hif : ∀ x y : Option Addr, (if c = k then x else y) = y := fun x y => if_neg hck
        have HD := Lib.hid (HSD.out k hkl)
      all_goals
        clear hck
        go_wp2_with (at_builtin; refine wpList_appP (by rfl) _ _ (by rfl) (B := W.heap.size) (by rfl) ⟨b, off, none⟩ n c (by rfl) HE.out HL.out (HSA.out _ ((Below.refl _ _).alloc (Nat.le_refl _) _)) n (Nat.zero_add n) (by omega) (by simp) ?_)
        intro A4 c4 w4 ho4 hb4 _ _ g4 hA4
        subst hA4
        have hbw4 := ((Below.refl _ W).alloc (Nat.le_refl _) _).trans hb4
        have hB4 := hbw4.size
        clear ho4 hb4
        go_wp2_with fail
        have hp1 : Below W.heap.size W (w4.drew.alloc (.cells #[] 44)) := hbw4.drew.alloc hB4 _
        have hp2 : Below W.heap.size W ((w4.drew.alloc (.cells #[] 44)).alloc (.cells #[.string t, .int .i64 m] 44)) := hp1.alloc (by simp; omega) _
        have hp3 : Below W.heap.size W ((w4.drew.alloc (.cells #[.string t, .int .i64 m] 44)).alloc (.cells #[] 44)) := (hbw4.drew.alloc hB4 _).alloc (by simp; omega) _
        have HP123 := Lib.hid (And.intro hp1 (And.intro hp2 hp3))
        have HE4 := Lib.hid (fun w (hw : W.heap.size ≤ w.heap.size) => OwP.empty w W.heap.size hw)
        have HE5 := Lib.hid (show OwP ((w4.drew.alloc (.cells #[.string t, .int .i64 m] 44)).alloc (.cells #[] 44)) W.heap.size (some ⟨w4.heap.size + 1, 0, none⟩) 0 0 [] by
          have h := OwP.empty (w4.drew.alloc (.cells #[.string t, .int .i64 m] 44)) W.heap.size (by simp; omega)
          have e : (w4.drew.alloc (.cells #[.string t, .int .i64 m] 44)).heap.size = w4.heap.size + 1 := by simp
          rw [e] at h
          exact h)
        clear hp1 hp2 hp3
        go_region_law (first
          | (refine step_appP (by rfl) _ _ (by rfl) (B := W.heap.size) (ps := []) (qs := ps.take k) (A := some ⟨w4.heap.size, 0, none⟩) (n := 0) (c := 0) (by rfl) ⟨b, off, none⟩ k c (by rfl) (HE4.out w4.drew hB4) hkT.out (HT.out _ HP123.out.1) k (Nat.zero_add k) (by omega) (by simp; omega) ?_; intro A5 c5 w5 ho5 hb5 hg5 _ hn5; obtain ⟨g5, rfl⟩ := hn5 (by simp); have hbw5 := HP123.out.1.trans hb5; rw [List.nil_append] at ho5; have hz5 := hbw5.size; clear hn5 hb5 hg5)
          | (refine step_appP (by rfl) _ _ (by rfl) (B := W.heap.size) (ps := []) (qs := ps.take k) (A := some ⟨w4.heap.size, 0, none⟩) (n := 0) (c := 0) (by rfl) ⟨b, off, none⟩ k c (by rfl) ((HE4.out w4.drew hB4).alloc _) hkT.out (HT.out _ HP123.out.2.1) k (Nat.zero_add k) (by omega) (by simp; omega) ?_; intro A5 c5 w5 ho5 hb5 hg5 _ hn5; obtain ⟨g5, rfl⟩ := hn5 (by simp); have hbw5 := HP123.out.2.1.trans hb5; rw [List.nil_append] at ho5; have HS5 := Lib.hid (srcp_one (g := w4.heap.size + 1) (t := t) (m := m) ((hg5.cell_far ⟨w4.heap.size + 1, 0, none⟩ (by first | (simp; done) | (simp; omega)) (by simp [Value.ownBlock])).trans (by simp [go_sem])) ((hg5.cell_far ⟨w4.heap.size + 1, 1, none⟩ (by first | (simp; done) | (simp; omega)) (by simp [Value.ownBlock])).trans (by simp [go_sem]))); have hz5 := hbw5.size; clear hn5 hb5 hg5)
          | (refine step_appP (by rfl) _ _ (by rfl) (B := W.heap.size) (ps := []) (qs := ps.take k) (A := some ⟨w4.heap.size + 1, 0, none⟩) (n := 0) (c := 0) (by rfl) ⟨b, off, none⟩ k c (by rfl) HE5.out hkT.out (HT.out _ HP123.out.2.2) k (Nat.zero_add k) (by omega) (by simp; omega) ?_; intro A5 c5 w5 ho5 hb5 hg5 _ hn5; obtain ⟨g5, rfl⟩ := hn5 (by simp); have hbw5 := HP123.out.2.2.trans hb5; rw [List.nil_append] at ho5; have HS5 := Lib.hid (srcp_one (g := w4.heap.size) (t := t) (m := m) ((hg5.cell_far ⟨w4.heap.size, 0, none⟩ (by first | (simp; done) | (simp; omega)) (by simp [Value.ownBlock])).trans (by simp [go_sem])) ((hg5.cell_far ⟨w4.heap.size, 1, none⟩ (by first | (simp; done) | (simp; omega)) (by simp [Value.ownBlock])).trans (by simp [go_sem]))); have hz5 := hbw5.size; clear hn5 hb5 hg5)
          | (refine step_appP (by rfl) _ _ (by rfl) (B := W.heap.size) (ps := ps.take k) (qs := [(t, m)]) (A := some ⟨g5, 0, none⟩) (n := k) (c := c5) (by rfl) ⟨w5.heap.size, 0, none⟩ 1 1 (by rfl) (ho5.alloc _) rfl (srcp_one (by simp [go_sem]) (by simp [go_sem])) (k + 1) rfl (by omega) (by simp; omega) ?_; intro A6 c6 w6 ho6 hb6 _ _ hn6; obtain ⟨g6, rfl⟩ := hn6 (by simp); have hbw6 := (hbw5.alloc hz5 _).trans hb6; have hz6 := hbw6.size; clear hn6 hb6)
          | (refine step_appP (by rfl) _ _ (by rfl) (B := W.heap.size) (ps := ps.take k) (qs := [(t, m)]) (A := some ⟨g5, 0, none⟩) (n := k) (c := c5) (by rfl) ⟨_, 0, none⟩ 1 1 (by rfl) ho5 rfl HS5.out (k + 1) rfl (by omega) hz5 ?_; intro A6 c6 w6 ho6 hb6 _ _ hn6; obtain ⟨g6, rfl⟩ := hn6 (by simp); have hbw6 := hbw5.trans hb6; have hz6 := hbw6.size; clear hn6 hb6)
          | (refine step_appP (by rfl) _ _ (by rfl) (B := W.heap.size) (ps := ps.take k ++ [(t, m)]) (qs := ps.drop k) (A := some ⟨g6, 0, none⟩) (n := k + 1) (c := c6) (by rfl) _ (n - k) (c - k) (by rfl) ho6 hkD.out (HD.out _ hbw6) (n + 1) (by omega) (by omega) hz6 ?_; intro A7 c7 w7 ho7 hb7 _ _ hn7; obtain ⟨g7, rfl⟩ := hn7 (by simp); have hbw7 := hbw6.trans hb7; clear hn7 hb7))
        all_goals
          go_wp2_with fail
          go_ret
          exact ⟨g7, n + 1, c7, rfl, by rw [HR.out]; exact ho7, hbw7⟩
end Go.Proofs.Ytlfgmljgoolbeaa
