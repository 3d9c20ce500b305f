/- pilesOf: the piles of some lists together. -/
import Derived.Test.YtlfgmljgoolbeaaPiMap
import Derived.Test.YtlfgmljgoolbeaaPiAddS
namespace Go.Proofs.Ytlfgmljgoolbeaa
open Go.RowKit
set_option linter.unusedSimpArgs false

/-- block g holds slices of piles -/
def RdLs (W : World) (B g : Nat) (Ls : List (List Pil.Pl)) : Prop := g < B ∧ ∀ i (h : i < Ls.length), ∃ A n c, W.cell? ⟨g, i, none⟩ = some (.slice A n c) ∧ RdP W B A n Ls[i]
theorem RdLs.below {W W' : World} {B g : Nat} {Ls : List (List Pil.Pl)} (h : RdLs W B g Ls) (hb : Below B W W') : RdLs W' B g Ls :=
  ⟨h.1, fun i hi => let ⟨A, n, c, h1, h2⟩ := h.2 i hi; ⟨A, n, c, (hb.cell (p := ⟨g, i, none⟩) h.1).trans h1, h2.below hb⟩⟩
def gatherOk (es : List Pil.Pl) : Bool := Pil.plv (Pil.merge [] es)
def gatherL (es : List Pil.Pl) : List Pil.Pl := if gatherOk es then Pil.merge [] es else []

theorem pv_size {p : Pil.Pl} (h : Pil.pv p = true) : p.1.size ≤ 5 := by
  have := Bal.okT_len (Pil.pv_iff.1 h).1
  simpa using this
theorem sum_le {es : List Pil.Pl} (h : ∀ p ∈ es, Pil.pv p = true) (u : ByteArray) : 0 ≤ Pil.sumAt es u ∧ Pil.sumAt es u ≤ 99 * es.length := by
  have h1 := sumAt_le (u := u) h
  have h2 := Pil.total_bound h
  omega
theorem flat_succ {Ls : List (List Pil.Pl)} {k : Nat} (h : k < Ls.length) : (Ls.take (k + 1)).flatten = (Ls.take k).flatten ++ Ls[k] := by
  rw [Bal.take_succ_get Ls k h, List.flatten_append]
  simp only [List.flatten_cons, List.flatten_nil, List.append_nil]
theorem keysL_succ {es : List Pil.Pl} {ks : List ByteArray} {j : Nat} (h : j < ks.length) : (ks.map (fun u => (u, Pil.sumAt es u))).take (j + 1) = (ks.map (fun u => (u, Pil.sumAt es u))).take j ++ [(ks[j], Pil.sumAt es ks[j])] := by
  rw [Bal.take_succ_get (ks.map (fun u => (u, Pil.sumAt es u))) j (by simpa using h), List.getElem_map]
theorem flat_sub {Ls : List (List Pil.Pl)} {k j : Nat} (hk : k < Ls.length) (hp : ∀ l ∈ Ls, ∀ p ∈ l, Pil.pv p = true) : ∀ p ∈ (Ls.take k).flatten ++ Ls[k].take j, Pil.pv p = true := by
  intro p hp'
  rcases List.mem_append.1 hp' with h | h
  · obtain ⟨l, hl, h⟩ := List.mem_flatten.1 h
    exact hp l (List.mem_of_mem_take hl) p h
  · exact hp Ls[k] (List.getElem_mem hk) p (List.mem_of_mem_take h)
theorem flat_len {Ls : List (List Pil.Pl)} {k j : Nat} (hk : k < Ls.length) (hl : Ls.flatten.length ≤ 100) : ((Ls.take k).flatten ++ Ls[k].take j).length ≤ 100 ∧ Ls[k].length ≤ 100 := by
  have h1 : Ls.flatten = (Ls.take k).flatten ++ Ls[k] ++ (Ls.drop (k + 1)).flatten := by
    rw [← flat_succ hk, ← List.flatten_append, List.take_append_drop]
  have h2 := congrArg List.length h1
  simp only [List.length_append] at h2
  have h3 : (Ls[k].take j).length ≤ Ls[k].length := by rw [List.length_take]; omega
  rw [List.length_append]
  omega

set_option maxHeartbeats 6400000 in
set_option maxRecDepth 100000 in
theorem pilesOf_any (g c : Nat) (Ls : List (List Pil.Pl)) (W : World) (h : RdLs W W.heap.size g Ls) (hp : ∀ l ∈ Ls, ∀ p ∈ l, Pil.pv p = true) (hlen : Ls.flatten.length ≤ 100) (hN : Ls.length ≤ 100) :
    Calls Try.prog 39 #[.slice (some ⟨g, 0, none⟩) Ls.length c] W (ResP W (gatherL Ls.flatten) (gatherOk Ls.flatten)) := by
  have HP := Lib.hid hp
  have HLEN := Lib.hid hlen
  have HMade := Lib.hid (MapOf.made W)
  have hmm := run_makeMap (P := Try.prog) 75 W
  obtain ⟨N, hNe⟩ : ∃ N, N = Ls.length := ⟨_, rfl⟩
  rw [← hNe] at hN ⊢
  have HNe := Lib.hid hNe
  clear hp hlen hNe
  go_enter Try.func39, Try.ntmps39
  go_wp2_with fail
  clear hmm
  go_loopw [15] (fun i wr => ∃ k : Nat, k ≤ N ∧ i = .int .i64 k ∧ MapOf wr W.heap.size (Ls.take k).flatten.length (Ls.take k).flatten ∧ Below W.heap.size W wr) (fun i _ => N - (intOf i).toNat)
  case atStart => exact ⟨0, Nat.zero_le _, rfl, HMade.out, (Below.refl _ _).alloc (Nat.le_refl _) _⟩
  case round =>
    obtain ⟨k, hk, rfl, hm, hb⟩ := hrel
    obtain ⟨wo, rfl⟩ : ∃ x, x = wr := ⟨wr, rfl⟩
    have HM := Lib.hid hm
    clear hm
    by_cases hlt : k < N
    · have hk' : k < Ls.length := by have := HNe.out; omega
      have hlt' : (k : Int) < (N : Int) := by omega
      have hk0 : (0 : Int) ≤ (k : Int) := by omega
      obtain ⟨A, n, cn, hc, hrd⟩ := (h.below hb).2 k hk'
      have HSub := Lib.hid (fun j => flat_sub (j := j) hk' HP.out)
      have HFl := Lib.hid (fun j => (flat_len (j := j) hk' HLEN.out))
      have HFs := Lib.hid (flat_succ hk')
      have hn100 : n ≤ 100 := by have h1 := (HFl.out 0).2; have h2 := hrd.len; omega
      have HRd := Lib.hid (fun (w' : World) (hb' : Below W.heap.size wo w') => hrd.below hb')
      have HLk := Lib.hid hrd.len
      have HM0 : Hid (MapOf wo W.heap.size ((Ls.take k).flatten ++ Ls[k].take 0).length ((Ls.take k).flatten ++ Ls[k].take 0)) := by
        have h1 := HM.out
        show MapOf wo W.heap.size ((Ls.take k).flatten ++ Ls[k].take 0).length ((Ls.take k).flatten ++ Ls[k].take 0)
        rw [List.take_zero, List.append_nil]; exact h1
      clear hrd h
      generalize (Ls.take k).flatten = es0 at *
      generalize Ls[k] = ps at *
      go_wp2_with fail
      go_loopw [21] (fun i w2 => ∃ j : Nat, j ≤ n ∧ i = .int .i64 j ∧ MapOf w2 W.heap.size (es0 ++ ps.take j).length (es0 ++ ps.take j) ∧ Below W.heap.size wo w2) (fun i _ => n - (intOf i).toNat)
      case atStart => exact ⟨0, Nat.zero_le _, rfl, HM0.out, Below.refl _ _⟩
      case round =>
        obtain ⟨j, hj, rfl, hm2, hb2⟩ := hrel
        have hBs : W.heap.size ≤ wo.heap.size := hb.size
        have hBs2 := hb2.size
        have hmlt := hm2.lt
        by_cases hltj : j < n
        · have hj' : j < ps.length := by have := HLk.out; omega
          have hltj' : (j : Int) < (n : Int) := by omega
          have hj0 : (0 : Int) ≤ (j : Int) := by omega
          obtain ⟨b, off, hA, hbB, hcell⟩ := (HRd.out wr hb2).at_ hj'
          subst hA
          obtain ⟨c0, c1⟩ := hcell j hj'
          have hv : Pil.pv ps[j] = true := HSub.out (j + 1) ps[j] (List.mem_append_right _ (by rw [Bal.take_succ_get ps j hj']; exact List.mem_append_right _ (List.mem_singleton_self _)))
          have hsz5 := pv_size hv
          obtain ⟨v0, v1⟩ := Pil.pv_pos hv
          obtain ⟨s0, s1⟩ := sum_le (HSub.out j) ps[j].1
          have hfl := (HFl.out j).1
          have hma := hm2.below ((Below.refl _ wr).alloc (Nat.le_refl _) (.cells #[.string ps[j].1, .int .i64 ps[j].2] 44)) hmlt
          have hlk := hma.lookup ps[j].1 (by unfold maxLen; omega)
          obtain ⟨w3, hup, hm3, hg3⟩ := hma.update ps[j].1 ps[j].2 (by unfold maxLen; omega) (by unfold maxLen; omega) (by omega) (by omega)
          have HM3 : Hid (MapOf w3 W.heap.size (es0 ++ ps.take (j + 1)).length (es0 ++ ps.take (j + 1))) := by
            show MapOf w3 W.heap.size (es0 ++ ps.take (j + 1)).length (es0 ++ ps.take (j + 1))
            rw [Bal.take_succ_get ps j hj', ← List.append_assoc, List.length_append]
            exact hm3
          have HB3 := Lib.hid (show Below W.heap.size wo w3 from hb2.trans (((Below.refl _ wr).alloc (by omega) _).trans ⟨hg3.os, hg3.tape, hg3.output, hg3.size, fun i hi => hg3.block i (by simp; omega) (fun e => by injection e with e; omega)⟩))
          clear hcell hm2 hma hm3 hg3 hv hsz5
          generalize ps[j].1 = s at *
          generalize ps[j].2 = y at *
          generalize Pil.sumAt (es0 ++ ps.take j) s = S at *
          have hS1 : S ≤ 9900 := by omega
          clear s1 hfl
          go_wp2_with fail
          go_roundw
          case rel => exact ⟨j + 1, by omega, by go_num, HM3.out, HB3.out⟩
          case measure => simp [intOf]; omega
        · have hltj' : ¬ (j : Int) < (n : Int) := by omega
          have hjl : ps.length ≤ j := by have := HLk.out; omega
          have HM2 : Hid (MapOf wr W.heap.size (Ls.take (k + 1)).flatten.length (Ls.take (k + 1)).flatten) := by
            have h1 := hm2
            rw [List.take_of_length_le hjl, ← HFs.out] at h1
            exact h1
          have hbw := hb.trans hb2
          clear hm2
          go_wp2_with fail
          go_roundw
          case rel => exact ⟨k + 1, by omega, by go_num, HM2.out, hbw⟩
          case measure => simp [intOf]; omega
    · have hlt' : ¬ (k : Int) < (N : Int) := by omega
      have hT : Ls.take k = Ls := List.take_of_length_le (by have := HNe.out; omega)
      have hm := HM.out
      rw [hT] at hm
      have HPe := Lib.hid (fun (p : Pil.Pl) (hp : p ∈ Ls.flatten) => (show Pil.pv p = true by obtain ⟨l, hl, h1⟩ := List.mem_flatten.1 hp; exact HP.out l hl p h1))
      have HSm := Lib.hid (fun u => sum_le (es := Ls.flatten) (fun p hp => by obtain ⟨l, hl, h1⟩ := List.mem_flatten.1 hp; exact HP.out l hl p h1) u)
      have hLF := HLEN.out
      have hmlt := hm.lt
      clear hT HM h
      generalize Ls.flatten = es at *
      have hBs := hb.size
      have HMr := Lib.hid hm
      have HSK := Lib.hid (sortedKeys_any W.heap.size es.length es wo hm (by omega))
      clear hm
      go_wp2_with fail
      refine (mapsKeys_any _ _).mono ?_
      rintro e w1 ⟨rfl, rfl⟩
      go_wp2_with fail
      refine HSK.out.mono ?_
      rintro e w3 ⟨A3, c3, ks, rfl, hpw, hmem, hat3, hb3⟩
      have HG := Lib.hid (Pil.gather_keys hpw hmem)
      have hKlen : ks.length ≤ 100 := by
        have h1 : ks.length ≤ es.length := by
          have h2 : ∀ u ∈ ks, u ∈ es.map Prod.fst := fun u hu => by
            obtain ⟨p, hp, e⟩ := (hmem u).1 hu
            exact List.mem_map.2 ⟨p, hp, e⟩
          have := List.Nodup.length_le_of_subset (hpw.imp fun h => Pil.bl_ne h) h2
          simpa using this
        omega
      have HKs := Lib.hid (fun u (hu : u ∈ ks) => (show u.size ≤ maxLen by
        obtain ⟨p, hp, e⟩ := (hmem u).1 hu
        have h5 := pv_size (HPe.out p hp)
        rw [e] at h5
        unfold maxLen; omega))
      have HAt := Lib.hid hat3
      have HM3 := Lib.hid (HMr.out.below hb3 hmlt)
      have hbw3 := hb.trans (hb3.mono hBs)
      have hBs3 := hb3.size
      clear hpw hmem hat3 hb3
      obtain ⟨K, hK⟩ : ∃ K, K = ks.length := ⟨_, rfl⟩
      rw [← hK] at hKlen ⊢
      have HK := Lib.hid hK
      clear hK
      go_wp2_with fail
      go_loopw [9, 38] (fun v i wr => ∃ (j : Nat) (A' : Option Addr) (c' : Nat), j ≤ K ∧ i = .int .i64 j ∧ v = .slice A' j c' ∧ OwP wr w3.heap.size A' j c' ((ks.map (fun u => (u, Pil.sumAt es u))).take j) ∧ Below w3.heap.size w3 wr) (fun _ i _ => K - (intOf i).toNat)
      case atStart => exact ⟨0, none, 0, Nat.zero_le _, rfl, rfl, OwP.nil _ _, Below.refl _ _⟩
      case round =>
        obtain ⟨j, A', c', hj, rfl, rfl, ho, hb4⟩ := hrel
        have HO := Lib.hid ho
        clear ho
        have hBs4 := hb4.size
        by_cases hltj : j < K
        · have hj' : j < ks.length := by have := HK.out; omega
          have hltj' : (j : Int) < (K : Int) := by omega
          have hj0 : (0 : Int) ≤ (j : Int) := by omega
          obtain ⟨g3, hA3, hg3a, hg3b, hcl⟩ := HAt.out (by omega)
          subst hA3
          have hc : wr.cell? ⟨g3, j, none⟩ = some (.string ks[j]) := (hb4.cell (p := ⟨g3, j, none⟩) hg3b).trans (hcl j hj')
          have hlk := (HM3.out.below hb4 (by omega)).lookup ks[j] (HKs.out _ (List.getElem_mem hj'))
          have HS := Lib.hid (keysL_succ (es := es) hj')
          clear hcl
          generalize ks[j] = u at *
          generalize Pil.sumAt es u = S at *
          go_wp2_with (at_builtin; refine wpList_appP (by rfl) _ _ (by rfl) (B := w3.heap.size) (qs := [(u, S)]) (by rfl) ⟨wr.heap.size, 0, none⟩ 1 1 (by rfl) (HO.out.alloc _) rfl (srcp_one (by simp [go_sem]) (by simp [go_sem])) (j + 1) rfl (by omega) (by simp; omega) ?_)
          intro A5 c5 w5 ho5 hb5
          intros
          have hb6 := (hb4.alloc hBs4 _).trans hb5
          rw [← HS.out] at ho5
          have HO5 := Lib.hid ho5
          clear ho5 hb5
          go_wp2_with fail
          go_roundw
          case rel => exact ⟨j + 1, A5, c5, by omega, by go_num, rfl, HO5.out, hb6⟩
          case measure => simp [intOf]; omega
        · have hltj' : ¬ (j : Int) < (K : Int) := by omega
          have hjK : j = K := by omega
          subst hjK
          have ho := HO.out
          rw [List.take_of_length_le (by rw [List.length_map]; have := HK.out; omega), HG.out] at ho
          have hv := iPilesValid_any A' j c' _ wr ho.rd (by omega) (fun p hp => by
            have h1 : ∀ q ∈ Pil.merge [] es, q.1.size ≤ 4194304 := merge_sizes (by simp) (fun q hq => by have := pv_size (HPe.out q hq); omega)
            exact h1 p hp)
          have hbw := hbw3.trans (hb4.mono hbw3.size)
          cases hok : Pil.plv (Pil.merge [] es) with
          | false =>
            have HV := Lib.hid (bool_to hv hok)
            have HR := Lib.hid (show gatherOk es = false ∧ gatherL es = [] by simp [gatherOk, gatherL, hok])
            clear hv hok ho
            go_wp2_with fail
            refine HV.out.mono ?_
            rintro e w6 ⟨rfl, hb6⟩
            go_wp2_with fail
            go_ret2
            exact ⟨none, 0, 0, ret_pair HR.out.1.symm, by rw [HR.out.2]; exact OwP.nil _ _, hbw.trans (hb6.mono hbw.size)⟩
          | true =>
            have HV := Lib.hid (bool_to hv hok)
            have HR := Lib.hid (show gatherOk es = true ∧ gatherL es = Pil.merge [] es by simp [gatherOk, gatherL, hok])
            have HO2 := Lib.hid ho
            clear hv hok ho
            go_wp2_with fail
            refine HV.out.mono ?_
            rintro e w6 ⟨rfl, hb6⟩
            go_wp2_with fail
            go_ret2
            exact ⟨A', j, c', ret_pair HR.out.1.symm, by rw [HR.out.2]; exact (HO2.out.below hb6).base hbw3.size, hbw.trans (hb6.mono hbw.size)⟩
end Go.Proofs.Ytlfgmljgoolbeaa
