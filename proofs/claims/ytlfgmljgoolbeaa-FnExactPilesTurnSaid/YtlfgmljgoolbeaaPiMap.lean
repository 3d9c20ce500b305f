/- A map that the call has made, as the sums of the piles that went into it; its keys, sorted. -/
import Derived.Test.YtlfgmljgoolbeaaIter0
import Derived.Test.YtlfgmljgoolbeaaPiOwn
import Derived.Maps.OwnOps
import Derived.Maps.OwnSet
import Derived.Sort.KeysCollected
namespace Go.Proofs.Ytlfgmljgoolbeaa
open Go.RowKit Go.Maps Go.Sort Go.Shelf

theorem sorts_any (m : Nat) : AnyZ.SortsIn Try.prog Try.sorted57_ren Fence.wide m :=
  ⟨fun blk off cap ss W hH hblk hsz => callsIn_wide.2 (AnyM.slices_Sort_string Try.sort64 blk off cap ss W hH hblk hsz),
   fun p cap W => callsIn_wide.2 (AnyM.slices_Sort_string_none Try.sort64 p cap W)⟩
theorem mapsKeys_any (mb : Option Nat) (W : World) : Calls Try.prog 58 #[.map mb] W fun e w' => e = .returned (.func (.func 65) #[] #[.pointer (some ⟨W.heap.size, 0, none⟩)]) ∧ w' = W.alloc (.cells #[.map mb] 75) :=
  (callsIn_wide (n := 5)).1 (AnyZ.keys_in Try.keys58 Fence.wide 5 trivial rfl mb W)
set_option maxHeartbeats 1000000 in
theorem sorted_raw {H : Type} (b nn : Nat) (D0 : DataW H) (R : Value → Option (DataW H × List MemPlace)) (w : World) (hown : w.ownsMap Try.prog 9 R b nn D0) (hmax : Maps.size D0 ≤ maxLen) (hbytes : Maps.size D0 * 16 ≤ 140737488355328) :
    Calls Try.prog 57 #[.func (.func 65) #[] #[.pointer (some ⟨w.heap.size, 0, none⟩)]] (w.alloc (.cells #[.map (some b)] 75)) fun e w' => ∃ (v : Value) (ss : List (List UInt8)), e = .returned v ∧ ss.Perm (strKeys D0) ∧
      w'.ownsRow (w.alloc (.cells #[.map (some b)] 75)).heap.size 9 1 v ss.length ((ss.mergeSort (fun x y => decide (x ≤ y))).map encStr) ∧ (v = .slice none 0 0 ↔ ss = []) ∧ Below (w.alloc (.cells #[.map (some b)] 75)).heap.size (w.alloc (.cells #[.map (some b)] 75)) w' := by
  have hbl := hown.lt
  have hseq : SeqGives Fence.wide 2 Try.prog 65 #[.pointer (some ⟨w.heap.size, 0, none⟩)] encStr (fun ss => ss.Perm (strKeys D0)) (Maps.size D0) (w.alloc (.cells #[.map (some b)] 75)) :=
    AnyZ.keys_gives (ρ := Try.keys58_ren) { Try.keys58 with } Fence.wide _ trivial rfl (by omega) w.heap.size b nn D0 _ (by simp) (by simp) (by
      obtain ⟨es, clock, hb, Ft, hs, hD⟩ := hown
      exact ⟨es, clock, (Below.heap_alloc _ _ b hbl).trans hb, Ft, hs, hD⟩)
  exact (callsIn_wide (n := 5)).1 (AnyZ.sorted_in Try.sorted57 Fence.wide 5 trivial trivial trivial trivial rfl (by omega) (sorts_any _) (enters_of Try.func64 (by kernel_rfl) rfl) 65 #[.pointer (some ⟨w.heap.size, 0, none⟩)] trivial (enters_of Try.func65 (by kernel_rfl) rfl) _ _ hmax hbytes _ hseq)

/-- block b is a map of the sums of es -/
def MapOf (W : World) (b n : Nat) (es : List Pil.Pl) : Prop :=
  ∃ D : DataW Unit, W.ownsMap Try.prog 9 (plainElem Try.prog 3) b n D ∧ IsMap D ∧ (∀ u : ByteArray, D.atKey (.string u.data.toList) (.lit (.int .i64 0)) = .lit (.int .i64 (Pil.sumAt es u))) ∧ ∀ u : ByteArray, Maps.has D (.string u.data.toList) = true ↔ Pil.has es u
theorem MapOf.made (w : World) : MapOf (w.alloc (.map #[] 0)) w.heap.size 0 [] :=
  ⟨.map [], World.ownsMap_made w _ _ _, isMap_empty, fun u => rfl, fun u => by simp [Maps.has, Pil.has]⟩
theorem MapOf.lt {W : World} {b n : Nat} {es : List Pil.Pl} (h : MapOf W b n es) : b < W.heap.size := by
  obtain ⟨D, h1, _⟩ := h
  exact h1.lt
theorem MapOf.below {W W' : World} {b n B : Nat} {es : List Pil.Pl} (h : MapOf W b n es) (hb : Below B W W') (hlt : b < B) : MapOf W' b n es := by
  obtain ⟨D, ⟨e, clock, g1, g2⟩, h2⟩ := h
  exact ⟨D, ⟨e, clock, (hb.block b hlt).trans g1, g2⟩, h2⟩
theorem MapOf.lookup {W : World} {b n : Nat} {es : List Pil.Pl} (h : MapOf W b n es) (u : ByteArray) (hu : u.size ≤ maxLen) : (Instr.lookup 75 (.map (some b)) (.string u) false).run Try.prog W = .ok (.int .i64 (Pil.sumAt es u)) W := by
  obtain ⟨D, h1, h2, h3, h4⟩ := h
  obtain ⟨c, hr, hat, -⟩ := h1.lookup_int (t := 75) (q := .i64) (string_keyed Try.underlying9) Try.underlying75 Try.underlying3 (by have := Try.zeroValue3; simp [this]) (Go.WideMaps.keyOf_string_mk Try.underlying9 hu)
  rw [h3 u] at hat
  have hat2 := (Lit.int.inj (DataW.lit.inj hat)).2
  rw [hat2]; exact hr
theorem MapOf.update {W : World} {b n : Nat} {es : List Pil.Pl} (h : MapOf W b n es) (u : ByteArray) (m : Int) (hu : u.size ≤ maxLen) (hn : n < maxLen) (h0 : -4611686018427387904 ≤ Pil.sumAt es u + m) (h1 : Pil.sumAt es u + m ≤ 4611686018427387904) :
    ∃ w', (Instr.mapUpdate 75 (.map (some b)) (.string u) (.int .i64 (Pil.sumAt es u + m))).run Try.prog W = .ok () w' ∧ MapOf w' b (n + 1) (es ++ [(u, m)]) ∧ W.grownBy w' (some b) := by
  obtain ⟨D, g1, g2, g3, g4⟩ := h
  obtain ⟨w', hr, ho, hg⟩ := g1.update (t := 75) (string_keyed Try.underlying9) Try.underlying75 hn (Go.WideMaps.keyOf_string_mk Try.underlying9 hu) (plainElem_int Try.underlying3 (a := Pil.sumAt es u + m) (WalkArith.wf_i64 (by omega)))
  refine ⟨w', hr, ⟨_, ho, ho.isMap, fun v => ?_, fun v => ?_⟩, hg⟩
  · by_cases hv : u = v
    · subst hv
      rw [atKey_put_same g2 (by trivial), Pil.sumAt_append]
      simp [Pil.sumAt]
    · rw [atKey_put_other (fun e => hv (Pil.ba_ext (Lit.string.inj e).symm)), g3 v, Pil.sumAt_append]
      simp [Pil.sumAt, hv]
  · by_cases hv : u = v
    · subst hv
      rw [has_put_same g2 (by trivial)]
      simp [Pil.has]
    · rw [has_put_other (fun e => hv (Pil.ba_ext (Lit.string.inj e).symm)), g4 v, Pil.has_append]
      simp [Pil.has, hv]
theorem strKeys_facts {es : List (Lit × DataW Unit)} (hp : es.Pairwise (fun p q => p.1 ≠ q.1)) (hk : ∀ p ∈ es, ∃ x, p.1 = .string x) : (strKeys (.map es)).Nodup ∧ ∀ x, x ∈ strKeys (.map es) ↔ Maps.has (.map es) (.string x) = true := by
  constructor
  · show (es.map fun p => strOf p.1).Nodup
    refine List.pairwise_map.2 (hp.imp_of_mem fun {p q} hp' hq' hne e => hne ?_)
    obtain ⟨a, ha⟩ := hk p hp'
    obtain ⟨b, hb⟩ := hk q hq'
    rw [ha, hb] at e ⊢
    exact congrArg _ e
  · intro x
    rw [has_eq, List.any_eq_true]
    show x ∈ es.map (fun p => strOf p.1) ↔ _
    rw [List.mem_map]
    constructor
    · rintro ⟨p, hp', rfl⟩
      obtain ⟨a, ha⟩ := hk p hp'
      exact ⟨p, hp', by rw [ha]; simp [Lit.sameKey, strOf]⟩
    · rintro ⟨p, hp', hs⟩
      obtain ⟨a, ha⟩ := hk p hp'
      rw [ha] at hs
      exact ⟨p, hp', by rw [ha]; simpa [Lit.sameKey, strOf] using hs⟩

def mkB (x : List UInt8) : ByteArray := ⟨x.toArray⟩
/-- the keys of a map, in order -/
def SortPost (W : World) (es : List Pil.Pl) (e : Ending) (w' : World) : Prop :=
  ∃ (A : Option Addr) (c : Nat) (ks : List ByteArray), e = .returned (.slice A ks.length c) ∧ ks.Pairwise (fun x y => Pil.bl x y = true) ∧ (∀ u, u ∈ ks ↔ Pil.has es u) ∧
    (0 < ks.length → ∃ g, A = some ⟨g, 0, none⟩ ∧ W.heap.size ≤ g ∧ g < w'.heap.size ∧ ∀ j (h : j < ks.length), w'.cell? ⟨g, j, none⟩ = some (.string ks[j])) ∧ Below W.heap.size W w'
theorem sortedKeys_any (b n : Nat) (es : List Pil.Pl) (W : World) (h : MapOf W b n es) (hn : n ≤ 4194304) :
    Calls Try.prog 57 #[.func (.func 65) #[] #[.pointer (some ⟨W.heap.size, 0, none⟩)]] (W.alloc (.cells #[.map (some b)] 75)) (SortPost W es) := by
  obtain ⟨D, h1, h2, h3, h4⟩ := h
  have hsz := h1.size_le
  refine (sorted_raw b n D _ W h1 (by unfold maxLen; omega) (by omega)).mono ?_
  rintro e w' ⟨v, ss, rfl, hperm, hown, hnil, hb⟩
  obtain ⟨ens, rfl, hpw, -⟩ := h1.entries (string_keyed Try.underlying9)
  obtain ⟨ens', hD', hko⟩ := h1.keysOf
  obtain rfl : ens = ens' := by simpa using hD'
  obtain ⟨f1, f2⟩ := strKeys_facts hpw (fun p hp => by obtain ⟨v, hv⟩ := hko p hp; obtain ⟨x, _, hx, _⟩ := Maps.keyOf_str Try.underlying9 hv; exact ⟨x, hx⟩)
  have hl : (ss.mergeSort leB).length = ss.length := List.length_mergeSort ss
  have hnd : (ss.mergeSort leB).Nodup := ((List.mergeSort_perm ss leB).trans hperm).nodup_iff.2 f1
  have hmem : ∀ x, x ∈ ss.mergeSort leB ↔ Maps.has (.map ens) (.string x) = true := fun x => by
    rw [((List.mergeSort_perm ss leB).trans hperm).mem_iff, f2 x]
  have tr : ∀ a b c : List UInt8, leB a b = true → leB b c = true → leB a c = true := fun a b c h1 h2 => by simp only [leB, decide_eq_true_eq] at *; exact List.le_trans h1 h2
  have ttl : ∀ a b : List UInt8, (leB a b || leB b a) = true := fun a b => by simp only [leB, Bool.or_eq_true, decide_eq_true_eq]; exact List.le_total a b
  have hsort := List.pairwise_mergeSort tr ttl ss
  have hb2 := Reg.unalloc hb
  obtain ⟨A, c, rfl⟩ : ∃ A c, v = .slice A ss.length c := by
    rcases hown.2 with ⟨h5, h6⟩ | ⟨g, cap, cur, h5, _⟩
    · exact ⟨none, 0, by rw [h5, h6]⟩
    · exact ⟨_, _, h5⟩
  refine ⟨A, c, (ss.mergeSort leB).map mkB, by rw [List.length_map, hl], ?_, fun u => ?_, fun h0 => ?_, hb2⟩
  · rw [List.pairwise_map]
    refine (hsort.and (List.nodup_iff_pairwise_ne.1 hnd)).imp ?_
    rintro a b ⟨hle, hne⟩
    rw [Pil.bl_eq]
    simp only [leB, decide_eq_true_eq] at hle ⊢
    by_cases hlt : a < b
    · exact hlt
    · exact absurd (List.le_antisymm hle (List.not_lt.1 hlt)) hne
  · rw [List.mem_map, ← h4 u]
    constructor
    · rintro ⟨x, hx, rfl⟩
      exact (hmem x).1 hx
    · intro hu
      exact ⟨u.data.toList, (hmem _).2 hu, Pil.ba_ext rfl⟩
  · rw [List.length_map, hl] at h0
    rcases hown.2 with ⟨_, h6⟩ | ⟨g, cap, cur, h5, h6, h7, h8, h9, h10, h11⟩
    · omega
    · injection h5 with e1 e2 e3
      refine ⟨g, e1, by simp at h6; omega, (Array.getElem?_eq_some_iff.1 h7).1, fun j hj => ?_⟩
      have hj2 : j < (ss.mergeSort leB).length := by simpa using hj
      have e : (cur.toList.take (ss.length * 1))[j]? = ((ss.mergeSort leB).map encStr)[j]? := by rw [h11]
      rw [List.getElem?_take, if_pos (by omega), List.getElem?_map, List.getElem?_eq_getElem hj2] at e
      rw [cell_of_row w' g j cur 9 (0, 0) h7, ← Array.getElem?_toList, e, List.getElem_map]
      rfl
end Go.Proofs.Ytlfgmljgoolbeaa
