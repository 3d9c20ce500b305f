/- What is carried over the calls of a reader: its block alone, and new blocks, are written. -/
import Derived.Test.YtnolnlhoedafcaaDraw
import Derived.Test.YtnolnlhoedafcaaOwn
import Derived.Deep.RegionWith
import Derived.Deep.RegionLaw
namespace Go.Proofs.Ytnolnlhoedafcaa
open Go.RowKit

theorem gcell {W w1 : World} {g : Nat} (hg : W.grownBy w1 (some g)) :
    (∀ b o, b < W.heap.size → ¬ b = g → w1.cell? ⟨b, o, none⟩ = W.cell? ⟨b, o, none⟩) ∧ (∀ b o, b < W.heap.size → ¬ b = g → w1.frozen? ⟨b, o, none⟩ = W.frozen? ⟨b, o, none⟩) :=
  ⟨fun b o h hne => World.cell?_of_block (hg.block b h (fun e => hne (by injection e))), fun b o h hne => World.frozen?_of_block (hg.block b h (fun e => hne (by injection e)))⟩
theorem gtrans {a b c : World} {r : Option Nat} (h : a.grownBy b r) (k : b.grownBy c r) : a.grownBy c r :=
  ⟨k.os.trans h.os, k.tape.trans h.tape, k.output.trans h.output, Nat.le_trans h.size k.size, fun i hi hne => (k.block i (Nat.lt_of_lt_of_le hi h.size) hne).trans (h.block i hi hne)⟩

/-- from W on, the reader in block g, at a place of at most P: of what W has, block g alone has turned -/
def Dr (W : World) (g P : Nat) (wr : World) : Prop := Rdr wr g P ∧ W.grownBy wr (some g) ∧ g < W.heap.size

section
variable {W w1 w2 : World} {g P P' B : Nat}
theorem Dr.start (h : Rdr W g P) : Dr W g P W := ⟨h, ⟨rfl, rfl, rfl, Nat.le_refl _, fun _ _ _ => rfl⟩, h.lt⟩
theorem Dr.rdr (h : Dr W g P w1) : Rdr w1 g P := h.1
theorem Dr.lt (h : Dr W g P w1) : g < W.heap.size := h.2.2
theorem Dr.size (h : Dr W g P w1) : W.heap.size ≤ w1.heap.size := h.2.1.size
theorem Dr.mono (h : Dr W g P w1) (hP : P ≤ P') : Dr W g P' w1 := ⟨h.1.mono hP, h.2⟩
theorem Dr.pick (h : Dr W g P w1) (hr : Rdr w2 g P') (hg : w1.grownBy w2 (some g)) : Dr W g P' w2 := ⟨hr, gtrans h.2.1 hg, h.2.2⟩
theorem Rdr.belowB (h : Rdr w1 g P) (hb : Below B w1 w2) (hg : g < B) : Rdr w2 g P := h.keep hb.size fun k hk => hb.block k (by omega)
theorem Dr.belowB (h : Dr W g P w1) (hb : Below W.heap.size w1 w2) : Dr W g P w2 :=
  ⟨h.1.belowB hb h.lt, ⟨hb.os.trans h.2.1.os, hb.tape.trans h.2.1.tape, hb.output.trans h.2.1.output, Nat.le_trans h.2.1.size hb.size, fun i hi hne => (hb.block i hi).trans (h.2.1.block i hi hne)⟩, h.2.2⟩
theorem Dr.below (h : Dr W g P w1) (hb : Below w1.heap.size w1 w2) : Dr W g P w2 := h.belowB (hb.mono h.size)
theorem Dr.alloc (h : Dr W g P w1) (o : Obj) : Dr W g P (w1.alloc o) := h.below ((Below.refl _ _).alloc (Nat.le_refl _) o)
theorem Dr.drew (h : Dr W g P w1) : Dr W g P w1.drew := h.below ((Below.refl _ _).drew)
theorem Dr.drewN (h : Dr W g P w1) (q : Nat) : Dr W g P (w1.drewN q) := h.below (Reg.drewN (Below.refl _ _) q)
/-- a function that was called at w1 with the reader, and ends as a draw -/
theorem Dr.trans (h : Dr W g P w1) (k : Dr w1 g P' w2) : Dr W g P' w2 := ⟨k.1, gtrans h.2.1 k.2.1, h.2.2⟩
/-- below g's block nothing has turned -/
theorem Dr.belowW (h : Dr W g P w1) {w : World} (hb : Below w.heap.size w W) (hg : w.heap.size ≤ g) : Below w.heap.size w w1 :=
  ⟨h.2.1.os.trans hb.os, h.2.1.tape.trans hb.tape, h.2.1.output.trans hb.output, Nat.le_trans hb.size h.2.1.size, fun k hk => (h.2.1.block k (Nat.lt_of_lt_of_le hk hb.size) (fun e => by injection e with e; omega)).trans (hb.block k hk)⟩
theorem OwA.pick {n c : Nat} {A : Option Addr} {xs : List Int} (h : OwA w1 B A n c xs) (hg : w1.grownBy w2 (some g)) (hlt : g < B) : OwA w2 B A n c xs := h.above hg hlt
end

/-- pick, seen from W -/
def PickD (W : World) (g P : Nat) (m : Int) (w1 : World) (e : Ending) (w2 : World) : Prop :=
  ∃ v : Int, e = .returned (.int .i64 v) ∧ 0 ≤ v ∧ (1 ≤ m → v < m) ∧ Dr W g (P + 1) w2 ∧ w1.grownBy w2 (some g) ∧ w2.heap.size = w1.heap.size
theorem pickD_any {W w1 : World} {g P : Nat} (m : Int) (h : Dr W g P w1) (hP : P ≤ 1000000) :
    Calls Try.prog 26 #[.pointer (some ⟨g, 0, none⟩), .int .i64 m] w1 (PickD W g P m w1) :=
  (pick_any g P m w1 hP h.rdr).mono fun _ _ ⟨v, he, h0, h1, hr, hg, hz⟩ => ⟨v, he, h0, h1, h.pick hr hg, hg, hz⟩

theorem run_pick (g : Nat) (m : Int) (w : World) : (callFunc 26 #[Value.pointer (some ⟨g, 0, none⟩), .int .i64 m]).run Try.prog w = .ok (.enter 26 #[.pointer (some ⟨g, 0, none⟩), .int .i64 m]) w := by
  have h := Try.func26
  go_simp
/-- pick, as one step of a region that draws: for go_region_law -/
theorem step_pick {ops : Array Oper} {o : Oper} {a : Act} {K : Act → World → Prop} {Q : Exit → Act → World → Prop} {E : Prop} {W w1 : World} {g P : Nat} {m : Int} (hgd : o.guard = none) (x y : Operand) (ts : Array TypeId)
    (ho : o.op = .call { callee := .value (.func 26), args := #[x, y], argTypes := ts }) (hx : a.eval x = .pointer (some ⟨g, 0, none⟩)) (hy : a.eval y = .int .i64 m) (hd : Dr W g P w1) (hP : P ≤ 1000000)
    (h : ∀ (v : Int) w2, 0 ≤ v → (1 ≤ m → v < m) → Dr W g (P + 1) w2 → w1.grownBy w2 (some g) → w2.heap.size = w1.heap.size → K (a.put o.dst (.int .i64 v)) w2) :
    if Region.wanted o (yielded ops a.tmps) = true then Oper.wp Try.prog o a w1 K Q else E := by
  have hw : Region.wanted o (yielded ops a.tmps) = true := by simp [Region.wanted, hgd]
  rw [if_pos hw]
  unfold Oper.wp execOp
  have hf : a.eval (.func 26) = .func (.func 26) #[] #[] := rfl
  simp only [ho, resolve, Deferred.ofValue, hf, invoke, Sem.run_bind, Sem.run_pure, Result.andThen_ok, List.map_toArray, List.map_cons, List.map_nil, hx, hy]
  have hr := run_pick g m w1
  simp only [Array.append_empty, Array.empty_append] at hr ⊢
  rw [hr, Oper.upon_enter]
  refine (pickD_any m hd hP).mono ?_
  rintro e w2 ⟨v, rfl, h0, h1, h2, h3, h4⟩
  exact h v w2 h0 h1 h2 h3 h4

theorem lit3 (v : Int) (h0 : 0 ≤ v) (h3 : v < 3) (x y z : Int) : ∃ u : Int, ∀ h, ([Value.int .i64 x, Value.int .i64 y, Value.int .i64 z] : List Value)[v.toNat]'h = .int .i64 u := by
  rcases (show v = 0 ∨ v = 1 ∨ v = 2 by omega) with rfl | rfl | rfl
  · exact ⟨x, fun _ => rfl⟩
  · exact ⟨y, fun _ => rfl⟩
  · exact ⟨z, fun _ => rfl⟩

/-- a list in new memory, drawn by the reader -/
def DrawI (W : World) (g P k : Nat) (e : Ending) (w' : World) : Prop :=
  ∃ A n c xs, e = .returned (.slice A n c) ∧ OwA w' W.heap.size A n c xs ∧ n ≤ k ∧ Dr W g P w'
end Go.Proofs.Ytnolnlhoedafcaa
