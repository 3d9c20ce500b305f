/- What the laws on two fractions share: a sum with its three outcomes, a box carried over a call. -/
import Derived.Test.YticfncjhghjanaaFrDraw5
namespace Go.Proofs.Yticfncjhghjanaa
open Go.RowKit

/-- a fraction that lies in block b -/
def BoxF (w : World) (b : Nat) (n d : Int) : Prop := b < w.heap.size ∧ w.cell? ⟨b, 0, none⟩ = some (.int .i64 n) ∧ w.cell? ⟨b, 1, none⟩ = some (.int .i64 d)
theorem BoxF.next {w w' : World} {b : Nat} {n d : Int} (h : BoxF w b n d) (hb : Below w.heap.size w w') : BoxF w' b n d :=
  ⟨Nat.lt_of_lt_of_le h.1 hb.size, Reg.keepc hb h.1 h.2.1, Reg.keepc hb h.1 h.2.2⟩
theorem BoxF.made {w w' : World} {x y : Int} {T : TypeId} (hb : Below (w.alloc (.cells #[.int .i64 x, .int .i64 y] T)).heap.size (w.alloc (.cells #[.int .i64 x, .int .i64 y] T)) w') : BoxF w' w.heap.size x y :=
  let h := Reg.newbox hb
  ⟨h.1, h.2.1, h.2.2.1⟩
theorem BoxF.made2 {w w' : World} {x y : Int} {T : TypeId} {o : Obj} (hb : Below ((w.alloc o).alloc (.cells #[.int .i64 x, .int .i64 y] T)).heap.size ((w.alloc o).alloc (.cells #[.int .i64 x, .int .i64 y] T)) w') : BoxF w' (w.heap.size + 1) x y := by
  have h := BoxF.made hb
  simpa using h

def addR (a b c d : Int) : Int × Int × Bool :=
  if Frp.fv a b = true ∧ Frp.fv c d = true ∧ Frp.fv (Frp.rN (a * d + c * b) (b * d)) (Frp.rD (a * d + c * b) (b * d)) = true then (Frp.rN (a * d + c * b) (b * d), Frp.rD (a * d + c * b) (b * d), true) else (0, 0, false)
def AddPost (w : World) (r : Int × Int × Bool) (e : Ending) (w' : World) : Prop := e = .returned (.tuple #[.agg #[.int .i64 r.1, .int .i64 r.2.1], .bool r.2.2]) ∧ Below w.heap.size w w'
theorem iFracAdd_any (a b c d : Int) (w : World) : Calls Try.prog 13 #[.agg #[.int .i64 a, .int .i64 b], .agg #[.int .i64 c, .int .i64 d]] w (AddPost w (addR a b c d)) := by
  unfold AddPost addR
  cases h1 : Frp.fv a b with
  | false => simpa using iFracAdd_f1 a b c d w h1
  | true =>
    cases h2 : Frp.fv c d with
    | false => simpa using iFracAdd_f2 a b c d w h1 h2
    | true =>
      cases h3 : Frp.fv (Frp.rN (a * d + c * b) (b * d)) (Frp.rD (a * d + c * b) (b * d)) with
      | false => simpa using iFracAdd_f3 a b c d w h1 h2 h3
      | true => simpa using iFracAdd_t a b c d w h1 h2 h3
theorem sFracAdd_any (a b c d : Int) (w : World) : Calls Try.prog 15 #[.agg #[.int .i64 a, .int .i64 b], .agg #[.int .i64 c, .int .i64 d]] w (AddPost w (addR a b c d)) := by
  unfold AddPost addR
  cases h1 : Frp.fv a b with
  | false => simpa using sFracAdd_f1 a b c d w h1
  | true =>
    cases h2 : Frp.fv c d with
    | false => simpa using sFracAdd_f2 a b c d w h1 h2
    | true =>
      cases h3 : Frp.fv (Frp.rN (a * d + c * b) (b * d)) (Frp.rD (a * d + c * b) (b * d)) with
      | false => simpa using sFracAdd_f3 a b c d w h1 h2 h3
      | true => simpa using sFracAdd_t a b c d w h1 h2 h3
theorem addR_cases (a b c d : Int) : (addR a b c d = (0, 0, false)) ∨
    (Frp.fv a b = true ∧ Frp.fv c d = true ∧ addR a b c d = (Frp.rN (a * d + c * b) (b * d), Frp.rD (a * d + c * b) (b * d), true) ∧ Frp.fv (Frp.rN (a * d + c * b) (b * d)) (Frp.rD (a * d + c * b) (b * d)) = true) := by
  unfold addR
  split
  · rename_i h; exact .inr ⟨h.1, h.2.1, rfl, h.2.2⟩
  · exact .inl rfl
/-- a contract at a result that is known -/
theorem add_at {P : Program} {f : FuncId} {args : Array Value} {w : World} {r : Int × Int × Bool} (h : Calls P f args w (AddPost w r)) {x y : Int} {ok : Bool} (e : r = (x, y, ok)) :
    Calls P f args w fun e w' => e = .returned (.tuple #[.agg #[.int .i64 x, .int .i64 y], .bool ok]) ∧ Below w.heap.size w w' := by
  subst e; exact h
theorem bool_at {P : Program} {f : FuncId} {args : Array Value} {w : World} {b : Bool} (h : Calls P f args w fun e w' => e = .returned (.bool b) ∧ Below w.heap.size w w') {c : Bool} (e : b = c) :
    Calls P f args w fun e w' => e = .returned (.bool c) ∧ Below w.heap.size w w' := by
  subst e; exact h
theorem addR_comm (a b c d : Int) : addR c d a b = addR a b c d := by
  unfold addR
  rw [show c * b + a * d = a * d + c * b from Int.add_comm _ _, Int.mul_comm d b]
  by_cases h1 : Frp.fv a b = true <;> by_cases h2 : Frp.fv c d = true <;> simp [h1, h2]
theorem addR_back {a b c d : Int} (h1 : Frp.fv a b = true) (h2 : Frp.fv c d = true) (hv : Frp.fv (Frp.rN (a * d + c * b) (b * d)) (Frp.rD (a * d + c * b) (b * d)) = true) :
    addR (Frp.rN (a * d + c * b) (b * d)) (Frp.rD (a * d + c * b) (b * d)) (0 - a) b = (c, d, true) := by
  have hb := Frp.add_back (Frp.fv_iff.1 h1) (Frp.fv_iff.1 h2)
  have hn := Frp.fv_iff.2 (Frp.neg_fv (Frp.fv_iff.1 h1))
  unfold addR
  rw [hb.1, hb.2, if_pos ⟨hv, hn, h2⟩]
theorem less_t {a b c d : Int} (h1 : Frp.fv a b = true) (h2 : Frp.fv c d = true) (h : a * d < c * b) : Frp.less a b c d = true := by simp [Frp.less, h1, h2, h]
theorem less_f {a b c d : Int} (h : ¬ a * d < c * b) : Frp.less a b c d = false := by simp [Frp.less, h]
theorem less_f1 {a b c d : Int} (h : Frp.fv a b = false) : Frp.less a b c d = false := by simp [Frp.less, h]
theorem less_f2 {a b c d : Int} (h : Frp.fv c d = false) : Frp.less a b c d = false := by simp [Frp.less, h]
end Go.Proofs.Yticfncjhghjanaa
