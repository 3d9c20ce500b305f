/- What the laws on several readers' marks need. -/
import Derived.Test.YtnolnlhoedafcaaRwAgreeI
import Derived.Test.YtnolnlhoedafcaaRwWalk
namespace Go.Proofs.Ytnolnlhoedafcaa
open Go.RowKit

theorem OwR.belowC {W W' : World} {G H : Nat} {Xs : List Rw} {gs : Nat → Nat} (h : OwR W G H Xs gs) (hb : Below W.heap.size W W') (hH : H ≤ W.heap.size) : OwR W' G H Xs gs := h.below hH hb
theorem OwA.rng {W W' : World} {B n c G H : Nat} {A : Option Addr} {xs : List Int} (h : OwA W B A n c xs) (hr : Rng G H W W') (hB : H ≤ B) : OwA W' B A n c xs :=
  h.keep fun g hg _ => hr.2.2.2.2 g (.inr (by
    rcases h.parts with ⟨hx, _⟩ | ⟨g', cur, hx, hx2, _⟩
    · rw [hx] at hg; cases hg
    · rw [hx] at hg; injection hg with e; injection e with e; omega))
theorem agL_small {Xs : List Rw} (h : tot Xs ≤ 1048576) : (Rw2.agL Xs).length ≤ 1048576 := by
  have h1 := Rw2.agL_len Xs
  have h2 : Rw2.wide Xs ≤ tot Xs := by
    unfold Rw2.wide
    cases Xs with
    | nil => simp
    | cons x Xs => exact tot_mem (by simp)
  omega
theorem eqIntS_t (A A' : Option Addr) (n n' c c' : Nat) (xs : List Int) (W : World) (B B' : Nat) (h : RdI W B A n xs) (h' : RdI W B' A' n' xs) (hn : n ≤ 4194304) (hn' : n' ≤ 4194304) :
    Calls Try.prog 11 #[.slice A n c, .slice A' n' c'] W fun e w' => e = .returned (.bool true) ∧ ∃ q, w' = W.drewN q :=
  (eqIntS_any A A' n n' c c' xs xs W B B' h h' hn hn').mono fun _ _ ⟨he, hq⟩ => ⟨by rw [he]; simp, hq⟩
end Go.Proofs.Ytnolnlhoedafcaa
