/- The draws of the laws on BoundFor, AfterNo and AfterYes. -/
import Derived.Test.YtdpbjepjiloeaaaKnow
import Derived.Test.YtdpbjepjiloeaaaKDraw
namespace Go.Proofs.Ytdpbjepjiloeaaa
open Go Go.RowKit
open M (nth)

theorem put_lit (l : List Value) (d : List Deferred) (i : Nat) (v : Value) : Act.put ⟨l.toArray, d⟩ (some i) v = ⟨(l.set i v).toArray, d⟩ := by simp [Act.put]

theorem DrawBoundFor_c (A : Option Addr) (n c : Nat) (w : World) (h : RdY w A n c) : Calls Try.prog 10 #[.slice A n c] w fun e w' => (∃ (A' : Option Addr) (m c' : Nat) (xs : List Int), e = .returned (.slice A' m c') ∧ m ≤ 3 ∧ OwnI w' w.heap.size A' m c' xs) ∧ Below w.heap.size w w' := by
  go_enter Try.func10, Try.ntmps10
  go_wp2_with fail
  refine (l20Open_c A n c _ h).mono ?_
  rintro e w1 ⟨rfl, hr, hb⟩
  go_wp2_with fail
  refine (l20Known_c w.heap.size 0 9 _ hr (by omega) (by omega) (by omega)).mono ?_
  rintro e w2 ⟨⟨A', m, c', xs, p', rfl, hm, ho, hr2, hp2⟩, hg⟩
  go_wp2
  go_ret
  exact ⟨⟨_, _, _, xs, rfl, hm, ho.mono hb.size⟩, below_row hb hg⟩

theorem DrawAfterNo_c (A : Option Addr) (n c : Nat) (w : World) (h : RdY w A n c) : Calls Try.prog 15 #[.slice A n c] w fun e w' => (∃ (A' : Option Addr) (m c' : Nat) (xs : List Int) (B : Option Addr) (k d : Nat) (ys : List Int), e = .returned (.tuple #[.slice A' m c', .slice B k d]) ∧ m ≤ 3 ∧ k ≤ 4 ∧ OwnI w' w.heap.size A' m c' xs ∧ OwnI w' w.heap.size B k d ys) ∧ Below w.heap.size w w' := by
  go_enter Try.func15, Try.ntmps15
  go_wp2_with fail
  refine (l20Open_c A n c _ h).mono ?_
  rintro e w1 ⟨rfl, hr, hb⟩
  go_wp2_with fail
  refine (l20Split_c w.heap.size 0 _ hr (by omega)).mono ?_
  rintro e w2 ⟨⟨A', m, c', xs, B, k, d, ys, rfl, hm, hk, ho, ho'⟩, hg⟩
  go_wp2
  refine bodyPost_ret (v := .tuple #[_, _]) (by simp [results, Try.results15, go_sem] <;> exact ⟨rfl, rfl⟩) rfl ?_
  exact ⟨⟨_, _, _, xs, _, _, _, ys, rfl, hm, hk, ho.mono hb.size, ho'.mono hb.size⟩, below_row hb hg⟩

theorem DrawAfterYes_c (A : Option Addr) (n c : Nat) (w : World) (h : RdY w A n c) : Calls Try.prog 21 #[.slice A n c] w fun e w' => (∃ (A' : Option Addr) (m c' : Nat) (xs : List Int) (B : Option Addr) (k d : Nat) (ys : List Int), e = .returned (.tuple #[.slice A' m c', .slice B k d]) ∧ m ≤ 3 ∧ k ≤ 4 ∧ OwnI w' w.heap.size A' m c' xs ∧ OwnI w' w.heap.size B k d ys) ∧ Below w.heap.size w w' := by
  go_enter Try.func21, Try.ntmps21
  go_wp2_with fail
  refine (l20Open_c A n c _ h).mono ?_
  rintro e w1 ⟨rfl, hr, hb⟩
  go_wp2_with fail
  refine (l20Split_c w.heap.size 0 _ hr (by omega)).mono ?_
  rintro e w2 ⟨⟨A', m, c', xs, B, k, d, ys, rfl, hm, hk, ho, ho'⟩, hg⟩
  go_wp2
  refine bodyPost_ret (v := .tuple #[_, _]) (by simp [results, Try.results21, go_sem] <;> exact ⟨rfl, rfl⟩) rfl ?_
  exact ⟨⟨_, _, _, xs, _, _, _, ys, rfl, hm, hk, ho.mono hb.size, ho'.mono hb.size⟩, below_row hb hg⟩

end Go.Proofs.Ytdpbjepjiloeaaa
