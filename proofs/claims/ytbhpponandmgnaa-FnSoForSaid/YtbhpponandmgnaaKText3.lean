/- The walks of the laws on texts: that 'not' keeps them, and that nothing is the same as its own 'not'. -/
import Derived.Test.YtbhpponandmgnaaNDraw2
import Derived.Test.YtbhpponandmgnaaKText2
namespace Go.Proofs.Ytbhpponandmgnaa
open Go Go.RowKit
open M (nth)

theorem bang_list (s : ByteArray) : ((ByteArray.mk #[33]) ++ s).data.toList = 33 :: s.data.toList := by simp
theorem same_list (s : ByteArray) : ((((ByteArray.mk #[40]) ++ s) ++ (ByteArray.mk #[61, 33])) ++ s ++ (ByteArray.mk #[41])).data.toList = 40 :: (s.data.toList ++ (61 :: 33 :: (s.data.toList ++ [41]))) := by simp
theorem list_size (s : ByteArray) : s.data.toList.length = s.size := by simp

set_option maxHeartbeats 1000000 in
theorem DrawTextOk_c (A : Option Addr) (n c : Nat) (w : World) (h : RdY w A n c) : Calls Try.prog 10 #[.slice A n c] w fun e w' => (∃ (m : Nat) (s : ByteArray), e = .returned (.tuple #[.int .i64 (m : Int), .string s]) ∧ 1 ≤ m ∧ m ≤ 5 ∧ s.size ≤ 37) ∧ Below w.heap.size w w' := by
  go_enter Try.func10, Try.ntmps10
  go_wp2_with fail
  refine (l20Open_c A n c _ h).mono ?_
  rintro e w1 ⟨rfl, hr, hb⟩
  have hlt := hr.lt
  go_wp2_with fail
  refine (l20Text_c w.heap.size 2 _ hr (by omega) (by omega)).mono ?_
  rintro e w2 ⟨⟨m, s, rfl, hm1, hm5, hs⟩, -, hg⟩
  go_wp2
  refine bodyPost_ret (v := .tuple #[_, _]) (by simp [results, Try.results10, go_sem]; exact ⟨rfl, rfl⟩) rfl ?_
  exact ⟨⟨m, s, rfl, hm1, hm5, hs⟩, below_row hb hg hb.size⟩

set_option maxHeartbeats 1000000 in
theorem DrawSoFor_c (A : Option Addr) (n c : Nat) (w : World) (h : RdY w A n c) : Calls Try.prog 14 #[.slice A n c] w fun e w' => (∃ (m : Nat) (s : ByteArray) (K : Int), e = .returned (.tuple #[.int .i64 (m : Int), .string s, .int .i64 K]) ∧ 1 ≤ m ∧ m ≤ 5 ∧ s.size ≤ 37) ∧ Below w.heap.size w w' := by
  go_enter Try.func14, Try.ntmps14
  go_wp2_with fail
  refine (l20Open_c A n c _ h).mono ?_
  rintro e w1 ⟨rfl, hr, hb⟩
  have hlt := hr.lt
  go_wp2_with fail
  refine (l20Text_c w.heap.size 12 _ hr (by omega) (by omega)).mono ?_
  rintro e w2 ⟨⟨m, s, rfl, hm1, hm5, hs⟩, ⟨p', hp', hr2⟩, hg⟩
  have hb2 := below_row hb hg hb.size
  obtain ⟨d, e1, hd0, hd⟩ : ∃ d : Int, IntKind.i64.wrap ((2 : Int) ^ m) = d ∧ 1 ≤ d ∧ d ≤ 32 := by
    have : m = 1 ∨ m = 2 ∨ m = 3 ∨ m = 4 ∨ m = 5 := by omega
    rcases this with rfl | rfl | rfl | rfl | rfl <;> exact ⟨_, rfl, by decide, by decide⟩
  have e1' : wrap64 ((2 : Int) ^ m) = d := by rw [← e1, IntKind.wrap_i64, wrap64]
  have e2 : min m 64 = m := by omega
  go_wp2_with fail
  refine (pick_c w.heap.size p' _ _ hr2 (by omega) (by omega)).mono ?_
  rintro e w3 ⟨⟨x, rfl, hx0, hx1⟩, hr3, hg3⟩
  have hb3 := below_row hb2 hg3 hb2.size
  go_wp2_with fail
  refine (pick_c w.heap.size (p' + 1) _ _ hr3 (by omega) (by omega)).mono ?_
  rintro e w4 ⟨⟨y, rfl, hy0, hy1⟩, hr4, hg4⟩
  have hb4 := below_row hb3 hg4 hb3.size
  go_wp2
  refine bodyPost_ret (v := .tuple #[_, _, _]) (by simp [results, Try.results14, go_sem]; exact ⟨rfl, rfl, rfl⟩) rfl ?_
  exact ⟨⟨m, s, _, rfl, hm1, hm5, hs⟩, hb4⟩

theorem text_zero (W : World) : Calls Try.prog 9 #[.int .i64 1, .string ⟨#[48]⟩] W fun e w' => e = .returned (.bool true) ∧ Below W.heap.size W w' := by
  have h := iTextOk_c 1 ⟨#[48]⟩ W
  have e : M.textB 1 (ByteArray.mk #[48]).data.toList = true := by decide +kernel
  rwa [e] at h
theorem text_one (W : World) : Calls Try.prog 9 #[.int .i64 1, .string ⟨#[49]⟩] W fun e w' => e = .returned (.bool false) ∧ Below W.heap.size W w' := by
  have h := iTextOk_c 1 ⟨#[49]⟩ W
  have e : M.textB 1 (ByteArray.mk #[49]).data.toList = false := by decide +kernel
  rwa [e] at h

set_option maxHeartbeats 1000000 in
theorem FnTextOk_w (w : World) (A : Option Addr) (n c : Nat) (h : RdY w A n c) :
    Calls Try.prog 4 #[.slice A n c] w fun e w' => e = .returned (.bool true) ∧ Below w.heap.size w w' := by
  have hbig := h.big
  by_cases hn : 1048576 < n
  · go_enter Try.func4, Try.ntmps4
    go_wp2
    go_ret
    exact ⟨rfl, Below.refl _ _⟩
  · go_enter Try.func4, Try.ntmps4
    go_wp2_with fail
    refine (DrawTextOk_c A n c _ h).mono ?_
    rintro e w1 ⟨⟨m, s, rfl, hm1, hm5, hs⟩, hb1⟩
    have hz : (ByteArray.mk #[33]).size = 1 := rfl
    have e0 := M.text_not (m : Int) s.data.toList (by rw [list_size]; omega)
    have e1 : ∀ b : Bool, (b != b) = false := by decide
    have e2 : ∀ b : Bool, (b == b) = true := by decide
    have e1 := e1 (M.textB m s.data.toList)
    have e2 := e2 (M.textB m s.data.toList)
    have e3 : decide ((40 : Int) ≤ (s.size : Int)) = false := decide_eq_false (by omega)
    have hN : ∀ W, Calls Try.prog 9 #[.int .i64 (m : Int), .string ((ByteArray.mk #[33]) ++ s)] W fun e w' => e = .returned (.bool (M.textB m s.data.toList)) ∧ Below W.heap.size W w' := fun W => by
      have := iTextOk_c (m : Int) ((ByteArray.mk #[33]) ++ s) W
      rwa [bang_list, e0] at this
    have HN := Lib.hid hN
    clear hN e0
    have HS := Lib.hid (fun W => sTextOk_c (m : Int) s W)
    have HI := Lib.hid (fun W => iTextOk_c (m : Int) s W)
    generalize M.textB m s.data.toList = b at *
    go_wp2_with fail
    refine (HI.out _).mono ?_
    rintro e w2 ⟨rfl, hb2⟩
    have b2 := bt hb1 hb2
    go_wp2_with fail
    refine (HS.out _).mono ?_
    rintro e w3 ⟨rfl, rfl⟩
    go_wp2_with fail
    refine (HN.out _).mono ?_
    rintro e w4 ⟨rfl, hb4⟩
    have b4 := bt b2 hb4
    go_wp2_with fail
    refine (text_zero _).mono ?_
    rintro e w5 ⟨rfl, hb5⟩
    have b5 := bt b4 hb5
    go_wp2_with fail
    refine (text_one _).mono ?_
    rintro e w6 ⟨rfl, hb6⟩
    have b6 := bt b5 hb6
    go_wp2_with fail
    refine (alive_c _).mono ?_
    rintro e w' ⟨rfl, rfl⟩
    go_wp2
    go_ret
    exact ⟨rfl, b6⟩

end Go.Proofs.Ytbhpponandmgnaa
