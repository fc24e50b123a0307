/- Contracts of how many are right. -/
import Derived.Test.YtacnngbjcchamaaHSaid
namespace Go.Proofs.Ytacnngbjcchamaa
open Go Go.RowKit
open M (nth)

set_option maxHeartbeats 400000 in
theorem iGuessedHats_no (A : Option Addr) (n c : Nat) (xs : List Int) (col : Int) (w : World) (h : RdI w A n xs) (hok : M.hatsB col xs = false) :
    Calls Try.prog 24 #[.int .i64 col, .slice A n c] w fun e w' => e = .returned (.slice none 0 0) ∧ Below w.heap.size w w' := by
  go_enter Try.func24, Try.ntmps24
  go_wp2_with (go_at_call 19; refine (iHatsOk_c A n c xs col _ h).mono ?_; rintro e w1 ⟨rfl, hb⟩)
  go_ret
  exact ⟨rfl, by assumption⟩
set_option maxHeartbeats 400000 in
theorem iSaidInRow_no (A : Option Addr) (n c : Nat) (xs : List Int) (col : Int) (w : World) (h : RdI w A n xs) (hok : M.hatsB col xs = false) :
    Calls Try.prog 30 #[.int .i64 col, .slice A n c] w fun e w' => e = .returned (.slice none 0 0) ∧ Below w.heap.size w w' := by
  go_enter Try.func30, Try.ntmps30
  go_wp2_with (go_at_call 19; refine (iHatsOk_c A n c xs col _ h).mono ?_; rintro e w1 ⟨rfl, hb⟩)
  go_ret
  exact ⟨rfl, by assumption⟩

set_option maxHeartbeats 400000 in
theorem alike_none (B : Option Addr) (m d : Nat) (w : World) :
    Calls Try.prog 58 #[.slice none 0 0, .slice B m d] w fun e w' => e = .returned (.int .i64 (-1)) ∧ w = w' := by
  have hnil := fun (w : World) (a : Option Addr) (n c : Nat) => Lib.run_eql_slice_nil (P := Try.prog) w 22 3 a n c 0 0 Try.underlying22
  go_enter Try.func58, Try.ntmps58
  go_wp2
  go_ret
  exact ⟨rfl, rfl⟩

set_option maxHeartbeats 400000 in
theorem alike_c (ad : Addr) (n c : Nat) (B : Option Addr) (d : Nat) (xs ys : List Int) (w : World) (h : RdI w (some ad) n xs) (h' : RdI w B n ys) :
    Calls Try.prog 58 #[.slice (some ad) n c, .slice B n d] w fun e w' => e = .returned (.int .i64 (M.mat xs ys n)) ∧ Quiet w w' := by
  have hbig := h.big
  have hnil := fun (w : World) (a : Option Addr) (n c : Nat) => Lib.run_eql_slice_nil (P := Try.prog) w 22 3 a n c 0 0 Try.underlying22
  go_enter Try.func58, Try.ntmps58
  go_wp2
  clear hnil
  go_loop [5, 12] (fun s i => ∃ k : Nat, k ≤ n ∧ i = .int .i64 k ∧ s = .int .i64 (M.mat xs ys k)) (fun _ i => n - (intOf i).toNat)
  case atStart => exact ⟨0, Nat.zero_le _, rfl, rfl⟩
  case round =>
    obtain ⟨k, hk, rfl, rfl⟩ := hrel
    have hm := M.mat_le xs ys k
    by_cases hlt : k < n
    · have hcell := (h.at_ hlt)
      obtain ⟨ad1, e1, _, hcell⟩ := hcell
      obtain rfl := Option.some.inj e1
      obtain ⟨ad', rfl, _, hcell'⟩ := h'.at_ hlt
      have Hm := Lib.hid (M.mat_succ xs ys k)
      by_cases he : nth xs k = nth ys k
      · have he1 : (nth xs k == nth ys k) = true := by simpa using he
        have He := Lib.hid he
        clear he
        go_wp2
        go_round
        case rel => exact ⟨k + 1, by omega, by go_num, by rw [Hm.out, if_pos He.out]; go_num⟩
        case measure => simp [intOf]; omega
      · have he1 : (nth xs k == nth ys k) = false := by simpa using he
        have He := Lib.hid he
        clear he
        go_wp2
        go_round
        case rel => exact ⟨k + 1, by omega, by go_num, by rw [Hm.out, if_neg He.out]; go_num⟩
        case measure => simp [intOf]; omega
    · obtain rfl : k = n := by omega
      go_wp2
      go_ret
      exact ⟨rfl, Quiet.refl _⟩


set_option maxHeartbeats 400000 in
theorem iRightOf_c (b : Nat) (A : Option Addr) (n c : Nat) (xs : List Int) (col : Int) (w : World) (h : OwnI w b A n c xs) :
    Calls Try.prog 33 #[.int .i64 col, .slice A n c] w fun e w' => e = .returned (.int .i64 (M.rightOf col xs)) ∧ Below w.heap.size w w' := by
  cases hok : M.hatsB col xs with
  | false =>
    go_enter Try.func33, Try.ntmps33
    go_wp2_with fail
    refine (iGuessedHats_no A n c xs col _ h.rd hok).mono ?_
    rintro e w1 ⟨rfl, hb1⟩
    go_wp2_with fail
    refine (alike_none A n c _).mono ?_
    rintro e w' ⟨rfl, rfl⟩
    go_wp2
    go_ret
    exact ⟨ri (by simp [M.rightOf, hok]), hb1⟩
  | true =>
    have hl := M.len_guessed hok
    rw [h.1] at hl
    obtain ⟨hn1, hn5⟩ := (M.hats_iff.1 hok).2.1
    rw [h.1] at hn1
    go_enter Try.func33, Try.ntmps33
    go_wp2_with fail
    refine (iGuessedHats_c A n c xs col _ h.rd).mono ?_
    rintro e w1 ⟨A1, n1, c1, rfl, ho1, hb1⟩
    obtain rfl : n1 = n := by have := ho1.1; omega
    obtain ⟨g, rfl, _, _⟩ := ho1.at0 (by omega)
    go_wp2_with fail
    refine (alike_c _ n1 c1 A c _ xs _ ho1.rd (h.below hb1).rd).mono ?_
    rintro e w2 ⟨rfl, hq⟩
    go_wp2
    go_ret
    exact ⟨ri (by simp [M.rightOf, hok, h.1]), Below.quiet hb1 hq⟩

set_option maxHeartbeats 400000 in
theorem sRightOf_c (b : Nat) (A : Option Addr) (n c : Nat) (xs : List Int) (col : Int) (w : World) (h : OwnI w b A n c xs) :
    Calls Try.prog 32 #[.int .i64 col, .slice A n c] w fun e w' => e = .returned (.int .i64 (M.rightOf col xs)) ∧ Below w.heap.size w w' := by
  go_enter Try.func32, Try.ntmps32
  go_wp2_with fail
  refine (sGuessedHats_c A n c xs col _ h.rd).mono ?_
  rintro e w1 ⟨A1, n1, c1, rfl, ho1, hb1⟩
  have hbig := ho1.rd.big
  have h1 := h.below hb1
  go_wp2
  go_loopw [6, 7] (fun s i wr => ∃ k : Nat, k ≤ n1 ∧ i = .int .i64 k ∧ s = .int .i64 (M.mat (M.guessed col xs) xs k) ∧ Quiet w1 wr) (fun _ i _ => n1 - (intOf i).toNat)
  case atStart => exact ⟨0, Nat.zero_le _, rfl, rfl, Quiet.refl _⟩
  case round =>
    obtain ⟨k, hk, rfl, rfl, hq⟩ := hrel
    have hm := M.mat_le (M.guessed col xs) xs k
    by_cases hlt : k < n1
    · have hok : M.hatsB col xs = true := by
        cases hok : M.hatsB col xs with
        | true => rfl
        | false => have := ho1.1; rw [M.guessed_not hok] at this; simp at this; omega
      have hl := M.len_guessed hok
      obtain rfl : n1 = n := by have := ho1.1; have := h.1; omega
      obtain ⟨ad, rfl, _, hcell⟩ := (ho1.rd.quiet hq).at_ hlt
      obtain ⟨ad', rfl, _, hcell'⟩ := (h1.rd.quiet hq).at_ hlt
      have Hm := Lib.hid (M.mat_succ (M.guessed col xs) xs k)
      by_cases he : nth (M.guessed col xs) k = nth xs k
      · have he1 : (nth (M.guessed col xs) k == nth xs k) = true := by simpa using he
        have He := Lib.hid he
        clear he
        go_wp2
        go_quiet (fail)
        go_wp2
        go_roundw
        case rel => exact ⟨k + 1, by omega, by go_num, by rw [Hm.out, if_pos He.out]; go_num, hq.drewN _⟩
        case measure => simp [intOf]; omega
      · have he1 : (nth (M.guessed col xs) k == nth xs k) = false := by simpa using he
        have He := Lib.hid he
        clear he
        go_wp2
        go_quiet (fail)
        go_wp2
        go_roundw
        case rel => exact ⟨k + 1, by omega, by go_num, by rw [Hm.out, if_neg He.out]; go_num, hq.drewN _⟩
        case measure => simp [intOf]; omega
    · obtain rfl : k = n1 := by omega
      cases hok : M.hatsB col xs with
      | true =>
        have hl := M.len_guessed hok
        obtain ⟨hn1, hn5⟩ := (M.hats_iff.1 hok).2.1
        have hn0 : ((k : Int) == 0) = false := by have := ho1.1; simp; omega
        have hkx : k = xs.length := by have := ho1.1; omega
        have Hk := Lib.hid hkx
        clear hkx hl hn1 hn5
        go_wp2
        go_ret
        exact ⟨ri (by simp [M.rightOf, hok, ← Hk.out]), Below.quiet hb1 hq⟩
      | false =>
        obtain rfl : k = 0 := by have := ho1.1; rw [M.guessed_not hok] at this; simpa using this.symm
        go_wp2
        go_ret
        exact ⟨ri (by simp [M.rightOf, hok]), Below.quiet hb1 hq⟩

set_option maxHeartbeats 400000 in
theorem iRightInRow_c (b : Nat) (A : Option Addr) (n c : Nat) (xs : List Int) (col : Int) (w : World) (h : OwnI w b A n c xs) :
    Calls Try.prog 37 #[.int .i64 col, .slice A n c] w fun e w' => e = .returned (.int .i64 (M.rightRow col xs)) ∧ Below w.heap.size w w' := by
  cases hok : M.hatsB col xs with
  | false =>
    go_enter Try.func37, Try.ntmps37
    go_wp2_with fail
    refine (iSaidInRow_no A n c xs col _ h.rd hok).mono ?_
    rintro e w1 ⟨rfl, hb1⟩
    go_wp2_with fail
    refine (alike_none A n c _).mono ?_
    rintro e w' ⟨rfl, rfl⟩
    go_wp2
    go_ret
    exact ⟨ri (by simp [M.rightRow, hok]), hb1⟩
  | true =>
    have hl := M.len_said hok
    rw [h.1] at hl
    obtain ⟨hn1, hn5⟩ := (M.hats_iff.1 hok).2.1
    rw [h.1] at hn1
    go_enter Try.func37, Try.ntmps37
    go_wp2_with fail
    refine (iSaidInRow_c _ A n c xs col _ h).mono ?_
    rintro e w1 ⟨A1, n1, c1, rfl, ho1, hb1⟩
    obtain rfl : n1 = n := by have := ho1.1; omega
    obtain ⟨g, rfl, _, _⟩ := ho1.at0 (by omega)
    go_wp2_with fail
    refine (alike_c _ n1 c1 A c _ xs _ ho1.rd (h.below hb1).rd).mono ?_
    rintro e w2 ⟨rfl, hq⟩
    go_wp2
    go_ret
    exact ⟨ri (by simp [M.rightRow, hok, h.1]), Below.quiet hb1 hq⟩

set_option maxHeartbeats 400000 in
theorem sRightInRow_c (b : Nat) (A : Option Addr) (n c : Nat) (xs : List Int) (col : Int) (w : World) (h : OwnI w b A n c xs) :
    Calls Try.prog 36 #[.int .i64 col, .slice A n c] w fun e w' => e = .returned (.int .i64 (M.rightRow col xs)) ∧ Below w.heap.size w w' := by
  go_enter Try.func36, Try.ntmps36
  go_wp2_with fail
  refine (sSaidInRow_c _ A n c xs col _ h).mono ?_
  rintro e w1 ⟨A1, n1, c1, rfl, ho1, hb1⟩
  have hbig := ho1.rd.big
  have h1 := h.below hb1
  go_wp2
  go_loopw [6, 7] (fun s i wr => ∃ k : Nat, k ≤ n1 ∧ i = .int .i64 k ∧ s = .int .i64 (M.mat (M.said col xs) xs k) ∧ Quiet w1 wr) (fun _ i _ => n1 - (intOf i).toNat)
  case atStart => exact ⟨0, Nat.zero_le _, rfl, rfl, Quiet.refl _⟩
  case round =>
    obtain ⟨k, hk, rfl, rfl, hq⟩ := hrel
    have hm := M.mat_le (M.said col xs) xs k
    by_cases hlt : k < n1
    · have hok : M.hatsB col xs = true := by
        cases hok : M.hatsB col xs with
        | true => rfl
        | false => have := ho1.1; rw [M.said_not hok] at this; simp at this; omega
      have hl := M.len_said hok
      obtain rfl : n1 = n := by have := ho1.1; have := h.1; omega
      obtain ⟨ad, rfl, _, hcell⟩ := (ho1.rd.quiet hq).at_ hlt
      obtain ⟨ad', rfl, _, hcell'⟩ := (h1.rd.quiet hq).at_ hlt
      have Hm := Lib.hid (M.mat_succ (M.said col xs) xs k)
      by_cases he : nth (M.said col xs) k = nth xs k
      · have he1 : (nth (M.said col xs) k == nth xs k) = true := by simpa using he
        have He := Lib.hid he
        clear he
        go_wp2
        go_quiet (fail)
        go_wp2
        go_roundw
        case rel => exact ⟨k + 1, by omega, by go_num, by rw [Hm.out, if_pos He.out]; go_num, hq.drewN _⟩
        case measure => simp [intOf]; omega
      · have he1 : (nth (M.said col xs) k == nth xs k) = false := by simpa using he
        have He := Lib.hid he
        clear he
        go_wp2
        go_quiet (fail)
        go_wp2
        go_roundw
        case rel => exact ⟨k + 1, by omega, by go_num, by rw [Hm.out, if_neg He.out]; go_num, hq.drewN _⟩
        case measure => simp [intOf]; omega
    · obtain rfl : k = n1 := by omega
      cases hok : M.hatsB col xs with
      | true =>
        have hl := M.len_said hok
        obtain ⟨hn1, hn5⟩ := (M.hats_iff.1 hok).2.1
        have hn0 : ((k : Int) == 0) = false := by have := ho1.1; simp; omega
        have hkx : k = xs.length := by have := ho1.1; omega
        have Hk := Lib.hid hkx
        clear hkx hl hn1 hn5
        go_wp2
        go_ret
        exact ⟨ri (by simp [M.rightRow, hok, ← Hk.out]), Below.quiet hb1 hq⟩
      | false =>
        obtain rfl : k = 0 := by have := ho1.1; rw [M.said_not hok] at this; simpa using this.symm
        go_wp2
        go_ret
        exact ⟨ri (by simp [M.rightRow, hok]), Below.quiet hb1 hq⟩

end Go.Proofs.Ytacnngbjcchamaa
