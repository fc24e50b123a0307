/- Contracts of the guesses of the hats. -/
import Derived.Test.YtacnngbjcchamaaHDraw
namespace Go.Proofs.Ytacnngbjcchamaa
open Go Go.RowKit
open M (nth)

/-- What go_quiet asks at a call. -/
theorem quiet_l {P : Program} {f : FuncId} {args : Array Value} {w : World} {n : Nat} {v : Value} (h : Calls P f args (w.drewN n) fun e w' => e = .returned v ∧ w.drewN n = w') :
    Calls P f args (w.drewN n) fun e w' => e = .returned v ∧ ∃ m, w' = w.drewN m := h.mono fun _ _ ⟨he, hw⟩ => ⟨he, n, hw.symm⟩
theorem quiet_m {P : Program} {f : FuncId} {args : Array Value} {w : World} {n : Nat} {v : Value} (h : Calls P f args (w.drewN n) fun e w' => e = .returned v ∧ Quiet (w.drewN n) w') :
    Calls P f args (w.drewN n) fun e w' => e = .returned v ∧ ∃ m, w' = w.drewN m := h.mono fun _ _ ⟨he, hw⟩ => ⟨he, by obtain ⟨m, hm⟩ := hw; exact ⟨n + m, by rw [hm, World.drewN_drewN]⟩⟩

set_option maxHeartbeats 400000 in
theorem remainder_c (x by_ : Int) (w : World) (h1 : 1 ≤ by_) (h2 : by_ ≤ 1000) :
    Calls Try.prog 57 #[.int .i64 x, .int .i64 by_] w fun e w' => e = .returned (.int .i64 (x % by_)) ∧ w = w' := by
  have t1 : -by_ < x.tmod by_ := Int.lt_tmod_of_pos _ (by omega)
  have t2 : x.tmod by_ < by_ := Int.tmod_lt_of_pos _ (by omega)
  have H : Hid ((x.tmod by_ + by_) % by_ = x % by_) := Lib.hid (M.tmod_add x by_)
  go_enter Try.func57, Try.ntmps57
  go_wp2
  go_ret
  exact ⟨ri H.out, rfl⟩

set_option maxHeartbeats 1000000 in
theorem iGuessedHats_c (A : Option Addr) (n c : Nat) (xs : List Int) (col : Int) (w : World) (h : RdI w A n xs) :
    Calls Try.prog 24 #[.int .i64 col, .slice A n c] w (RetI w (M.guessed col xs)) := by
  have hbig := h.big
  cases hok : M.hatsB col xs with
  | false =>
    go_enter Try.func24, Try.ntmps24
    go_wp2_with (go_at_call 19; refine (iHatsOk_c A n c xs col _ h).mono ?_; rintro e w1 ⟨rfl, hb⟩)
    go_ret
    exact ⟨none, 0, 0, rfl, by rw [M.guessed_not hok]; exact ownI_nil _ _, by assumption⟩
  | true =>
    obtain ⟨⟨hc1, hc5⟩, ⟨hn1, hn5⟩, hall⟩ := M.hats_iff.1 hok
    rw [h.len] at hn1 hn5
    have hfit := M.hats_fits hok
    have hsum := M.hats_sum hok
    have Hall := Lib.hid hall
    clear hall
    have hmk := mk_run n (by omega)
    go_enter Try.func24, Try.ntmps24
    go_wp2_with fail
    refine (iHatsOk_c A n c xs col _ h).mono ?_
    rintro e w1 ⟨rfl, hb1⟩
    go_wp2_with fail
    have h1 := h.below hb1
    have hb2 : Below w1.heap.size w1 (w1.alloc (.cells (zer n) 3)) := (Below.refl _ _).alloc (Nat.le_refl _) _
    refine (total_c A n c xs _ (h1.below hb2) hfit).mono ?_
    rintro e w' ⟨rfl, rfl⟩
    go_wp2_with fail
    have ho2 : OwnI (w1.alloc (.cells (zer n) 3)) w1.heap.size (some ⟨w1.heap.size, 0, none⟩) n n (M.gcop col xs n 0) := by rw [M.gcop_zero]; exact ownI_zer w1 _ n (Nat.le_refl _) (by omega)
    clear hmk
    go_loopw [20] (fun i wr => ∃ k : Nat, k ≤ n ∧ i = .int .i64 k ∧ OwnI wr w1.heap.size (some ⟨w1.heap.size, 0, none⟩) n n (M.gcop col xs n k) ∧ Below w1.heap.size w1 wr) (fun i _ => n - (intOf i).toNat)
    case atStart => exact ⟨0, Nat.zero_le _, rfl, ho2, hb2⟩
    case round =>
      obtain ⟨k, hk, rfl, hor, hbr⟩ := hrel
      clear ho2 hb2
      by_cases hlt : k < n
      · obtain ⟨ad, rfl, hadb, hcell⟩ := (h1.below hbr).at_ hlt
        have hx := Hall.out k (by rw [h.len]; exact hlt)
        have hco := hor.cell hlt
        have hfo := hor.free k
        have hset := M.gcop_set col xs n k hlt
        have Hset := Lib.hid hset
        clear hset
        go_wp2_with (go_at_call 57; refine (remainder_c _ _ _ (by omega) (by omega)).mono ?_; rintro e w' ⟨rfl, rfl⟩)
        go_roundw
        case rel => exact ⟨k + 1, by omega, by go_num, by rw [← Hset.out]; exact (hor.stored k _).1, hbr.setCell (p := ⟨w1.heap.size, k, none⟩) (Nat.le_refl _) _⟩
        case measure => simp [intOf]; omega
      · obtain rfl : k = n := by omega
        go_wp2
        go_ret
        refine ⟨_, _, _, rfl, ?_, bt hb1 hbr⟩
        rw [M.guessed_ok hok, h.len, ← M.gcop_all col xs k]
        exact hor.mono hb1.size

set_option maxHeartbeats 1000000 in
theorem sGuessedHats_c (A : Option Addr) (n c : Nat) (xs : List Int) (col : Int) (w : World) (h : RdI w A n xs) :
    Calls Try.prog 23 #[.int .i64 col, .slice A n c] w (RetI w (M.guessed col xs)) := by
  have hbig := h.big
  obtain ⟨i0, hi, hz0, hz1, hz2⟩ := info_parts Try.infoInt
  have hb1 : Below w.heap.size w (w.alloc (.cells #[] 3)) := (Below.refl _ _).alloc (Nat.le_refl _) _
  have ho1 := ownI_lit0 w w.heap.size (Nat.le_refl _)
  cases hok : M.hatsB col xs with
  | false =>
    go_enter Try.func23, Try.ntmps23
    go_wp2_with fail
    refine wp_loop_rounds 1 ?_
    rw [rounds_succ]
    by_cases hn : 0 < n
    · go_wp2_with fail
      refine (sHatsOk_c A n c xs col _ (h.below hb1)).mono ?_
      rintro e w' ⟨rfl, rfl⟩
      go_wp2
      go_ret
      exact ⟨_, _, _, rfl, by rw [M.guessed_not hok]; exact ho1, hb1⟩
    · go_wp2
      go_ret
      exact ⟨_, _, _, rfl, by rw [M.guessed_not hok]; exact ho1, hb1⟩
  | true =>
    obtain ⟨⟨hc1, hc5⟩, ⟨hn1, hn5⟩, hall⟩ := M.hats_iff.1 hok
    rw [h.len] at hn1 hn5
    have hfit := M.hats_fits hok
    have hsum := M.hats_sum hok
    have Hall := Lib.hid hall
    clear hall
    go_enter Try.func23, Try.ntmps23
    go_wp2_with fail
    go_loopw [5, 6] (fun v i wr => ∃ (k : Nat) (B : Option Addr) (m d : Nat), k ≤ n ∧ i = .int .i64 k ∧ v = .slice B m d ∧ OwnI wr w.heap.size B m d (M.gpre col xs k) ∧ Below w.heap.size w wr) (fun _ i _ => n - (intOf i).toNat)
    case atStart => exact ⟨0, _, _, _, Nat.zero_le _, rfl, rfl, ho1, hb1⟩
    case round =>
      obtain ⟨k, B, m, d, hk, rfl, rfl, hor, hbr⟩ := hrel
      clear ho1 hb1
      have hm : m = k := by have := hor.1; rw [M.length_gpre] at this; omega
      by_cases hlt : k < n
      · have hx := Hall.out k (by rw [h.len]; exact hlt)
        have hr := h.below hbr
        obtain ⟨ad, rfl, hadb, hcell⟩ := hr.at_ hlt
        have Hs := Lib.hid (M.gpre_succ col xs k)
        have Hg := Lib.hid (M.guess_spec col xs k)
        have Hm := Lib.hid hm
        have hm' : m ≤ 5 := by omega
        clear hm
        obtain ⟨hsn0, hsn1⟩ := M.hats_seen hok k (by rw [h.len]; exact hlt)
        have hw : IntKind.i64.wrap (M.sumL xs - nth xs k) = M.sumL xs - nth xs k := by rw [IntKind.wrap_i64]; omega
        go_wp2_with (go_at_call 17; refine (sHatsOk_c _ n c xs col _ hr).mono ?_; rintro e w' ⟨rfl, rfl⟩)
        go_quiet ((go_at_call 55; exact quiet_l (l1Sum_c _ n c xs _ (hr.quiet ⟨_, rfl⟩) hfit)))
        clear hw
        go_wp2_with (at_builtin; refine wpList_append_own _ rfl _ _ 22 rfl w.heap.size 3 i0 (.int .i64 0) 1 8 Try.underlying22 hi hz0 hz1 hz2 rfl (by decide) _ _ _ rfl ((hor.quiet ⟨_, rfl⟩).2.alloc _) ⟨_, 0, none⟩ 1 1 [.int .i64 _] rfl rfl (cell_one_new _ _ _) (by simp [Value.oneCell']) (by unfold maxLen; omega) (by omega) (by have := hbr.size; simp; omega) ?_; intro v' w4 hown4 hgrow4 _)
        obtain ⟨g', cap', rfl, ho4, hg4, hg4'⟩ := OwnI.appended hor.1 hown4
        have hbq := Below.quiet hbr (Quiet.drewN (Quiet.refl _) nq)
        have hB4 : Below w.heap.size w w4 := (hbq.alloc hbr.size _).grown hgrow4 (by have := hbr.size; simp; omega) (fun j hj => by
          cases B with
          | none => cases hj
          | some ad => cases hj; exact hor.lt.1)
        rw [Hg.out, ← Hs.out] at ho4
        go_roundw
        case rel => exact ⟨k + 1, _, _, _, by omega, by go_num, rfl, ho4, hB4⟩
        case measure => simp [intOf]; omega
      · obtain rfl : k = n := by omega
        clear hm
        go_wp2
        go_ret
        refine ⟨_, _, _, rfl, ?_, hbr⟩
        rw [M.guessed_ok hok, h.len]
        exact hor

end Go.Proofs.Ytacnngbjcchamaa
