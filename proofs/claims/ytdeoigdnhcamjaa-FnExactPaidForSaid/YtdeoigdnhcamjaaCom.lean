/- Contracts of the small helpers that most statements reach. Conditions: that slices read as lists; where one is copied, that it has at most 2 to the 20 numbers. -/
import Derived.Test.YtdeoigdnhcamjaaBase
namespace Go.Proofs.Ytdeoigdnhcamjaa
open Go Go.RowKit
open M (nth)

set_option maxHeartbeats 400000 in
theorem in_c (n lo hi : Int) (w : World) : Calls Try.prog 17 #[.int .i64 n, .int .i64 lo, .int .i64 hi] w fun e w' => e = .returned (.bool (M.inB n lo hi)) ∧ w = w' := by
  by_cases h1 : lo ≤ n
  · by_cases h2 : n ≤ hi
    · have e : M.inB n lo hi = true := M.inB_true.2 ⟨h1, h2⟩
      rw [e]; clear e
      go_enter Try.func17, Try.ntmps17
      go_wp2
      go_ret
      exact ⟨rfl, rfl⟩
    · have e : M.inB n lo hi = false := M.inB_false.2 (by omega)
      rw [e]; clear e
      go_enter Try.func17, Try.ntmps17
      go_wp2
      go_ret
      exact ⟨rfl, rfl⟩
  · have e : M.inB n lo hi = false := M.inB_false.2 (by omega)
    rw [e]; clear e
    go_enter Try.func17, Try.ntmps17
    go_wp2
    go_ret
    exact ⟨rfl, rfl⟩
set_option maxHeartbeats 400000 in
theorem l1In_c (n lo hi : Int) (w : World) : Calls Try.prog 16 #[.int .i64 n, .int .i64 lo, .int .i64 hi] w fun e w' => e = .returned (.bool (M.inB n lo hi)) ∧ w = w' := by
  by_cases h1 : lo ≤ n
  · by_cases h2 : n ≤ hi
    · have e : M.inB n lo hi = true := M.inB_true.2 ⟨h1, h2⟩
      rw [e]; clear e
      go_enter Try.func16, Try.ntmps16
      go_wp2
      go_ret
      exact ⟨rfl, rfl⟩
    · have e : M.inB n lo hi = false := M.inB_false.2 (by omega)
      rw [e]; clear e
      go_enter Try.func16, Try.ntmps16
      go_wp2
      go_ret
      exact ⟨rfl, rfl⟩
  · have e : M.inB n lo hi = false := M.inB_false.2 (by omega)
    rw [e]; clear e
    go_enter Try.func16, Try.ntmps16
    go_wp2
    go_ret
    exact ⟨rfl, rfl⟩

theorem BelowMade {w w1 : World} (h : w.grownBy w1 none) : Below w.heap.size w w1 := (Below.refl _ _).grown h (Nat.le_refl _) (fun _ e => by cases e)

set_option maxHeartbeats 400000 in
theorem toIntS_c (A : Option Addr) (n c : Nat) (xs : List Int) (w : World) (h : RdI w A n xs) (hn : n ≤ 1048576) :
    Calls Try.prog 6 #[.slice A n c] w (RetI w xs) := by
  obtain ⟨i0, hi, hz0, hz1, hz2⟩ := info_parts Try.infoInt
  go_enter Try.func6, Try.ntmps6
  go_wp2_with (at_make; refine wpList_make_full _ rfl _ _ 22 rfl w.heap.size 3 i0 (.int .i64 0) 1 Try.underlying22 hi hz0 hz1 _ _ _ _ n rfl rfl (by omega) (by omega) (by rw [hz2]; omega) (by unfold maxLen; omega) (Nat.le_refl _) ?_; intro w1 hown hgrow)
  have ho : OwnI w1 w.heap.size (some ⟨w.heap.size, 0, none⟩) n n (M.cop xs n 0) := ⟨by rw [M.cop_zero]; simp, by
    have := hown
    rw [show (Value.int .i64 0).cells = #[Value.int .i64 0] from rfl, Nat.mul_one, toList_madeCells_one] at this
    rw [M.cop_zero, List.map_replicate]; exact this⟩
  have hb := BelowMade hgrow
  clear hown hgrow hi hz0 hz1 hz2
  go_loopw [4] (fun i wr => ∃ k : Nat, k ≤ n ∧ i = .int .i64 k ∧ OwnI wr w.heap.size (some ⟨w.heap.size, 0, none⟩) n n (M.cop xs n k) ∧ Below w.heap.size w wr) (fun i _ => n - (intOf i).toNat)
  case atStart => exact ⟨0, Nat.zero_le _, rfl, ho, hb⟩
  case round =>
    obtain ⟨k, hk, rfl, hor, hbr⟩ := hrel
    clear ho hb
    have hbig := h.big
    by_cases hlt : k < n
    · obtain ⟨ad, rfl, hadb, hcell⟩ := (h.below hbr).at_ hlt
      have hco := hor.cell hlt
      have hfo := hor.free k
      go_wp2
      go_roundw
      case rel => exact ⟨k + 1, by omega, by go_num, by rw [← M.cop_set xs n k h.len hlt]; exact (hor.stored k _).1, hbr.setCell (p := ⟨w.heap.size, k, none⟩) (Nat.le_refl _) _⟩
      case measure => simp [intOf]; omega
    · go_wp2
      go_ret
      obtain rfl : k = n := by omega
      rw [M.cop_all xs k h.len] at hor
      exact ⟨_, _, _, rfl, hor, hbr⟩

set_option maxHeartbeats 400000 in
theorem eqIntS_c (A B : Option Addr) (n c m d : Nat) (xs ys : List Int) (w : World) (h : RdI w A n xs) (h' : RdI w B m ys) :
    Calls Try.prog 8 #[.slice A n c, .slice B m d] w fun e w' => e = .returned (.bool (M.eqL xs ys)) ∧ Quiet w w' := by
  have hbig := h.big
  have hbig' := h'.big
  by_cases hnm : n = m
  · subst hnm
    go_enter Try.func8, Try.ntmps8
    go_wp2
    go_loopw [5] (fun i wr => ∃ k : Nat, k ≤ n ∧ i = .int .i64 k ∧ (∀ j, j < k → nth xs j = nth ys j) ∧ Quiet w wr) (fun i _ => n - (intOf i).toNat)
    case atStart => exact ⟨0, Nat.zero_le _, rfl, fun j hj => by omega, Quiet.refl _⟩
    case round =>
      obtain ⟨k, hk, rfl, hall, hq⟩ := hrel
      have Hall := Lib.hid hall
      clear hall
      by_cases hlt : k < n
      · obtain ⟨ad, rfl, hadb, hcell⟩ := (h.quiet hq).at_ hlt
        obtain ⟨ad', rfl, hadb', hcell'⟩ := (h'.quiet hq).at_ hlt
        by_cases he : nth xs k = nth ys k
        · have he1 : (nth xs k == nth ys k) = true := by simpa using he
          have he2 : (nth xs k != nth ys k) = false := by simpa using he
          have He := Lib.hid he
          clear he
          go_wp2
          go_quiet (fail)
          go_wp2
          go_roundw
          case rel => exact ⟨k + 1, by omega, by go_num, fun j hj => by
            by_cases hjk : j < k
            · exact Hall.out j hjk
            · obtain rfl : j = k := by omega
              exact He.out, hq.drewN _⟩
          case measure => simp [intOf]; omega
        · have he1 : (nth xs k == nth ys k) = false := by simpa using he
          have he2 : (nth xs k != nth ys k) = true := by simpa using he
          have hf : M.eqL xs ys = false := M.eqL_ne (k := k) (by rw [h.len]; exact hlt) (by rw [h'.len]; exact hlt) he
          have Hf := Lib.hid hf
          clear hf he
          go_wp2
          go_quiet (fail)
          go_wp2
          go_ret
          exact ⟨rb Hf.out.symm, hq.drewN _⟩
      · have hf : M.eqL xs ys = true := M.eqL_all (by rw [h.len, h'.len]) (fun j hj => Hall.out j (by rw [h.len] at hj; omega))
        have Hf := Lib.hid hf
        clear hf
        go_wp2
        go_ret
        exact ⟨rb Hf.out.symm, hq⟩
  · have hf : M.eqL xs ys = false := M.eqL_len (by rw [h.len, h'.len]; exact hnm)
    rw [hf]; clear hf
    have hne : ((n : Int) == (m : Int)) = false := by simp; omega
    have hne' : ((n : Int) != (m : Int)) = true := by simp; omega
    go_enter Try.func8, Try.ntmps8
    go_wp2
    go_ret
    exact ⟨rfl, Quiet.refl _⟩




theorem two_cells1 (w : World) (u v : Value) (s t : TypeId) : ((w.alloc (.cells #[u] s)).alloc (.cells #[v] t)).cell? ⟨w.heap.size, 0, none⟩ = some u := by
  rw [World.cell?_alloc_past _ _ _ (by simp), World.cell?_alloc_at _ _ _ _ rfl]; rfl
theorem two_cells2 (w : World) (u v : Value) (s t : TypeId) : ((w.alloc (.cells #[u] s)).alloc (.cells #[v] t)).cell? ⟨w.heap.size + 1, 0, none⟩ = some v := by
  rw [World.cell?_alloc_at _ _ _ _ (by simp)]; rfl

set_option maxHeartbeats 400000 in
theorem allIn1_c (x lo hi : Int) (b1 b2 : Nat) (w : World) (h1 : w.cell? ⟨b1, 0, none⟩ = some (.int .i64 lo)) (h2 : w.cell? ⟨b2, 0, none⟩ = some (.int .i64 hi)) :
    Calls Try.prog 22 #[.int .i64 x, .pointer (some ⟨b1, 0, none⟩), .pointer (some ⟨b2, 0, none⟩)] w fun e w' => e = .returned (.bool (!M.inB x lo hi)) ∧ w = w' := by
  go_enter Try.func22, Try.ntmps22
  go_wp2_with (go_at_call 17; refine (in_c _ _ _ _).mono ?_; rintro e w' ⟨rfl, rfl⟩)
  go_ret
  exact ⟨rfl, rfl⟩

set_option maxHeartbeats 400000 in
theorem IndexFunc_c (A : Option Addr) (n c : Nat) (xs : List Int) (lo hi : Int) (b1 b2 : Nat) (w : World) (h : RdI w A n xs) (h1 : w.cell? ⟨b1, 0, none⟩ = some (.int .i64 lo)) (h2 : w.cell? ⟨b2, 0, none⟩ = some (.int .i64 hi)) :
    Calls Try.prog 25 #[.slice A n c, .func (.func 22) #[] #[.pointer (some ⟨b1, 0, none⟩), .pointer (some ⟨b2, 0, none⟩)]] w
      fun e w' => (∃ i : Int, e = .returned (.int .i64 i) ∧ (!decide (0 ≤ i)) = M.allB xs lo hi) ∧ w = w' := by
  have hbig := h.big
  go_enter Try.func25, Try.ntmps25
  go_wp2_with fail
  go_loop [8] (fun i => ∃ k : Nat, k ≤ n ∧ i = .int .i64 k ∧ (∀ j, j < k → M.inB (nth xs j) lo hi = true)) (fun i => n - (intOf i).toNat)
  case atStart => exact ⟨0, Nat.zero_le _, rfl, fun j hj => by omega⟩
  case round =>
    obtain ⟨k, hk, rfl, hall⟩ := hrel
    have Hall := Lib.hid hall
    clear hall
    by_cases hlt : k < n
    · obtain ⟨ad, rfl, hadb, hcell⟩ := h.at_ hlt
      cases he : M.inB (nth xs k) lo hi with
      | true =>
        go_wp2_with (go_at_call 22; refine (allIn1_c _ lo hi b1 b2 _ h1 h2).mono ?_; rintro e w' ⟨rfl, rfl⟩)
        go_round
        case rel => exact ⟨k + 1, by omega, by go_num, fun j hj => by
          by_cases hjk : j < k
          · exact Hall.out j hjk
          · obtain rfl : j = k := by omega
            exact he⟩
        case measure => simp [intOf]; omega
      | false =>
        go_wp2_with (go_at_call 22; refine (allIn1_c _ lo hi b1 b2 _ h1 h2).mono ?_; rintro e w' ⟨rfl, rfl⟩)
        go_ret
        exact ⟨⟨_, rfl, by rw [M.allB_false (k := k) (by rw [h.len]; exact hlt) (M.inB_false.1 he)]; simp⟩, rfl⟩
    · go_wp2
      go_ret
      refine ⟨⟨_, rfl, ?_⟩, rfl⟩
      rw [M.allB_iff.2 (fun j hj => M.inB_true.1 (Hall.out j (by rw [h.len] at hj; omega)))]
      rfl

set_option maxHeartbeats 400000 in
theorem ContainsFunc_c (A : Option Addr) (n c : Nat) (xs : List Int) (lo hi : Int) (b1 b2 : Nat) (w : World) (h : RdI w A n xs) (h1 : w.cell? ⟨b1, 0, none⟩ = some (.int .i64 lo)) (h2 : w.cell? ⟨b2, 0, none⟩ = some (.int .i64 hi)) :
    Calls Try.prog 21 #[.slice A n c, .func (.func 22) #[] #[.pointer (some ⟨b1, 0, none⟩), .pointer (some ⟨b2, 0, none⟩)]] w
      fun e w' => e = .returned (.bool (!M.allB xs lo hi)) ∧ w = w' := by
  go_enter Try.func21, Try.ntmps21
  go_wp2_with (go_at_call 25; refine (IndexFunc_c A n c xs lo hi b1 b2 _ h h1 h2).mono ?_; rintro e w' ⟨⟨i, rfl, Hi0⟩, rfl⟩; have Hi := Lib.hid Hi0; clear Hi0)
  go_ret
  exact ⟨rb (by rw [← Hi.out]; simp), rfl⟩

set_option maxHeartbeats 400000 in
theorem allIn_c (A : Option Addr) (n c : Nat) (xs : List Int) (lo hi : Int) (w : World) (h : RdI w A n xs) :
    Calls Try.prog 19 #[.slice A n c, .int .i64 lo, .int .i64 hi] w fun e w' => e = .returned (.bool (M.allB xs lo hi)) ∧ Below w.heap.size w w' := by
  have hb : Below w.heap.size w ((w.alloc (.cells #[.int .i64 lo] 3)).alloc (.cells #[.int .i64 hi] 3)) := ((Below.refl _ _).alloc (Nat.le_refl _) _).alloc (by simp) _
  have hm : ∀ (fn : Fn) (first cap : Array Value) (w : World), (Instr.makeFunc fn first cap).run Try.prog w = .ok (.func fn first cap) w := fun _ _ _ _ => rfl
  go_enter Try.func19, Try.ntmps19
  go_wp2_with (go_at_call 21; refine (ContainsFunc_c A n c xs lo hi _ _ _ (h.below hb) (two_cells1 _ _ _ _ _) (two_cells2 _ _ _ _ _)).mono ?_; (rintro e w' ⟨rfl, rfl⟩))
  go_ret
  exact ⟨rb (by simp), hb⟩


end Go.Proofs.Ytdeoigdnhcamjaa
