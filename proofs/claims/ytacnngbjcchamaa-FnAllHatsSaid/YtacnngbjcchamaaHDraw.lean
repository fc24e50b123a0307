/- The draws of the hats. -/
import Derived.Test.YtacnngbjcchamaaHats
import Derived.Maps.AppendAt
namespace Go.Proofs.Ytacnngbjcchamaa
open Go Go.RowKit
open M (nth)

theorem ownI_lit (w : World) (b : Nat) (cs : Array Value) (n : Nat) (xs : List Int) (hb : b ≤ w.heap.size) (hn : n ≤ 1000) (hs : cs.size = n) (hx : cs.toList = xs.map (Value.int .i64)) :
    OwnI (w.alloc (.cells cs 3)) b (some ⟨w.heap.size, 0, none⟩) n n xs :=
  ⟨by have := congrArg List.length hx; simp at this; omega, by
    have := World.ownsRow_lit (e := 3) (size := 1) w cs n hb (by unfold maxLen; omega) (by omega)
    rwa [hx] at this⟩

/-- Behind an append of a whole row to an empty one. -/
theorem OwnI.appendedL {w : World} {b : Nat} {v : Value} {n : Nat} {xs : List Int} (hl : xs.length = n) (h : w.ownsRow b 3 1 v n (xs.map (Value.int .i64))) :
    ∃ A c, v = .slice A n c ∧ OwnI w b A n c xs := by
  have h0 := h
  rcases h.2 with ⟨rfl, rfl⟩ | ⟨g, cap, cur, rfl, hb, hg, _⟩
  · exact ⟨none, 0, rfl, hl, h0⟩
  · exact ⟨_, cap, rfl, hl, h0⟩
/-- Of two rows that the call owns the younger one lies elsewhere. -/
theorem own_ne1 {w w' : World} {b b' : Nat} {A A' : Option Addr} {n c n' c' : Nat} {xs xs' : List Int} (h : OwnI w b A n c xs) (h' : OwnI w' b' A' n' c' xs') (hb : w.heap.size ≤ b') :
    (Value.slice A n c).ownBlock = none ∨ (Value.slice A n c).ownBlock ≠ (Value.slice A' n' c').ownBlock := by
  cases A with
  | none => exact .inl rfl
  | some ad =>
    cases A' with
    | none => exact .inr (by simp [Value.ownBlock])
    | some ad' => exact .inr (by have := h.lt.2; have := h'.lt.1; simp [Value.ownBlock]; omega)
theorem own_ne2 {w w' : World} {b b' : Nat} {A A' : Option Addr} {n c n' c' : Nat} {xs xs' : List Int} (h : OwnI w b A n c xs) (h' : OwnI w' b' A' n' c' xs') (hb : w.heap.size ≤ b') :
    (Value.slice A' n' c').ownBlock = none ∨ (Value.slice A' n' c').ownBlock ≠ (Value.slice A n c).ownBlock := by
  cases A' with
  | none => exact .inl rfl
  | some ad' =>
    cases A with
    | none => exact .inr (by simp [Value.ownBlock])
    | some ad => exact .inr (by have := h.lt.2; have := h'.lt.1; simp [Value.ownBlock]; omega)
/-- A turn of an owned row is no turn of what is older. -/
theorem below_own {w w' : World} {b B : Nat} {A : Option Addr} {n c : Nat} {xs : List Int} {a : World} (h : OwnI a b A n c xs) (hg : w.grownBy w' (Value.slice A n c).ownBlock) (hB : B ≤ b) (hw : B ≤ w.heap.size) : Below B w w' :=
  (Below.refl B w).grown hg hw (fun k e => by
    cases A with
    | none => cases e
    | some ad => cases e; exact Nat.le_trans hB h.lt.1)
theorem ownI_nil (w : World) (b : Nat) : OwnI w b none 0 0 [] := ⟨rfl, World.ownsRow_nil w b _ _⟩
/-- The cells of n zeros. -/
def zer (n : Nat) : Array Value := madeCells #[Value.int .i64 0] n
theorem mk_run (n : Nat) (hn : n ≤ 1048576) (W : World) : (Instr.makeSlice 22 (.int .i64 (n : Int)) (.int .i64 (n : Int))).run Try.prog W = .ok (.slice (some ⟨W.heap.size, 0, none⟩) n n) (W.alloc (.cells (zer n) 3)) := by
  obtain ⟨i0, hi, hz0, hz1, hz2⟩ := info_parts Try.infoInt
  have hr := run_make (P := Try.prog) W 22 3 i0 _ Try.underlying22 hi hz0 .i64 .i64 n n (by omega) (Int.le_refl _) (by rw [hz2]; omega) (by omega)
  simp only [Int.toNat_natCast, hz1, Nat.mul_one] at hr
  exact hr
theorem ownI_zer (w : World) (b n : Nat) (hb : b ≤ w.heap.size) (hn : n ≤ 1048576) : OwnI (w.alloc (.cells (zer n) 3)) b (some ⟨w.heap.size, 0, none⟩) n n (List.replicate n 0) :=
  ⟨by simp, by
    have := World.ownsRow_lit (e := 3) (size := 1) w (zer n) n hb (by unfold maxLen; omega) (by unfold zer; rw [size_madeCells]; omega)
    rw [zer, toList_madeCells_one] at this
    rw [List.map_replicate]; exact this⟩

set_option maxHeartbeats 1000000 in
theorem l20Hats_c (R p : Nat) (m : Int) (w : World) (h : Rdr w R p) (hp : p ≤ 1000) (hm0 : 0 < m) (hm : m ≤ 100) :
    Calls Try.prog 52 #[.pointer (some ⟨R, 0, none⟩), .int .i64 m] w fun e w' =>
      (∃ (col : Int) (A : Option Addr) (n c : Nat) (xs : List Int), e = .returned (.tuple #[.int .i64 col, .slice A n c]) ∧ 0 ≤ col ∧ col ≤ 5 ∧ n ≤ 6 ∧ OwnI w' w.heap.size A n c xs) ∧ w.grownBy w' (some R) := by
  obtain ⟨i0, hi, hz0, hz1, hz2⟩ := info_parts Try.infoInt
  go_enter Try.func52, Try.ntmps52
  go_wp2_with fail
  refine (pick_c R p _ _ h (by omega) (by omega)).mono ?_
  rintro e w1 ⟨⟨col, rfl, hc0, hc1⟩, hr1, hg1⟩
  go_wp2_with fail
  refine (pick_c R (p + 1) _ _ (hr1.alloc _) (by omega) (by omega)).mono ?_
  rintro e w2 ⟨⟨k0, rfl, hk0, hk1⟩, hr2, hg2⟩
  go_wp2_with fail
  have hB1 := hr1.lt
  have hz := hg1.size
  have hz2' := hg2.size
  have ho : OwnI w2 w.heap.size (some ⟨w1.heap.size, 0, none⟩) 0 0 [] := (ownI_lit0 w1 w.heap.size hz).kept hg2 (.inr (by simp [Value.ownBlock]; omega))
  have hg : w.grownBy w2 (some R) := grown_trans (grown_trans hg1 (World.grownBy_alloc w1 _ _)) hg2
  have hR := h.lt
  have hk5 : k0 < 5 := by omega
  clear hg1 hg2 hr1 hk1
  obtain ⟨k0, rfl⟩ := Int.eq_ofNat_of_zero_le hk0
  go_loopw [7, 8] (fun v i wr => ∃ (A : Option Addr) (n c : Nat) (xs : List Int) (k p' : Nat), v = .slice A n c ∧ i = .int .i64 k ∧ OwnI wr w.heap.size A n c xs ∧ n + k ≤ 6 ∧ 1 ≤ n + k ∧ Rdr wr R p' ∧ p' + k ≤ p + 10 ∧ w.grownBy wr (some R)) (fun _ i _ => (intOf i).toNat)
  case atStart => exact ⟨_, _, _, [], k0 + 1, p + 2, rfl, by go_num, ho, by omega, by omega, hr2, by omega, hg⟩
  case round =>
    obtain ⟨A, n, c, xs, k, p', rfl, rfl, hor, hnk, hnk1, hrr, hpk, hgr⟩ := hrel
    clear ho hg
    by_cases hlt : 0 < k
    · go_wp2_with fail
      refine (pick_c R p' _ _ hrr (by omega) (by omega)).mono ?_
      rintro e w3 ⟨⟨x, rfl, hx0, hx1⟩, hr3, hg3⟩
      have ho3 := hor.kept hg3 (OwnI.ne_block hor (by omega))
      have hsz := hgr.size
      have hsz3 := hg3.size
      go_wp2_with (at_builtin; refine wpList_append_own _ rfl _ _ 22 rfl w.heap.size 3 i0 (.int .i64 0) 1 8 Try.underlying22 hi hz0 hz1 hz2 rfl (by decide) _ _ _ rfl (ho3.2.alloc _) ⟨w3.heap.size, 0, none⟩ 1 1 [.int .i64 x] rfl rfl (cell_one_new _ _ _) (by simp [Value.oneCell']) (by unfold maxLen; omega) (by omega) (by simp; omega) ?_; intro v' w4 hown4 hgrow4 _)
      obtain ⟨g', cap', rfl, ho4, hg4, hg4'⟩ := OwnI.appended hor.1 hown4
      have hB4 : Below w.heap.size w3 w4 := ((Below.refl _ w3).alloc (by omega) _).grown hgrow4 (by simp; omega) (fun j hj => by
        cases A with
        | none => cases hj
        | some ad => cases hj; exact hor.lt.1)
      go_wp2
      go_roundw
      case rel => exact ⟨_, _, _, xs ++ [x], k - 1, p' + 1, rfl, by go_num, ho4, by omega, by omega, hr3.keep hB4 hR, by omega, gb (grown_trans hgr hg3) hB4⟩
      case measure => simp [intOf]; omega
    · obtain rfl : k = 0 := by omega
      go_wp2_with fail
      refine (odd_c R p' _ _ hrr (by omega) hm0 (by omega)).mono ?_
      rintro e w3 ⟨⟨x, rfl⟩, hr3, hg3⟩
      have ho3 := hor.kept hg3 (OwnI.ne_block hor (by omega))
      have hg3' := grown_trans hgr hg3
      cases x with
      | false =>
        go_wp2
        go_ret2
        exact ⟨⟨_, _, _, _, _, rfl, by omega, by omega, by omega, ho3⟩, hg3'⟩
      | true =>
        go_wp2_with fail
        refine (pick_c R (p' + 1) _ _ hr3 (by omega) (by omega)).mono ?_
        rintro e w4 ⟨⟨x, rfl, hx0, hx1⟩, hr4, hg4⟩
        have ho4 := ho3.kept hg4 (OwnI.ne_block ho3 (by omega))
        have hg4' := grown_trans hg3' hg4
        have hsz4 := hg4'.size
        by_cases hx : x = 0
        · subst hx
          go_wp2
          go_ret2
          exact ⟨⟨_, _, _, _, [], rfl, by omega, by omega, by omega, ownI_lit0 w4 _ hsz4⟩, grown_trans hg4' (World.grownBy_alloc w4 _ _)⟩
        · by_cases hx : x = 1
          · subst hx
            obtain ⟨g, rfl, hgb, hgl⟩ := ho4.at0 (by omega)
            have hco := ho4.cell (k := 0) (by omega)
            have hfo := ho4.free 0
            go_wp2
            go_ret2
            exact ⟨⟨_, _, _, _, _, rfl, by omega, by omega, by omega, (ho4.stored 0 _).1⟩, gb hg4' ((Below.refl _ w4).setCell (p := ⟨g, 0, none⟩) hgb _)⟩
          · have e0 : (x == 0) = false := by simpa using ‹¬x = 0›
            have e1 : (x == 1) = false := by simpa using hx
            go_wp2
            go_ret2
            exact ⟨⟨_, _, _, _, _, rfl, by omega, by omega, by omega, ho4⟩, hg4'⟩

/-- What the draws of colours and hats return. -/
def DrawnHats (w : World) (e : Ending) (w' : World) : Prop :=
  (∃ (col : Int) (A : Option Addr) (n c : Nat) (xs : List Int), e = .returned (.tuple #[.int .i64 col, .slice A n c]) ∧ 0 ≤ col ∧ col ≤ 5 ∧ n ≤ 6 ∧ OwnI w' w.heap.size A n c xs) ∧ Below w.heap.size w w'
set_option maxHeartbeats 400000 in
theorem DrawHatsOk_c (A : Option Addr) (n c : Nat) (w : World) (h : RdY w A n c) : Calls Try.prog 21 #[.slice A n c] w (DrawnHats w) := by
  go_enter Try.func21, Try.ntmps21
  go_wp2_with fail
  refine (l20Open_c A n c _ h).mono ?_
  rintro e w1 ⟨rfl, hr, hb⟩
  go_wp2_with fail
  refine (l20Hats_c w.heap.size 0 _ _ hr (by omega) (by omega) (by omega)).mono ?_
  rintro e w2 ⟨⟨col, A2, n2, c2, xs, rfl, h0, h1, h2, ho⟩, hg⟩
  go_wp2
  go_ret2
  exact ⟨⟨_, _, _, _, xs, rfl, h0, h1, h2, ho.mono hb.size⟩, hb.grown hg hb.size (fun k e => by cases e; exact Nat.le_refl _)⟩
set_option maxHeartbeats 400000 in
theorem DrawGuessedHats_c (A : Option Addr) (n c : Nat) (w : World) (h : RdY w A n c) : Calls Try.prog 27 #[.slice A n c] w (DrawnHats w) := by
  go_enter Try.func27, Try.ntmps27
  go_wp2_with fail
  refine (l20Open_c A n c _ h).mono ?_
  rintro e w1 ⟨rfl, hr, hb⟩
  go_wp2_with fail
  refine (l20Hats_c w.heap.size 0 _ _ hr (by omega) (by omega) (by omega)).mono ?_
  rintro e w2 ⟨⟨col, A2, n2, c2, xs, rfl, h0, h1, h2, ho⟩, hg⟩
  go_wp2
  go_ret2
  exact ⟨⟨_, _, _, _, xs, rfl, h0, h1, h2, ho.mono hb.size⟩, hb.grown hg hb.size (fun k e => by cases e; exact Nat.le_refl _)⟩
set_option maxHeartbeats 400000 in
theorem DrawRightOf_c (A : Option Addr) (n c : Nat) (w : World) (h : RdY w A n c) : Calls Try.prog 34 #[.slice A n c] w (DrawnHats w) := by
  go_enter Try.func34, Try.ntmps34
  go_wp2_with fail
  refine (l20Open_c A n c _ h).mono ?_
  rintro e w1 ⟨rfl, hr, hb⟩
  go_wp2_with fail
  refine (l20Hats_c w.heap.size 0 _ _ hr (by omega) (by omega) (by omega)).mono ?_
  rintro e w2 ⟨⟨col, A2, n2, c2, xs, rfl, h0, h1, h2, ho⟩, hg⟩
  go_wp2
  go_ret2
  exact ⟨⟨_, _, _, _, xs, rfl, h0, h1, h2, ho.mono hb.size⟩, hb.grown hg hb.size (fun k e => by cases e; exact Nat.le_refl _)⟩
set_option maxHeartbeats 400000 in
theorem DrawSaidInRow_c (A : Option Addr) (n c : Nat) (w : World) (h : RdY w A n c) : Calls Try.prog 31 #[.slice A n c] w (DrawnHats w) := by
  go_enter Try.func31, Try.ntmps31
  go_wp2_with fail
  refine (l20Open_c A n c _ h).mono ?_
  rintro e w1 ⟨rfl, hr, hb⟩
  go_wp2_with fail
  refine (l20Hats_c w.heap.size 0 _ _ hr (by omega) (by omega) (by omega)).mono ?_
  rintro e w2 ⟨⟨col, A2, n2, c2, xs, rfl, h0, h1, h2, ho⟩, hg⟩
  go_wp2
  go_ret2
  exact ⟨⟨_, _, _, _, xs, rfl, h0, h1, h2, ho.mono hb.size⟩, hb.grown hg hb.size (fun k e => by cases e; exact Nat.le_refl _)⟩
set_option maxHeartbeats 400000 in
theorem DrawRightInRow_c (A : Option Addr) (n c : Nat) (w : World) (h : RdY w A n c) : Calls Try.prog 38 #[.slice A n c] w (DrawnHats w) := by
  go_enter Try.func38, Try.ntmps38
  go_wp2_with fail
  refine (l20Open_c A n c _ h).mono ?_
  rintro e w1 ⟨rfl, hr, hb⟩
  go_wp2_with fail
  refine (l20Hats_c w.heap.size 0 _ _ hr (by omega) (by omega) (by omega)).mono ?_
  rintro e w2 ⟨⟨col, A2, n2, c2, xs, rfl, h0, h1, h2, ho⟩, hg⟩
  go_wp2
  go_ret2
  exact ⟨⟨_, _, _, _, xs, rfl, h0, h1, h2, ho.mono hb.size⟩, hb.grown hg hb.size (fun k e => by cases e; exact Nat.le_refl _)⟩

end Go.Proofs.Ytacnngbjcchamaa
