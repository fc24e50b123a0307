/- The walks of the laws on AllHats and AlwaysRight. -/
import Derived.Test.YtacnngbjcchamaaHIter3
import Derived.Test.YtacnngbjcchamaaHRight
import Derived.Deep.RegionHeld3
namespace Go.Proofs.Ytacnngbjcchamaa
open Go Go.RowKit
open M (nth)

namespace M
theorem ways_len_le (p c : Int) : (waysL p c).length ≤ 1000 := by
  cases hw : waysOk p c with
  | false => rw [ways_no hw]; simp
  | true => rw [ways_len hw]; exact (ways_parts hw).2.2
theorem ways_row {p c : Int} {k : Nat} (h : k < (waysL p c).length) : hatsB c (nthR (waysL p c) k) = true ∧ ((nthR (waysL p c) k).length : Int) = p ∧ (nthR (waysL p c) k).length ≤ 5 := by
  have hm : nthR (waysL p c) k ∈ waysL p c := by
    have := nthR_lt h
    exact List.mem_of_getElem? this
  have h1 := ways_hats hm
  have h2 := (hats_iff.1 h1.1).2.1
  exact ⟨h1.1, h1.2, by omega⟩
theorem ways_next {p c : Int} {k : Nat} (h : k + 1 < (waysL p c).length) : eqL (nthR (waysL p c) (k + 1)) (nthR (waysL p c) k) = false := ways_apart (nthR_lt (by omega)) (nthR_lt h)
theorem take_nthR {l : List (List Int)} {k : Nat} (h : k < l.length) : l.take (k + 1) = l.take k ++ [nthR l k] := by
  rw [List.take_succ_eq_append_getElem h]; simp [nthR, h]
theorem least_in (f : List Int → Int) (hf : ∀ r, -1 ≤ f r ∧ f r ≤ 5) : ∀ (l : List (List Int)) (x : Int), -1 ≤ x → x ≤ 5 → -1 ≤ leastL f l x ∧ leastL f l x ≤ 5
  | [], x, h1, h2 => ⟨h1, h2⟩
  | r :: q, x, h1, h2 => by
    have := hf r
    simp only [leastL]
    split
    · exact least_in f hf q _ this.1 this.2
    · exact least_in f hf q _ h1 h2
theorem right_in (c : Int) (r : List Int) : -1 ≤ rightOf c r ∧ rightOf c r ≤ 5 := by
  cases h : hatsB c r with
  | false => rw [rightOf_no h]; omega
  | true =>
    rw [rightOf_cnt h]
    have h1 := cnt_le c (sumL r) r.length
    have h2 := (hats_iff.1 h).2.1
    omega
end M

set_option maxHeartbeats 1000000 in
theorem FnExactAllHats_w (w : World) (p : Int) (_hp : (Lit.int .i64 p).wf = true) (c : Int) (_hc : (Lit.int .i64 c).wf = true) :
    Calls Try.prog 13 #[.int .i64 p, .int .i64 c] w fun e w' => e = .returned (.bool true) ∧ Below w.heap.size w w' := by
  have hle := M.ways_len_le p c
  have hrow := fun k (hk : k < (M.waysL p c).length) => (M.ways_row hk).2.2
  have Hrow := Lib.hid hrow
  clear hrow
  go_enter Try.func13, Try.ntmps13
  go_wp2_with fail
  refine (sAllHats_c p c _).mono ?_
  rintro e w2 ⟨AW, nW, cW, rfl, hW, hb2⟩
  go_wp2_with fail
  refine (iAllHats_c p c _).mono ?_
  rintro e w4 ⟨AG, nG, cG, rfl, hG, hb4⟩
  have hlen := hG.len
  have hoff := M.off_le (l := M.waysL p c) (m := 5) (fun k hk => Hrow.out k hk) nG (by omega)
  have hn5 : nG ≤ 1000 := by omega
  have hO : M.off (M.waysL p c) nG ≤ 5000 := by omega
  have Hlen := Lib.hid hlen
  clear hoff hlen hle
  go_wp2_with fail
  refine (eqIntSS_c _ _ AG AW nG cG nW cW _ _ hG (hW.kept hb4)).mono ?_
  rintro e w9 ⟨rfl, hq9⟩
  have z2 := hb2.size
  have z4 := hb4.size
  have z9 := (hq9.below 0).size
  go_wp2_with fail
  refine (markIntSS_c _ AG nG cG 5 _ 1 _ (hG.quiet hq9) (fun k hk => Hrow.out k (by rw [Hlen.out]; exact hk)) (by omega) (by omega) (by omega) (by omega)).mono ?_
  rintro e w10 ⟨rfl, hG10, hb10⟩
  have b10 : Below w2.heap.size w2 w10 := (hb4.trans (hq9.below _)).trans hb10
  clear hG
  go_wp2_with fail
  refine (heldIntSS_c _ AG nG cG 5 _ 1 _ hG10 (fun k hk => Hrow.out k (by rw [Hlen.out]; exact hk)) (by omega) (by omega) (by omega)).mono ?_
  rintro e w11 ⟨rfl, hq11⟩
  have b11 := b10.trans (hq11.below _)
  have hk8 : ¬ (1 : Int) + ((M.off (M.waysL p c) nG : Nat) : Int) < 0 := by omega
  have hk8' : decide ((1 : Int) + ((M.off (M.waysL p c) nG : Nat) : Int) < 0) = false := by simp; omega
  go_wp2_with fail
  refine (iAllHats_c p c _).mono ?_
  rintro e w13 ⟨AH, nH, cH, rfl, hH, hb13⟩
  have b13 := bt b11 hb13
  go_wp2_with fail
  refine (eqIntSS_c _ _ AH AW nH cH nW cW _ _ hH (hW.kept b13)).mono ?_
  rintro e w14 ⟨rfl, hq14⟩
  go_wp2_with fail
  refine (heldIntSS_c _ AG nG cG 5 _ 1 _ (((hG10.quiet hq11).kept hb13).quiet hq14) (fun k hk => Hrow.out k (by rw [Hlen.out]; exact hk)) (by omega) (by omega) (by omega)).mono ?_
  rintro e w15 ⟨rfl, hq15⟩
  go_wp2
  go_ret
  exact ⟨rfl, bt hb2 (b13.trans ((hq14.trans hq15).below _))⟩

set_option maxHeartbeats 1000000 in
theorem sAlwaysRight_c (p c : Int) (w : World) : Calls Try.prog 46 #[.int .i64 p, .int .i64 c] w fun e w' => e = .returned (.int .i64 (M.always p c)) ∧ Below w.heap.size w w' := by
  have hle := M.ways_len_le p c
  go_enter Try.func46, Try.ntmps46
  go_wp2_with fail
  refine (sAllHats_c p c _).mono ?_
  rintro e w1 ⟨A, n, c', rfl, hO, hb1⟩
  have hlen := hO.len
  have hn : n ≤ 1000 := by omega
  have Hlen := Lib.hid hlen
  clear hlen hle
  go_wp2_with fail
  go_loopw [6, 7] (fun v i wr => ∃ k : Nat, k ≤ n ∧ i = .int .i64 k ∧ v = .int .i64 (M.leastL (M.rightOf c) ((M.waysL p c).take k) (-1)) ∧ Below w1.heap.size w1 wr) (fun _ i _ => n - (intOf i).toNat)
  case atStart => exact ⟨0, Nat.zero_le _, rfl, by simp [M.leastL], Below.refl _ _⟩
  case round =>
    obtain ⟨k, hk, rfl, rfl, hb⟩ := hrel
    by_cases hlt : k < n
    · obtain ⟨g, A1, n1, c1, rfl, hc1, ho1⟩ := (hO.kept hb).at_ hlt
      have Hs := Lib.hid (show M.leastL (M.rightOf c) ((M.waysL p c).take (k + 1)) (-1) = _ by rw [M.take_nthR (by rw [Hlen.out]; exact hlt), M.leastL_snoc])
      generalize hR : M.rightOf c (M.nthR (M.waysL p c) k) = R at *
      generalize M.leastL (M.rightOf c) ((M.waysL p c).take k) (-1) = L at *
      have hcall : Calls Try.prog 32 #[.int .i64 c, .slice A1 n1 c1] wr fun e w' => e = .returned (.int .i64 R) ∧ Below wr.heap.size wr w' := by
        have := sRightOf_c _ A1 n1 c1 _ c wr ho1
        rwa [hR] at this
      have Hc := Lib.hid hcall
      clear hcall ho1 hR
      by_cases h1 : L < 0
      · rw [if_pos (.inl h1)] at Hs
        go_wp2_with fail
        refine Hc.out.mono ?_
        rintro e w3 ⟨rfl, hb3⟩
        go_wp2
        go_roundw
        case rel => exact ⟨k + 1, by omega, by go_num, by rw [Hs.out], bt hb hb3⟩
        case measure => simp [intOf]; omega
      · by_cases h2 : R < L
        · rw [if_pos (.inr h2)] at Hs
          go_wp2_with fail
          refine Hc.out.mono ?_
          rintro e w3 ⟨rfl, hb3⟩
          go_wp2
          go_roundw
          case rel => exact ⟨k + 1, by omega, by go_num, by rw [Hs.out], bt hb hb3⟩
          case measure => simp [intOf]; omega
        · rw [if_neg (by omega)] at Hs
          go_wp2_with fail
          refine Hc.out.mono ?_
          rintro e w3 ⟨rfl, hb3⟩
          go_wp2
          go_roundw
          case rel => exact ⟨k + 1, by omega, by go_num, by rw [Hs.out], bt hb hb3⟩
          case measure => simp [intOf]; omega
    · obtain rfl : k = n := by omega
      go_wp2
      go_ret
      exact ⟨ri (by unfold M.always; rw [List.take_of_length_le (by rw [Hlen.out]; exact Nat.le_refl _)]), bt hb1 hb⟩

set_option maxHeartbeats 1000000 in
theorem iAlwaysRight_c (p c : Int) (w : World) : Calls Try.prog 47 #[.int .i64 p, .int .i64 c] w fun e w' => e = .returned (.int .i64 (M.always p c)) ∧ Below w.heap.size w w' := by
  have hle := M.ways_len_le p c
  go_enter Try.func47, Try.ntmps47
  go_wp2_with fail
  refine (iAllHats_c p c _).mono ?_
  rintro e w1 ⟨A, n, c', rfl, hO, hb1⟩
  have hlen := hO.len
  have hn : n ≤ 1000 := by omega
  have Hlen := Lib.hid hlen
  clear hlen hle
  go_wp2_with fail
  go_loopw [5, 13] (fun v i wr => ∃ k : Nat, k ≤ n ∧ i = .int .i64 k ∧ v = .int .i64 (M.leastL (M.rightOf c) ((M.waysL p c).take k) (-1)) ∧ Below w1.heap.size w1 wr) (fun _ i _ => n - (intOf i).toNat)
  case atStart => exact ⟨0, Nat.zero_le _, rfl, by simp [M.leastL], Below.refl _ _⟩
  case round =>
    obtain ⟨k, hk, rfl, rfl, hb⟩ := hrel
    by_cases hlt : k < n
    · obtain ⟨g, A1, n1, c1, rfl, hc1, ho1⟩ := (hO.kept hb).at_ hlt
      have Hs := Lib.hid (show M.leastL (M.rightOf c) ((M.waysL p c).take (k + 1)) (-1) = _ by rw [M.take_nthR (by rw [Hlen.out]; exact hlt), M.leastL_snoc])
      generalize hR : M.rightOf c (M.nthR (M.waysL p c) k) = R at *
      generalize M.leastL (M.rightOf c) ((M.waysL p c).take k) (-1) = L at *
      have hcall : Calls Try.prog 33 #[.int .i64 c, .slice A1 n1 c1] wr fun e w' => e = .returned (.int .i64 R) ∧ Below wr.heap.size wr w' := by
        have := iRightOf_c _ A1 n1 c1 _ c wr ho1
        rwa [hR] at this
      have Hc := Lib.hid hcall
      clear hcall ho1 hR
      by_cases h1 : L < 0
      · rw [if_pos (.inl h1)] at Hs
        go_wp2_with fail
        refine Hc.out.mono ?_
        rintro e w3 ⟨rfl, hb3⟩
        go_wp2
        go_roundw
        case rel => exact ⟨k + 1, by omega, by go_num, by rw [Hs.out], bt hb hb3⟩
        case measure => simp [intOf]; omega
      · by_cases h2 : R < L
        · rw [if_pos (.inr h2)] at Hs
          go_wp2_with fail
          refine Hc.out.mono ?_
          rintro e w3 ⟨rfl, hb3⟩
          go_wp2
          go_roundw
          case rel => exact ⟨k + 1, by omega, by go_num, by rw [Hs.out], bt hb hb3⟩
          case measure => simp [intOf]; omega
        · rw [if_neg (by omega)] at Hs
          go_wp2_with fail
          refine Hc.out.mono ?_
          rintro e w3 ⟨rfl, hb3⟩
          go_wp2
          go_roundw
          case rel => exact ⟨k + 1, by omega, by go_num, by rw [Hs.out], bt hb hb3⟩
          case measure => simp [intOf]; omega
    · obtain rfl : k = n := by omega
      go_wp2
      go_ret
      exact ⟨ri (by unfold M.always; rw [List.take_of_length_le (by rw [Hlen.out]; exact Nat.le_refl _)]), bt hb1 hb⟩

set_option maxHeartbeats 400000 in
theorem FnExactAlwaysRight_w (w : World) (p : Int) (_hp : (Lit.int .i64 p).wf = true) (c : Int) (_hc : (Lit.int .i64 c).wf = true) :
    Calls Try.prog 15 #[.int .i64 p, .int .i64 c] w fun e w' => e = .returned (.bool true) ∧ Below w.heap.size w w' := by
  go_enter Try.func15, Try.ntmps15
  go_wp2_with fail
  refine (sAlwaysRight_c p c _).mono ?_
  rintro e w2 ⟨rfl, hb2⟩
  go_wp2_with fail
  refine (iAlwaysRight_c p c _).mono ?_
  rintro e w4 ⟨rfl, hb4⟩
  go_wp2
  go_ret
  exact ⟨rfl, bt hb2 hb4⟩

set_option maxHeartbeats 400000 in
theorem DrawAllHats_c (A : Option Addr) (n c : Nat) (w : World) (h : RdY w A n c) : Calls Try.prog 44 #[.slice A n c] w fun e w' => (∃ a b : Nat, e = .returned (.tuple #[.int .i64 a, .int .i64 b]) ∧ a ≤ 6 ∧ b ≤ 6) ∧ Below w.heap.size w w' := by
  go_enter Try.func44, Try.ntmps44
  go_wp2_with fail
  refine (l20Open_c A n c _ h).mono ?_
  rintro e w1 ⟨rfl, hr, hb⟩
  go_wp2_with fail
  refine (pick_c w.heap.size 0 _ _ hr (by omega) (by omega)).mono ?_
  rintro e w2 ⟨⟨x1, rfl, h1, h1'⟩, hr1, hg1⟩
  go_wp2_with fail
  refine (pick_c w.heap.size _ _ _ hr1 (by omega) (by omega)).mono ?_
  rintro e w3 ⟨⟨x2, rfl, h2, h2'⟩, hr2, hg2⟩
  obtain ⟨a, rfl⟩ := Int.eq_ofNat_of_zero_le h1
  obtain ⟨b, rfl⟩ := Int.eq_ofNat_of_zero_le h2
  go_wp2
  go_ret2
  exact ⟨⟨a, b, rfl, by omega, by omega⟩, (hb.grown hg1 hb.size (fun j e => by cases e; exact Nat.le_refl _)).grown hg2 (Nat.le_trans hb.size hg1.size) (fun j e => by cases e; exact Nat.le_refl _)⟩

set_option maxHeartbeats 400000 in
theorem DrawAlwaysRight_c (A : Option Addr) (n c : Nat) (w : World) (h : RdY w A n c) : Calls Try.prog 48 #[.slice A n c] w fun e w' => (∃ a b : Nat, e = .returned (.tuple #[.int .i64 a, .int .i64 b]) ∧ a ≤ 6 ∧ b ≤ 6) ∧ Below w.heap.size w w' := by
  go_enter Try.func48, Try.ntmps48
  go_wp2_with fail
  refine (DrawAllHats_c A n c _ h).mono ?_
  rintro e w1 ⟨⟨a, b, rfl, ha, hb'⟩, hb⟩
  go_wp2
  go_ret2
  exact ⟨⟨a, b, rfl, ha, hb'⟩, hb⟩

set_option maxHeartbeats 1000000 in
theorem FnAlwaysRight_w (w : World) (A : Option Addr) (n c : Nat) (h : RdY w A n c) :
    Calls Try.prog 16 #[.slice A n c] w fun e w' => e = .returned (.bool true) ∧ Below w.heap.size w w' := by
  have hbig := h.big
  by_cases hn : 1048576 < n
  · go_enter Try.func16, Try.ntmps16
    go_wp2
    go_ret
    exact ⟨rfl, Below.refl _ _⟩
  · go_enter Try.func16, Try.ntmps16
    go_wp2_with fail
    refine (DrawAlwaysRight_c A n c _ h).mono ?_
    rintro e w1 ⟨⟨p, q, rfl, hp, hq⟩, hb1⟩
    go_wp2_with fail
    refine (iAlwaysRight_c p q _).mono ?_
    rintro e w2 ⟨rfl, hb2⟩
    go_wp2_with fail
    refine (sAlwaysRight_c p q _).mono ?_
    rintro e w3 ⟨rfl, hb3⟩
    have b3 := bt hb1 (bt hb2 hb3)
    cases hw : M.waysOk (p : Int) (q : Int) with
    | false =>
      rw [M.always_no hw]
      go_wp2_with fail
      refine (alive_c _).mono ?_
      rintro e w' ⟨rfl, rfl⟩
      go_wp2
      go_ret
      exact ⟨rfl, b3⟩
    | true =>
      obtain ⟨e1, e2⟩ := M.always_ok hw
      obtain ⟨h1, h2, -⟩ := M.ways_parts hw
      rw [e1]
      have e3 : (p : Int) / (q : Int) ≤ (p : Int) := Int.ediv_le_self _ (by omega)
      clear e1
      go_wp2
      go_ret
      exact ⟨rfl, b3⟩

end Go.Proofs.Ytacnngbjcchamaa
