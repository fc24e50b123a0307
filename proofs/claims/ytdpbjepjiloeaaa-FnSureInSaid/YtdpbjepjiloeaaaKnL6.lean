/- The walk of the law on SureIn. -/
import Derived.Test.YtdpbjepjiloeaaaSure3
import Derived.Test.YtdpbjepjiloeaaaKnD
import Derived.Deep.RegionHeld3
namespace Go.Proofs.Ytdpbjepjiloeaaa
open Go Go.RowKit
open M (nth)

theorem with_hQ3 {P : Program} {md : Region.Mode} {ops : Array Oper} {Q : Exit → Act → World → Prop} {S : World → Prop} {fuel : Nat} {listed : Array Bool} {a : Act} {w : World}
    (hQ : ∀ (c : List PanicEntry) (a : Act) (d : Nat) (v : Value) (w : World), Q (.panic c) (a.put (some d) v) w → Q (.panic c) a w) (h : (∀ (c : List PanicEntry) (a : Act) (d : Nat) (v : Value) (w : World), Q (.panic c) (a.put (some d) v) w → Q (.panic c) a w) → wpAnyH P md ops Q S fuel listed a w) : wpAnyH P md ops Q S fuel listed a w := h hQ

theorem DrawSureIn_c (A : Option Addr) (n c : Nat) (w : World) (h : RdY w A n c) : Calls Try.prog 28 #[.slice A n c] w fun e w' => (∃ (A' : Option Addr) (m c' : Nat) (xs : List Int) (q : Int), e = .returned (.tuple #[.slice A' m c', .int .i64 q]) ∧ m ≤ 3 ∧ q ≤ 7 ∧ OwnI w' w.heap.size A' m c' xs) ∧ Below w.heap.size w w' := by
  go_enter Try.func28, Try.ntmps28
  go_wp2_with fail
  refine (l20Open_c A n c _ h).mono ?_
  rintro e w1 ⟨rfl, hr, hb⟩
  go_wp2_with fail
  refine (l20Known_c w.heap.size 0 12 _ hr (by omega) (by omega) (by omega)).mono ?_
  rintro e w2 ⟨⟨A', m, c', xs, p', rfl, hm, ho, hr2, hp2⟩, hg⟩
  have hz2 := hg.size
  have hlt1 := hr.lt
  have hw2 : w.heap.size < w1.heap.size := hlt1
  go_wp2_with fail
  refine (pick_c w.heap.size p' 8 _ hr2 (by omega) (by omega)).mono ?_
  rintro e w3 ⟨⟨y, rfl, hy0, hy1⟩, hr3, hg3⟩
  go_wp2_with fail
  refine (pick_c w.heap.size (p' + 1) 20 _ hr3 (by omega) (by omega)).mono ?_
  rintro e w4 ⟨⟨z, rfl, hz0, hz1⟩, hr4, hg4⟩
  have ho4 := (ho.kept hg3 (ho.ne_block hw2)).kept hg4 (ho.ne_block hw2)
  have hb4 := below_row (below_row (below_row hb hg) hg3) hg4
  obtain ⟨d, hd, hd0, hd1⟩ : ∃ d : Int, Int.tdiv z 19 = d ∧ 0 ≤ d ∧ d ≤ 1 := ⟨_, rfl, by rw [Int.tdiv_eq_ediv_of_nonneg hz0]; omega, by rw [Int.tdiv_eq_ediv_of_nonneg hz0]; omega⟩
  have hd' : z / 19 = d := by rw [← hd, Int.tdiv_eq_ediv_of_nonneg hz0]
  have t1 : IntKind.i64.wrap d = d := by rw [IntKind.wrap_i64]; omega
  have t2 : IntKind.i64.wrap (y - d) = y - d := by rw [IntKind.wrap_i64]; omega
  have Hd := Lib.hid hd
  go_wp2
  refine bodyPost_ret (v := .tuple #[_, _]) (by simp [results, Try.results28, go_sem] <;> exact ⟨rfl, rfl⟩) rfl ?_
  exact ⟨⟨_, _, _, xs, _, rfl, hm, by first | omega | (rw [IntKind.wrap_i64]; omega), ho4.mono (by have := hb.size; omega)⟩, hb4⟩

theorem M.less_win {xs : List Int} {q k : Nat} (hk : M.knownB xs = true) (hw : M.win q xs = true) (h : k < xs.length) (hp : 0 < nth xs k) :
    M.knownB (xs.set k (nth xs k - 1)) = true ∧ M.win q (xs.set k (nth xs k - 1)) = true := by
  obtain ⟨-, -, hx, -⟩ := M.known_parts hk
  have hle : M.Le (xs.set k (nth xs k - 1)) xs := ⟨by simp, fun j hj => by
    rw [M.nth_set2 _ _ _ _ h]
    split
    · rename_i e; subst e; omega
    · exact Int.le_refl _⟩
  have h0 : ∀ j, j < (xs.set k (nth xs k - 1)).length → 0 ≤ nth (xs.set k (nth xs k - 1)) j := fun j hj => by
    rw [List.length_set] at hj
    rw [M.nth_set2 _ _ _ _ h]
    split
    · omega
    · exact (hx j hj).1
  exact ⟨M.known_le hk hle h0, M.win_le q xs _ hk hle h0 hw⟩

theorem M.sum_nonpos : ∀ {xs : List Int}, (∀ i, i < xs.length → nth xs i ≤ 0) → M.sumL xs ≤ 0
  | [], _ => Int.le_refl _
  | x :: r, h => by
    have h0 := h 0 (by simp)
    have := M.sum_nonpos (xs := r) (fun i hi => by have := h (i + 1) (by simp; omega); simpa [nth] using this)
    simp [nth] at h0
    simp only [M.sumL]
    omega

set_option maxHeartbeats 8000000 in
theorem FnSureIn_w (w : World) (A : Option Addr) (n c : Nat) (h : RdY w A n c) :
    Calls Try.prog 7 #[.slice A n c] w fun e w' => e = .returned (.bool true) ∧ Below w.heap.size w w' := by
  obtain ⟨i0, hi, hz0, hz1, hz2⟩ := info_parts Try.infoInt
  have hbig := h.big
  by_cases hn : 1048576 < n
  · go_enter Try.func7, Try.ntmps7
    go_wp2
    go_ret
    exact ⟨rfl, Below.refl _ _⟩
  · go_enter Try.func7, Try.ntmps7
    go_wp2_with fail
    refine (DrawSureIn_c A n c _ h).mono ?_
    rintro e w1 ⟨⟨A', m, c', xs, q, rfl, hm, hq7, ho⟩, hbel⟩
    go_wp2_with fail
    refine (iSureIn_c A' m c' _ xs q _ ho).mono ?_
    rintro e w2 ⟨rfl, hb2⟩
    have b2 := bt hbel hb2
    have ho2 := ho.below hb2
    go_wp2_with fail
    refine (sSureIn_c A' m c' xs q _ ho2.rd (by omega)).mono ?_
    rintro e w3 ⟨rfl, hb3⟩
    have b3 := bt b2 hb3
    have ho3 := ho2.below hb3
    clear ho ho2 b2 hbel hb2 hb3
    cases hsu : M.sureB xs q with
    | false =>
      go_wp2_with fail
      refine (alive_c _).mono ?_
      rintro e w' ⟨rfl, rfl⟩
      go_wp2
      go_ret
      exact ⟨rfl, b3⟩
    | true =>
      have hok : M.knownB xs = true := by
        cases e : M.knownB xs with
        | true => rfl
        | false => rw [M.sure_no1 e] at hsu; cases hsu
      have hin : M.inB q 0 9 = true := by
        cases e : M.inB q 0 9 with
        | true => rfl
        | false => rw [M.sure_no2 e] at hsu; cases hsu
      have hq := M.inB_true.1 hin
      obtain ⟨k, rfl⟩ := Int.eq_ofNat_of_zero_le hq.1
      have hk7 : k ≤ 7 := by omega
      have hwin : M.win k xs = true := by rw [← M.sure_ok hok (by omega)]; exact hsu
      have HW := Lib.hid hwin
      have HK := Lib.hid hok
      obtain ⟨hm1, -, hx, -⟩ := M.known_parts hok
      have hml := ho3.1
      rw [hml] at hm1 hx
      obtain ⟨g0, rfl, -, -⟩ := ho3.at0 (by omega)
      have HX := Lib.hid hx
      clear hsu hin hq hwin hok hx
      go_wp2_with (at_builtin; refine wpList_append_row rfl _ _ 23 rfl w3.heap.size 3 i0 (.int .i64 0) Try.underlying23 hi hz0 hz1 hz2 rfl _ _ _ rfl (ownI_lit0 w3 w3.heap.size (Nat.le_refl _)).2 _ m c' xs rfl (ho3.alloc _).rd (fun e => by cases e) (by omega) (by simp) ?_; intro v4 w4 hown4 hgrow4; obtain ⟨A4, c4, rfl, ho4⟩ := own_copied hml hown4; have hb4 := below_new hgrow4; obtain ⟨g4, rfl, hg40, hg41⟩ := ho4.at0 (by omega))
      clear hown4 hgrow4
      have b4 := bt b3 hb4
      have hx4 := ho3.below hb4
      have hs3 := b3.size
      go_loopg [7] m (fun gk i wr => wr = w4 ∧ ∃ j : Nat, j + gk = m ∧ i = .int .i64 j ∧ Hid (∀ i, i < j → nth xs i ≤ 0))
      case atStart => exact ⟨rfl, 0, by omega, rfl, Lib.hid (fun i hi => absurd hi (Nat.not_lt_zero _))⟩
      case round =>
        obtain ⟨rfl, j, hjg, rfl, HJ⟩ := hrel
        by_cases hlt : j < m
        · obtain ⟨g1, rfl⟩ : ∃ g1, gk = g1 + 1 := ⟨gk - 1, by omega⟩
          have hcj := ho4.cell hlt
          have hfj := ho4.free j
          have hxj := HX.out j hlt
          by_cases hpos : 0 < nth xs j
          · obtain ⟨ho5, hg5⟩ := ho4.stored j (nth xs j - 1)
            obtain ⟨hk5, hw5⟩ := M.less_win HK.out HW.out (by omega) hpos
            have hx5 := hx4.kept hg5 (.inr (by have h1 : g0 < w3.heap.size := ho3.lt.2; simp [Value.ownBlock]; omega))
            have t0 : IntKind.i64.wrap (nth xs j - 1) = nth xs j - 1 := by rw [IntKind.wrap_i64]; omega
            have bw : Below w.heap.size w (wr.setCell ⟨g4, j, none⟩ (.int .i64 (nth xs j - 1))) := b4.grown hg5 b4.size (fun i e => by cases e; omega)
            obtain ⟨hfit, hs0, hs10⟩ := M.known_sum2 HK.out
            obtain ⟨hv0, hv1⟩ := M.weight_bnd HK.out (n := k) (by omega)
            have hv2 := M.win_wgt k xs (by omega) HK.out HW.out
            obtain ⟨hp0, hp1⟩ := M.pow9 (n := k) (by omega)
            have t1 : IntKind.i64.wrap ((2 : Int) ^ k) = 2 ^ k := by rw [IntKind.wrap_i64]; omega
            have t1' : wrap64 ((2 : Int) ^ k) = 2 ^ k := by rw [M.w64]; exact t1
            have mp : min k 64 = k := by omega
            obtain ⟨k1, hk1⟩ : ∃ k1, k1 = k + 1 := ⟨_, rfl⟩
            have t2 : IntKind.i64.wrap ((k : Int) + 1) = (k1 : Int) := by rw [IntKind.wrap_i64]; omega
            have hw1 : M.win k1 xs = true := by rw [hk1]; exact M.win_more k xs HK.out HW.out
            have e9 : ((k : Int) == 9) = false := by simp; omega
            have e9' : decide ((k : Int) = 9) = false := by simp; omega
            have e9'' : decide (k = 9) = false := by simp; omega
            have hc1 : ∀ W, Below (wr.setCell ⟨g4, j, none⟩ (.int .i64 (nth xs j - 1))).heap.size (wr.setCell ⟨g4, j, none⟩ (.int .i64 (nth xs j - 1))) W → Calls Try.prog 20 #[.slice (some ⟨g0, 0, none⟩) m c'] W fun e w' => e = .returned (.int .i64 (M.sumL xs)) ∧ Below (wr.setCell ⟨g4, j, none⟩ (.int .i64 (nth xs j - 1))).heap.size (wr.setCell ⟨g4, j, none⟩ (.int .i64 (nth xs j - 1))) w' := fun W hb => (sumOf_c (some ⟨g0, 0, none⟩) m c' xs W (hx5.below hb).rd hfit).mono fun _ _ h => ⟨h.1, h.2 ▸ hb⟩
            have hc2 : ∀ W, Below (wr.setCell ⟨g4, j, none⟩ (.int .i64 (nth xs j - 1))).heap.size (wr.setCell ⟨g4, j, none⟩ (.int .i64 (nth xs j - 1))) W → Calls Try.prog 14 #[.slice (some ⟨g0, 0, none⟩) m c', .int .i64 k] W fun e w' => e = .returned (.int .i64 (M.wgt xs k)) ∧ Below (wr.setCell ⟨g4, j, none⟩ (.int .i64 (nth xs j - 1))).heap.size (wr.setCell ⟨g4, j, none⟩ (.int .i64 (nth xs j - 1))) w' := fun W hb => by
              have := iWeightOf_c (some ⟨g0, 0, none⟩) m c' xs k W (hx5.below hb).rd
              rw [M.weight_ok HK.out (M.inB_true.2 (by omega))] at this
              exact this.mono fun _ _ h => ⟨h.1, bt hb h.2⟩
            have hc3 : ∀ W, Below (wr.setCell ⟨g4, j, none⟩ (.int .i64 (nth xs j - 1))).heap.size (wr.setCell ⟨g4, j, none⟩ (.int .i64 (nth xs j - 1))) W → Calls Try.prog 26 #[.slice (some ⟨g0, 0, none⟩) m c', .int .i64 k1] W fun e w' => e = .returned (.bool true) ∧ Below (wr.setCell ⟨g4, j, none⟩ (.int .i64 (nth xs j - 1))).heap.size (wr.setCell ⟨g4, j, none⟩ (.int .i64 (nth xs j - 1))) w' := fun W hb => by
              have := iSureIn_c (some ⟨g0, 0, none⟩) m c' _ xs k1 W (hx5.below hb)
              rw [M.sure_ok HK.out (by omega), hw1] at this
              exact this.mono fun _ _ h => ⟨h.1, bt hb h.2⟩
            have hc4 : ∀ W, Below (wr.setCell ⟨g4, j, none⟩ (.int .i64 (nth xs j - 1))).heap.size (wr.setCell ⟨g4, j, none⟩ (.int .i64 (nth xs j - 1))) W → Calls Try.prog 26 #[.slice (some ⟨g4, 0, none⟩) m c4, .int .i64 k] W fun e w' => e = .returned (.bool true) ∧ Below (wr.setCell ⟨g4, j, none⟩ (.int .i64 (nth xs j - 1))).heap.size (wr.setCell ⟨g4, j, none⟩ (.int .i64 (nth xs j - 1))) w' := fun W hb => by
              have := iSureIn_c (some ⟨g4, 0, none⟩) m c4 _ _ k W (ho5.below hb)
              rw [M.sure_ok hk5 (by omega), hw5] at this
              exact this.mono fun _ _ h => ⟨h.1, bt hb h.2⟩
            have bD : Below (wr.setCell ⟨g4, j, none⟩ (.int .i64 (nth xs j - 1))).heap.size (wr.setCell ⟨g4, j, none⟩ (.int .i64 (nth xs j - 1))) (wr.setCell ⟨g4, j, none⟩ (.int .i64 (nth xs j - 1))).drew := Quiet.below ⟨1, rfl⟩ _
            have fin : ∀ W, Below (wr.setCell ⟨g4, j, none⟩ (.int .i64 (nth xs j - 1))).heap.size (wr.setCell ⟨g4, j, none⟩ (.int .i64 (nth xs j - 1))) W → Below w.heap.size w W := fun W hb => bt bw hb
            clear hk1 hw1
            have HC := Lib.hid True.intro
            have dv : decide (M.wgt xs k ≤ 2 ^ k) = true := decide_eq_true hv2
            clear hfit hs0 hs10 hv0 hv1 hv2
            by_cases hs : M.sumL xs ≤ 1
            · have dS : decide (M.sumL xs ≤ 1) = true := decide_eq_true hs
              clear hs
              generalize M.sumL xs = X at *
              generalize M.wgt xs k = V at *
              go_wp2_with fail
              generalize wr.setCell ⟨g4, j, none⟩ (.int .i64 (nth xs j - 1)) = W9 at *
              refine wp_region_held_drew (S := fun W => Below W9.heap.size W9 W) (by kernel_rfl) bD (fun hHeld => ?_)
              refine with_hQ3 (fun _ _ _ _ _ h => h) (fun hQ => ?_)
              refine wpAnyH_take (i := 0) (oi := { dst := some 49, op := _, type := _, pos := _, after := _, guard := _ }) (v := ?vb0) rfl (by kernel_rfl) (by kernel_rfl) (by kernel_rfl) (fun c v w h => hQ c _ _ _ w h) (Or.inl ⟨by rfl, ?yb0⟩) (by assumption) ?rb0
              case yb0 =>
                intro w hSw
                go_simp
                try with_reducible rfl
              case rb0 =>
              simp only [put_lit, List.set]
              refine wpAnyH_ready (rs := [1]) (by kernel_rfl) (by simp) ?_
              refine AllReadyH.cons (o := { dst := some 50, op := _, type := _, pos := _, after := _, guard := _ }) rfl (fun K hK => ?_) AllReadyH.nil
              go_simp
              refine (hc1 _ (by assumption)).mono ?_
              rintro e w' ⟨rfl, hb1⟩
              dsimp only
              refine hK.out _ _ hb1 (fun hHeld1 => ?_)
              clear hK K
              try simp only [put_lit, List.set]
              refine wpAnyH_take (i := 2) (oi := { dst := some 51, op := _, type := _, pos := _, after := _, guard := _ }) (v := .bool true) rfl (by kernel_rfl) (by kernel_rfl) (by kernel_rfl) (fun c v w h => hQ c _ _ _ w h) (Or.inl ⟨by rfl, ?yb2⟩) (by assumption) ?rb2
              case yb2 =>
                intro w hSw
                go_simp
                try with_reducible rfl
              case rb2 =>
              simp only [put_lit, List.set]
              refine wpAnyH_take (i := 3) (oi := { dst := some 52, op := _, type := _, pos := _, after := _, guard := _ }) (v := .bool true) rfl (by kernel_rfl) (by kernel_rfl) (by kernel_rfl) (fun c v w h => hQ c _ _ _ w h) (Or.inl ⟨by rfl, ?yb3⟩) (by assumption) ?rb3
              case yb3 =>
                intro w hSw
                go_simp
                try with_reducible rfl
              case rb3 =>
              simp only [put_lit, List.set]
              refine wpAnyH_take (i := 4) (oi := { dst := some 53, op := _, type := _, pos := _, after := _, guard := _ }) (v := undef) rfl (by kernel_rfl) (by kernel_rfl) (by kernel_rfl) (fun c v w h => hQ c _ _ _ w h) (Or.inr ⟨by kernel_rfl, rfl⟩) (by assumption) ?_
              simp only [put_lit, List.set]
              refine wpAnyH_take (i := 5) (oi := { dst := some 54, op := _, type := _, pos := _, after := _, guard := _ }) (v := undef) rfl (by kernel_rfl) (by kernel_rfl) (by kernel_rfl) (fun c v w h => hQ c _ _ _ w h) (Or.inr ⟨by kernel_rfl, rfl⟩) (by assumption) ?_
              simp only [put_lit, List.set]
              refine wpAnyH_take (i := 6) (oi := { dst := some 55, op := _, type := _, pos := _, after := _, guard := _ }) (v := undef) rfl (by kernel_rfl) (by kernel_rfl) (by kernel_rfl) (fun c v w h => hQ c _ _ _ w h) (Or.inr ⟨by kernel_rfl, rfl⟩) (by assumption) ?_
              simp only [put_lit, List.set]
              refine wpAnyH_take (i := 7) (oi := { dst := some 56, op := _, type := _, pos := _, after := _, guard := _ }) (v := undef) rfl (by kernel_rfl) (by kernel_rfl) (by kernel_rfl) (fun c v w h => hQ c _ _ _ w h) (Or.inr ⟨by kernel_rfl, rfl⟩) (by assumption) ?_
              simp only [put_lit, List.set]
              refine wpAnyH_take (i := 8) (oi := { dst := some 57, op := _, type := _, pos := _, after := _, guard := _ }) (v := undef) rfl (by kernel_rfl) (by kernel_rfl) (by kernel_rfl) (fun c v w h => hQ c _ _ _ w h) (Or.inr ⟨by kernel_rfl, rfl⟩) (by assumption) ?_
              simp only [put_lit, List.set]
              refine wpAnyH_take (i := 9) (oi := { dst := some 58, op := _, type := _, pos := _, after := _, guard := _ }) (v := undef) rfl (by kernel_rfl) (by kernel_rfl) (by kernel_rfl) (fun c v w h => hQ c _ _ _ w h) (Or.inr ⟨by kernel_rfl, rfl⟩) (by assumption) ?_
              simp only [put_lit, List.set]
              refine wpAnyH_take (i := 10) (oi := { dst := some 59, op := _, type := _, pos := _, after := _, guard := _ }) (v := .bool true) rfl (by kernel_rfl) (by kernel_rfl) (by kernel_rfl) (fun c v w h => hQ c _ _ _ w h) (Or.inl ⟨by rfl, ?yb10⟩) (by assumption) ?rb10
              case yb10 =>
                intro w hSw
                go_simp
                try with_reducible rfl
              case rb10 =>
              simp only [put_lit, List.set]
              refine wpAnyH_take (i := 11) (oi := { dst := some 60, op := _, type := _, pos := _, after := _, guard := _ }) (v := .bool true) rfl (by kernel_rfl) (by kernel_rfl) (by kernel_rfl) (fun c v w h => hQ c _ _ _ w h) (Or.inl ⟨by rfl, ?yb11⟩) (by assumption) ?rb11
              case yb11 =>
                intro w hSw
                go_simp
                try with_reducible rfl
              case rb11 =>
              simp only [put_lit, List.set]
              refine wpAnyH_take (i := 12) (oi := { dst := some 61, op := _, type := _, pos := _, after := _, guard := _ }) (v := ?vb12) rfl (by kernel_rfl) (by kernel_rfl) (by kernel_rfl) (fun c v w h => hQ c _ _ _ w h) (Or.inl ⟨by rfl, ?yb12⟩) (by assumption) ?rb12
              case yb12 =>
                intro w hSw
                go_simp
                try with_reducible rfl
              case rb12 =>
              simp only [put_lit, List.set]
              refine wpAnyH_take (i := 13) (oi := { dst := some 62, op := _, type := _, pos := _, after := _, guard := _ }) (v := .bool false) rfl (by kernel_rfl) (by kernel_rfl) (by kernel_rfl) (fun c v w h => hQ c _ _ _ w h) (Or.inl ⟨by rfl, ?yb13⟩) (by assumption) ?rb13
              case yb13 =>
                intro w hSw
                go_simp
                try with_reducible rfl
              case rb13 =>
              simp only [put_lit, List.set]
              refine wpAnyH_take (i := 14) (oi := { dst := some 63, op := _, type := _, pos := _, after := _, guard := _ }) (v := .bool false) rfl (by kernel_rfl) (by kernel_rfl) (by kernel_rfl) (fun c v w h => hQ c _ _ _ w h) (Or.inl ⟨by rfl, ?yb14⟩) (by assumption) ?rb14
              case yb14 =>
                intro w hSw
                go_simp
                try with_reducible rfl
              case rb14 =>
              simp only [put_lit, List.set]
              refine wpAnyH_take (i := 15) (oi := { dst := some 64, op := _, type := _, pos := _, after := _, guard := _ }) (v := ?vb15) rfl (by kernel_rfl) (by kernel_rfl) (by kernel_rfl) (fun c v w h => hQ c _ _ _ w h) (Or.inl ⟨by rfl, ?yb15⟩) (by assumption) ?rb15
              case yb15 =>
                intro w hSw
                go_simp
                try with_reducible rfl
              case rb15 =>
              simp only [put_lit, List.set]
              refine wpAnyH_take (i := 16) (oi := { dst := some 65, op := _, type := _, pos := _, after := _, guard := _ }) (v := ?vb16) rfl (by kernel_rfl) (by kernel_rfl) (by kernel_rfl) (fun c v w h => hQ c _ _ _ w h) (Or.inl ⟨by rfl, ?yb16⟩) (by assumption) ?rb16
              case yb16 =>
                intro w hSw
                go_simp
                try with_reducible rfl
              case rb16 =>
              simp only [put_lit, List.set]
              refine wpAnyH_take (i := 17) (oi := { dst := some 66, op := _, type := _, pos := _, after := _, guard := _ }) (v := ?vb17) rfl (by kernel_rfl) (by kernel_rfl) (by kernel_rfl) (fun c v w h => hQ c _ _ _ w h) (Or.inl ⟨by rfl, ?yb17⟩) (by assumption) ?rb17
              case yb17 =>
                intro w hSw
                go_simp
                try with_reducible rfl
              case rb17 =>
              simp only [put_lit, List.set]
              refine wpAnyH_ready (rs := [18]) (by kernel_rfl) (by simp) ?_
              refine AllReadyH.cons (o := { dst := some 67, op := _, type := _, pos := _, after := _, guard := _ }) rfl (fun K hK => ?_) AllReadyH.nil
              go_simp
              refine (hc3 _ (by assumption)).mono ?_
              rintro e w' ⟨rfl, hb3⟩
              dsimp only
              refine hK.out _ _ hb3 (fun hHeld18 => ?_)
              clear hK K
              try simp only [put_lit, List.set]
              refine wpAnyH_take (i := 19) (oi := { dst := some 68, op := _, type := _, pos := _, after := _, guard := _ }) (v := .bool true) rfl (by kernel_rfl) (by kernel_rfl) (by kernel_rfl) (fun c v w h => hQ c _ _ _ w h) (Or.inl ⟨by rfl, ?yb19⟩) (by assumption) ?rb19
              case yb19 =>
                intro w hSw
                go_simp
                try with_reducible rfl
              case rb19 =>
              simp only [put_lit, List.set]
              refine wpAnyH_take (i := 20) (oi := { dst := some 69, op := _, type := _, pos := _, after := _, guard := _ }) (v := .bool true) rfl (by kernel_rfl) (by kernel_rfl) (by kernel_rfl) (fun c v w h => hQ c _ _ _ w h) (Or.inl ⟨by rfl, ?yb20⟩) (by assumption) ?rb20
              case yb20 =>
                intro w hSw
                go_simp
                try with_reducible rfl
              case rb20 =>
              simp only [put_lit, List.set]
              refine wpAnyH_take (i := 21) (oi := { dst := some 70, op := _, type := _, pos := _, after := _, guard := _ }) (v := .bool true) rfl (by kernel_rfl) (by kernel_rfl) (by kernel_rfl) (fun c v w h => hQ c _ _ _ w h) (Or.inl ⟨by rfl, ?yb21⟩) (by assumption) ?rb21
              case yb21 =>
                intro w hSw
                go_simp
                try with_reducible rfl
              case rb21 =>
              simp only [put_lit, List.set]
              refine wpAnyH_take (i := 22) (oi := { dst := some 71, op := _, type := _, pos := _, after := _, guard := _ }) (v := ?vb22) rfl (by kernel_rfl) (by kernel_rfl) (by kernel_rfl) (fun c v w h => hQ c _ _ _ w h) (Or.inl ⟨by rfl, ?yb22⟩) (by assumption) ?rb22
              case yb22 =>
                intro w hSw
                go_simp
                try with_reducible rfl
              case rb22 =>
              simp only [put_lit, List.set]
              refine wpAnyH_take (i := 23) (oi := { dst := some 72, op := _, type := _, pos := _, after := _, guard := _ }) (v := ?vb23) rfl (by kernel_rfl) (by kernel_rfl) (by kernel_rfl) (fun c v w h => hQ c _ _ _ w h) (Or.inl ⟨by rfl, ?yb23⟩) (by assumption) ?rb23
              case yb23 =>
                intro w hSw
                go_simp
                try with_reducible rfl
              case rb23 =>
              simp only [put_lit, List.set]
              refine wpAnyH_ready (rs := [24]) (by kernel_rfl) (by simp) ?_
              refine AllReadyH.cons (o := { dst := some 73, op := _, type := _, pos := _, after := _, guard := _ }) rfl (fun K hK => ?_) AllReadyH.nil
              go_simp
              refine (hc4 _ (by assumption)).mono ?_
              rintro e w' ⟨rfl, hb4⟩
              dsimp only
              refine hK.out _ _ hb4 (fun hHeld24 => ?_)
              clear hK K
              try simp only [put_lit, List.set]
              refine wpAnyH_take (i := 25) (oi := { dst := some 74, op := _, type := _, pos := _, after := _, guard := _ }) (v := .bool true) rfl (by kernel_rfl) (by kernel_rfl) (by kernel_rfl) (fun c v w h => hQ c _ _ _ w h) (Or.inl ⟨by rfl, ?yb25⟩) (by assumption) ?rb25
              case yb25 =>
                intro w hSw
                go_simp
                try with_reducible rfl
              case rb25 =>
              simp only [put_lit, List.set]
              refine wpAnyH_take (i := 26) (oi := { dst := some 2, op := _, type := _, pos := _, after := _, guard := _ }) (v := .bool true) rfl (by kernel_rfl) (by kernel_rfl) (by kernel_rfl) (fun c v w h => hQ c _ _ _ w h) (Or.inl ⟨by rfl, ?yb26⟩) (by assumption) ?rb26
              case yb26 =>
                intro w hSw
                go_simp
                try with_reducible rfl
              case rb26 =>
              simp only [put_lit, List.set]
              refine wpAnyH_done (by kernel_rfl) ?_ _
              go_wp2
              go_ret
              exact ⟨rfl, fin _ (by assumption)⟩
            · have dS : decide (M.sumL xs ≤ 1) = false := decide_eq_false hs
              clear hs
              generalize M.sumL xs = X at *
              generalize M.wgt xs k = V at *
              go_wp2_with fail
              generalize wr.setCell ⟨g4, j, none⟩ (.int .i64 (nth xs j - 1)) = W9 at *
              refine wp_region_held_drew (S := fun W => Below W9.heap.size W9 W) (by kernel_rfl) bD (fun hHeld => ?_)
              refine with_hQ3 (fun _ _ _ _ _ h => h) (fun hQ => ?_)
              refine wpAnyH_take (i := 0) (oi := { dst := some 49, op := _, type := _, pos := _, after := _, guard := _ }) (v := ?vd0) rfl (by kernel_rfl) (by kernel_rfl) (by kernel_rfl) (fun c v w h => hQ c _ _ _ w h) (Or.inl ⟨by rfl, ?yd0⟩) (by assumption) ?rd0
              case yd0 =>
                intro w hSw
                go_simp
                try with_reducible rfl
              case rd0 =>
              simp only [put_lit, List.set]
              refine wpAnyH_ready (rs := [1]) (by kernel_rfl) (by simp) ?_
              refine AllReadyH.cons (o := { dst := some 50, op := _, type := _, pos := _, after := _, guard := _ }) rfl (fun K hK => ?_) AllReadyH.nil
              go_simp
              refine (hc1 _ (by assumption)).mono ?_
              rintro e w' ⟨rfl, hb1⟩
              dsimp only
              refine hK.out _ _ hb1 (fun hHeld1 => ?_)
              clear hK K
              try simp only [put_lit, List.set]
              refine wpAnyH_take (i := 2) (oi := { dst := some 51, op := _, type := _, pos := _, after := _, guard := _ }) (v := .bool false) rfl (by kernel_rfl) (by kernel_rfl) (by kernel_rfl) (fun c v w h => hQ c _ _ _ w h) (Or.inl ⟨by rfl, ?yd2⟩) (by assumption) ?rd2
              case yd2 =>
                intro w hSw
                go_simp
                try with_reducible rfl
              case rd2 =>
              simp only [put_lit, List.set]
              refine wpAnyH_take (i := 3) (oi := { dst := some 52, op := _, type := _, pos := _, after := _, guard := _ }) (v := .bool false) rfl (by kernel_rfl) (by kernel_rfl) (by kernel_rfl) (fun c v w h => hQ c _ _ _ w h) (Or.inl ⟨by rfl, ?yd3⟩) (by assumption) ?rd3
              case yd3 =>
                intro w hSw
                go_simp
                try with_reducible rfl
              case rd3 =>
              simp only [put_lit, List.set]
              refine wpAnyH_take (i := 4) (oi := { dst := some 53, op := _, type := _, pos := _, after := _, guard := _ }) (v := ?vd4) rfl (by kernel_rfl) (by kernel_rfl) (by kernel_rfl) (fun c v w h => hQ c _ _ _ w h) (Or.inl ⟨by rfl, ?yd4⟩) (by assumption) ?rd4
              case yd4 =>
                intro w hSw
                go_simp
                try with_reducible rfl
              case rd4 =>
              simp only [put_lit, List.set]
              refine wpAnyH_take (i := 5) (oi := { dst := some 54, op := _, type := _, pos := _, after := _, guard := _ }) (v := ?vd5) rfl (by kernel_rfl) (by kernel_rfl) (by kernel_rfl) (fun c v w h => hQ c _ _ _ w h) (Or.inl ⟨by rfl, ?yd5⟩) (by assumption) ?rd5
              case yd5 =>
                intro w hSw
                go_simp
                try with_reducible rfl
              case rd5 =>
              simp only [put_lit, List.set]
              refine wpAnyH_take (i := 7) (oi := { dst := some 56, op := _, type := _, pos := _, after := _, guard := _ }) (v := ?vd7) rfl (by kernel_rfl) (by kernel_rfl) (by kernel_rfl) (fun c v w h => hQ c _ _ _ w h) (Or.inl ⟨by rfl, ?yd7⟩) (by assumption) ?rd7
              case yd7 =>
                intro w hSw
                go_simp
                try with_reducible rfl
              case rd7 =>
              simp only [put_lit, List.set]
              refine wpAnyH_take (i := 8) (oi := { dst := some 57, op := _, type := _, pos := _, after := _, guard := _ }) (v := ?vd8) rfl (by kernel_rfl) (by kernel_rfl) (by kernel_rfl) (fun c v w h => hQ c _ _ _ w h) (Or.inl ⟨by rfl, ?yd8⟩) (by assumption) ?rd8
              case yd8 =>
                intro w hSw
                go_simp
                try with_reducible rfl
              case rd8 =>
              simp only [put_lit, List.set]
              refine wpAnyH_ready (rs := [6]) (by kernel_rfl) (by simp) ?_
              refine AllReadyH.cons (o := { dst := some 55, op := _, type := _, pos := _, after := _, guard := _ }) rfl (fun K hK => ?_) AllReadyH.nil
              go_simp
              refine (hc2 _ (by assumption)).mono ?_
              rintro e w' ⟨rfl, hb2⟩
              dsimp only
              refine hK.out _ _ hb2 (fun hHeld6 => ?_)
              clear hK K
              try simp only [put_lit, List.set]
              refine wpAnyH_take (i := 9) (oi := { dst := some 58, op := _, type := _, pos := _, after := _, guard := _ }) (v := .bool true) rfl (by kernel_rfl) (by kernel_rfl) (by kernel_rfl) (fun c v w h => hQ c _ _ _ w h) (Or.inl ⟨by rfl, ?yd9⟩) (by assumption) ?rd9
              case yd9 =>
                intro w hSw
                go_simp
                try with_reducible rfl
              case rd9 =>
              simp only [put_lit, List.set]
              refine wpAnyH_take (i := 10) (oi := { dst := some 59, op := _, type := _, pos := _, after := _, guard := _ }) (v := .bool true) rfl (by kernel_rfl) (by kernel_rfl) (by kernel_rfl) (fun c v w h => hQ c _ _ _ w h) (Or.inl ⟨by rfl, ?yd10⟩) (by assumption) ?rd10
              case yd10 =>
                intro w hSw
                go_simp
                try with_reducible rfl
              case rd10 =>
              simp only [put_lit, List.set]
              refine wpAnyH_take (i := 11) (oi := { dst := some 60, op := _, type := _, pos := _, after := _, guard := _ }) (v := .bool true) rfl (by kernel_rfl) (by kernel_rfl) (by kernel_rfl) (fun c v w h => hQ c _ _ _ w h) (Or.inl ⟨by rfl, ?yd11⟩) (by assumption) ?rd11
              case yd11 =>
                intro w hSw
                go_simp
                try with_reducible rfl
              case rd11 =>
              simp only [put_lit, List.set]
              refine wpAnyH_take (i := 12) (oi := { dst := some 61, op := _, type := _, pos := _, after := _, guard := _ }) (v := ?vd12) rfl (by kernel_rfl) (by kernel_rfl) (by kernel_rfl) (fun c v w h => hQ c _ _ _ w h) (Or.inl ⟨by rfl, ?yd12⟩) (by assumption) ?rd12
              case yd12 =>
                intro w hSw
                go_simp
                try with_reducible rfl
              case rd12 =>
              simp only [put_lit, List.set]
              refine wpAnyH_take (i := 13) (oi := { dst := some 62, op := _, type := _, pos := _, after := _, guard := _ }) (v := .bool false) rfl (by kernel_rfl) (by kernel_rfl) (by kernel_rfl) (fun c v w h => hQ c _ _ _ w h) (Or.inl ⟨by rfl, ?yd13⟩) (by assumption) ?rd13
              case yd13 =>
                intro w hSw
                go_simp
                try with_reducible rfl
              case rd13 =>
              simp only [put_lit, List.set]
              refine wpAnyH_take (i := 14) (oi := { dst := some 63, op := _, type := _, pos := _, after := _, guard := _ }) (v := .bool false) rfl (by kernel_rfl) (by kernel_rfl) (by kernel_rfl) (fun c v w h => hQ c _ _ _ w h) (Or.inl ⟨by rfl, ?yd14⟩) (by assumption) ?rd14
              case yd14 =>
                intro w hSw
                go_simp
                try with_reducible rfl
              case rd14 =>
              simp only [put_lit, List.set]
              refine wpAnyH_take (i := 15) (oi := { dst := some 64, op := _, type := _, pos := _, after := _, guard := _ }) (v := ?vd15) rfl (by kernel_rfl) (by kernel_rfl) (by kernel_rfl) (fun c v w h => hQ c _ _ _ w h) (Or.inl ⟨by rfl, ?yd15⟩) (by assumption) ?rd15
              case yd15 =>
                intro w hSw
                go_simp
                try with_reducible rfl
              case rd15 =>
              simp only [put_lit, List.set]
              refine wpAnyH_take (i := 16) (oi := { dst := some 65, op := _, type := _, pos := _, after := _, guard := _ }) (v := ?vd16) rfl (by kernel_rfl) (by kernel_rfl) (by kernel_rfl) (fun c v w h => hQ c _ _ _ w h) (Or.inl ⟨by rfl, ?yd16⟩) (by assumption) ?rd16
              case yd16 =>
                intro w hSw
                go_simp
                try with_reducible rfl
              case rd16 =>
              simp only [put_lit, List.set]
              refine wpAnyH_take (i := 17) (oi := { dst := some 66, op := _, type := _, pos := _, after := _, guard := _ }) (v := ?vd17) rfl (by kernel_rfl) (by kernel_rfl) (by kernel_rfl) (fun c v w h => hQ c _ _ _ w h) (Or.inl ⟨by rfl, ?yd17⟩) (by assumption) ?rd17
              case yd17 =>
                intro w hSw
                go_simp
                try with_reducible rfl
              case rd17 =>
              simp only [put_lit, List.set]
              refine wpAnyH_ready (rs := [18]) (by kernel_rfl) (by simp) ?_
              refine AllReadyH.cons (o := { dst := some 67, op := _, type := _, pos := _, after := _, guard := _ }) rfl (fun K hK => ?_) AllReadyH.nil
              go_simp
              refine (hc3 _ (by assumption)).mono ?_
              rintro e w' ⟨rfl, hb3⟩
              dsimp only
              refine hK.out _ _ hb3 (fun hHeld18 => ?_)
              clear hK K
              try simp only [put_lit, List.set]
              refine wpAnyH_take (i := 19) (oi := { dst := some 68, op := _, type := _, pos := _, after := _, guard := _ }) (v := .bool true) rfl (by kernel_rfl) (by kernel_rfl) (by kernel_rfl) (fun c v w h => hQ c _ _ _ w h) (Or.inl ⟨by rfl, ?yd19⟩) (by assumption) ?rd19
              case yd19 =>
                intro w hSw
                go_simp
                try with_reducible rfl
              case rd19 =>
              simp only [put_lit, List.set]
              refine wpAnyH_take (i := 20) (oi := { dst := some 69, op := _, type := _, pos := _, after := _, guard := _ }) (v := .bool true) rfl (by kernel_rfl) (by kernel_rfl) (by kernel_rfl) (fun c v w h => hQ c _ _ _ w h) (Or.inl ⟨by rfl, ?yd20⟩) (by assumption) ?rd20
              case yd20 =>
                intro w hSw
                go_simp
                try with_reducible rfl
              case rd20 =>
              simp only [put_lit, List.set]
              refine wpAnyH_take (i := 21) (oi := { dst := some 70, op := _, type := _, pos := _, after := _, guard := _ }) (v := .bool true) rfl (by kernel_rfl) (by kernel_rfl) (by kernel_rfl) (fun c v w h => hQ c _ _ _ w h) (Or.inl ⟨by rfl, ?yd21⟩) (by assumption) ?rd21
              case yd21 =>
                intro w hSw
                go_simp
                try with_reducible rfl
              case rd21 =>
              simp only [put_lit, List.set]
              refine wpAnyH_take (i := 22) (oi := { dst := some 71, op := _, type := _, pos := _, after := _, guard := _ }) (v := ?vd22) rfl (by kernel_rfl) (by kernel_rfl) (by kernel_rfl) (fun c v w h => hQ c _ _ _ w h) (Or.inl ⟨by rfl, ?yd22⟩) (by assumption) ?rd22
              case yd22 =>
                intro w hSw
                go_simp
                try with_reducible rfl
              case rd22 =>
              simp only [put_lit, List.set]
              refine wpAnyH_take (i := 23) (oi := { dst := some 72, op := _, type := _, pos := _, after := _, guard := _ }) (v := ?vd23) rfl (by kernel_rfl) (by kernel_rfl) (by kernel_rfl) (fun c v w h => hQ c _ _ _ w h) (Or.inl ⟨by rfl, ?yd23⟩) (by assumption) ?rd23
              case yd23 =>
                intro w hSw
                go_simp
                try with_reducible rfl
              case rd23 =>
              simp only [put_lit, List.set]
              refine wpAnyH_ready (rs := [24]) (by kernel_rfl) (by simp) ?_
              refine AllReadyH.cons (o := { dst := some 73, op := _, type := _, pos := _, after := _, guard := _ }) rfl (fun K hK => ?_) AllReadyH.nil
              go_simp
              refine (hc4 _ (by assumption)).mono ?_
              rintro e w' ⟨rfl, hb4⟩
              dsimp only
              refine hK.out _ _ hb4 (fun hHeld24 => ?_)
              clear hK K
              try simp only [put_lit, List.set]
              refine wpAnyH_take (i := 25) (oi := { dst := some 74, op := _, type := _, pos := _, after := _, guard := _ }) (v := .bool true) rfl (by kernel_rfl) (by kernel_rfl) (by kernel_rfl) (fun c v w h => hQ c _ _ _ w h) (Or.inl ⟨by rfl, ?yd25⟩) (by assumption) ?rd25
              case yd25 =>
                intro w hSw
                go_simp
                try with_reducible rfl
              case rd25 =>
              simp only [put_lit, List.set]
              refine wpAnyH_take (i := 26) (oi := { dst := some 2, op := _, type := _, pos := _, after := _, guard := _ }) (v := .bool true) rfl (by kernel_rfl) (by kernel_rfl) (by kernel_rfl) (fun c v w h => hQ c _ _ _ w h) (Or.inl ⟨by rfl, ?yd26⟩) (by assumption) ?rd26
              case yd26 =>
                intro w hSw
                go_simp
                try with_reducible rfl
              case rd26 =>
              simp only [put_lit, List.set]
              refine wpAnyH_done (by kernel_rfl) ?_ _
              go_wp2
              go_ret
              exact ⟨rfl, fin _ (by assumption)⟩
          · go_wp2
            go_roundg g1
            case measure => omega
            case rel => exact ⟨rfl, j + 1, by omega, by go_num, Lib.hid (fun i hi => by
              by_cases e : i = j
              · subst e; omega
              · exact HJ.out i (by omega))⟩
        · obtain rfl : m = j := by omega
          obtain rfl : gk = 0 := by omega
          obtain ⟨W9, hW9⟩ : ∃ W9 : World, W9 = wr := ⟨_, rfl⟩
          subst hW9
          have hx5 := hx4
          have ho5 := ho4
          have hk5 := HK.out
          have hw5 := HW.out
          have bw : Below w.heap.size w W9 := b4
          obtain ⟨hfit, hs0, hs10⟩ := M.known_sum2 HK.out
          obtain ⟨hv0, hv1⟩ := M.weight_bnd HK.out (n := k) (by omega)
          have hv2 := M.win_wgt k xs (by omega) HK.out HW.out
          obtain ⟨hp0, hp1⟩ := M.pow9 (n := k) (by omega)
          have t1 : IntKind.i64.wrap ((2 : Int) ^ k) = 2 ^ k := by rw [IntKind.wrap_i64]; omega
          have t1' : wrap64 ((2 : Int) ^ k) = 2 ^ k := by rw [M.w64]; exact t1
          have mp : min k 64 = k := by omega
          obtain ⟨k1, hk1⟩ : ∃ k1, k1 = k + 1 := ⟨_, rfl⟩
          have t2 : IntKind.i64.wrap ((k : Int) + 1) = (k1 : Int) := by rw [IntKind.wrap_i64]; omega
          have hw1 : M.win k1 xs = true := by rw [hk1]; exact M.win_more k xs HK.out HW.out
          have e9 : ((k : Int) == 9) = false := by simp; omega
          have e9' : decide ((k : Int) = 9) = false := by simp; omega
          have e9'' : decide (k = 9) = false := by simp; omega
          have hc1 : ∀ W, Below W9.heap.size W9 W → Calls Try.prog 20 #[.slice (some ⟨g0, 0, none⟩) m c'] W fun e w' => e = .returned (.int .i64 (M.sumL xs)) ∧ Below W9.heap.size W9 w' := fun W hb => (sumOf_c (some ⟨g0, 0, none⟩) m c' xs W (hx5.below hb).rd hfit).mono fun _ _ h => ⟨h.1, h.2 ▸ hb⟩
          have hc2 : ∀ W, Below W9.heap.size W9 W → Calls Try.prog 14 #[.slice (some ⟨g0, 0, none⟩) m c', .int .i64 k] W fun e w' => e = .returned (.int .i64 (M.wgt xs k)) ∧ Below W9.heap.size W9 w' := fun W hb => by
            have := iWeightOf_c (some ⟨g0, 0, none⟩) m c' xs k W (hx5.below hb).rd
            rw [M.weight_ok HK.out (M.inB_true.2 (by omega))] at this
            exact this.mono fun _ _ h => ⟨h.1, bt hb h.2⟩
          have hc3 : ∀ W, Below W9.heap.size W9 W → Calls Try.prog 26 #[.slice (some ⟨g0, 0, none⟩) m c', .int .i64 k1] W fun e w' => e = .returned (.bool true) ∧ Below W9.heap.size W9 w' := fun W hb => by
            have := iSureIn_c (some ⟨g0, 0, none⟩) m c' _ xs k1 W (hx5.below hb)
            rw [M.sure_ok HK.out (by omega), hw1] at this
            exact this.mono fun _ _ h => ⟨h.1, bt hb h.2⟩
          have hc4 : ∀ W, Below W9.heap.size W9 W → Calls Try.prog 26 #[.slice (some ⟨g4, 0, none⟩) m c4, .int .i64 k] W fun e w' => e = .returned (.bool true) ∧ Below W9.heap.size W9 w' := fun W hb => by
            have := iSureIn_c (some ⟨g4, 0, none⟩) m c4 _ _ k W (ho5.below hb)
            rw [M.sure_ok hk5 (by omega), hw5] at this
            exact this.mono fun _ _ h => ⟨h.1, bt hb h.2⟩
          have bD : Below W9.heap.size W9 W9.drew := Quiet.below ⟨1, rfl⟩ _
          have fin : ∀ W, Below W9.heap.size W9 W → Below w.heap.size w W := fun W hb => bt bw hb
          clear hk1 hw1
          have HC := Lib.hid True.intro
          have dv : decide (M.wgt xs k ≤ 2 ^ k) = true := decide_eq_true hv2
          clear hfit hs0 hs10 hv0 hv1 hv2
          have hs : M.sumL xs ≤ 1 := by
            have : M.sumL xs ≤ 0 := M.sum_nonpos (fun i hi => HJ.out i (by omega))
            omega
          have dS : decide (M.sumL xs ≤ 1) = true := decide_eq_true hs
          clear hs
          generalize M.sumL xs = X at *
          generalize M.wgt xs k = V at *
          go_wp2_with fail
          refine wp_region_held_drew (S := fun W => Below W9.heap.size W9 W) (by kernel_rfl) bD (fun hHeld => ?_)
          refine with_hQ3 (fun _ _ _ _ _ h => h) (fun hQ => ?_)
          refine wpAnyH_take (i := 0) (oi := { dst := some 49, op := _, type := _, pos := _, after := _, guard := _ }) (v := ?vc0) rfl (by kernel_rfl) (by kernel_rfl) (by kernel_rfl) (fun c v w h => hQ c _ _ _ w h) (Or.inl ⟨by rfl, ?yc0⟩) (by assumption) ?rc0
          case yc0 =>
            intro w hSw
            go_simp
            try with_reducible rfl
          case rc0 =>
          simp only [put_lit, List.set]
          refine wpAnyH_ready (rs := [1]) (by kernel_rfl) (by simp) ?_
          refine AllReadyH.cons (o := { dst := some 50, op := _, type := _, pos := _, after := _, guard := _ }) rfl (fun K hK => ?_) AllReadyH.nil
          go_simp
          refine (hc1 _ (by assumption)).mono ?_
          rintro e w' ⟨rfl, hb1⟩
          dsimp only
          refine hK.out _ _ hb1 (fun hHeld1 => ?_)
          clear hK K
          try simp only [put_lit, List.set]
          refine wpAnyH_take (i := 2) (oi := { dst := some 51, op := _, type := _, pos := _, after := _, guard := _ }) (v := .bool true) rfl (by kernel_rfl) (by kernel_rfl) (by kernel_rfl) (fun c v w h => hQ c _ _ _ w h) (Or.inl ⟨by rfl, ?yc2⟩) (by assumption) ?rc2
          case yc2 =>
            intro w hSw
            go_simp
            try with_reducible rfl
          case rc2 =>
          simp only [put_lit, List.set]
          refine wpAnyH_take (i := 3) (oi := { dst := some 52, op := _, type := _, pos := _, after := _, guard := _ }) (v := .bool true) rfl (by kernel_rfl) (by kernel_rfl) (by kernel_rfl) (fun c v w h => hQ c _ _ _ w h) (Or.inl ⟨by rfl, ?yc3⟩) (by assumption) ?rc3
          case yc3 =>
            intro w hSw
            go_simp
            try with_reducible rfl
          case rc3 =>
          simp only [put_lit, List.set]
          refine wpAnyH_take (i := 4) (oi := { dst := some 53, op := _, type := _, pos := _, after := _, guard := _ }) (v := undef) rfl (by kernel_rfl) (by kernel_rfl) (by kernel_rfl) (fun c v w h => hQ c _ _ _ w h) (Or.inr ⟨by kernel_rfl, rfl⟩) (by assumption) ?_
          simp only [put_lit, List.set]
          refine wpAnyH_take (i := 5) (oi := { dst := some 54, op := _, type := _, pos := _, after := _, guard := _ }) (v := undef) rfl (by kernel_rfl) (by kernel_rfl) (by kernel_rfl) (fun c v w h => hQ c _ _ _ w h) (Or.inr ⟨by kernel_rfl, rfl⟩) (by assumption) ?_
          simp only [put_lit, List.set]
          refine wpAnyH_take (i := 6) (oi := { dst := some 55, op := _, type := _, pos := _, after := _, guard := _ }) (v := undef) rfl (by kernel_rfl) (by kernel_rfl) (by kernel_rfl) (fun c v w h => hQ c _ _ _ w h) (Or.inr ⟨by kernel_rfl, rfl⟩) (by assumption) ?_
          simp only [put_lit, List.set]
          refine wpAnyH_take (i := 7) (oi := { dst := some 56, op := _, type := _, pos := _, after := _, guard := _ }) (v := undef) rfl (by kernel_rfl) (by kernel_rfl) (by kernel_rfl) (fun c v w h => hQ c _ _ _ w h) (Or.inr ⟨by kernel_rfl, rfl⟩) (by assumption) ?_
          simp only [put_lit, List.set]
          refine wpAnyH_take (i := 8) (oi := { dst := some 57, op := _, type := _, pos := _, after := _, guard := _ }) (v := undef) rfl (by kernel_rfl) (by kernel_rfl) (by kernel_rfl) (fun c v w h => hQ c _ _ _ w h) (Or.inr ⟨by kernel_rfl, rfl⟩) (by assumption) ?_
          simp only [put_lit, List.set]
          refine wpAnyH_take (i := 9) (oi := { dst := some 58, op := _, type := _, pos := _, after := _, guard := _ }) (v := undef) rfl (by kernel_rfl) (by kernel_rfl) (by kernel_rfl) (fun c v w h => hQ c _ _ _ w h) (Or.inr ⟨by kernel_rfl, rfl⟩) (by assumption) ?_
          simp only [put_lit, List.set]
          refine wpAnyH_take (i := 10) (oi := { dst := some 59, op := _, type := _, pos := _, after := _, guard := _ }) (v := .bool true) rfl (by kernel_rfl) (by kernel_rfl) (by kernel_rfl) (fun c v w h => hQ c _ _ _ w h) (Or.inl ⟨by rfl, ?yc10⟩) (by assumption) ?rc10
          case yc10 =>
            intro w hSw
            go_simp
            try with_reducible rfl
          case rc10 =>
          simp only [put_lit, List.set]
          refine wpAnyH_take (i := 11) (oi := { dst := some 60, op := _, type := _, pos := _, after := _, guard := _ }) (v := .bool true) rfl (by kernel_rfl) (by kernel_rfl) (by kernel_rfl) (fun c v w h => hQ c _ _ _ w h) (Or.inl ⟨by rfl, ?yc11⟩) (by assumption) ?rc11
          case yc11 =>
            intro w hSw
            go_simp
            try with_reducible rfl
          case rc11 =>
          simp only [put_lit, List.set]
          refine wpAnyH_take (i := 12) (oi := { dst := some 61, op := _, type := _, pos := _, after := _, guard := _ }) (v := ?vc12) rfl (by kernel_rfl) (by kernel_rfl) (by kernel_rfl) (fun c v w h => hQ c _ _ _ w h) (Or.inl ⟨by rfl, ?yc12⟩) (by assumption) ?rc12
          case yc12 =>
            intro w hSw
            go_simp
            try with_reducible rfl
          case rc12 =>
          simp only [put_lit, List.set]
          refine wpAnyH_take (i := 13) (oi := { dst := some 62, op := _, type := _, pos := _, after := _, guard := _ }) (v := .bool false) rfl (by kernel_rfl) (by kernel_rfl) (by kernel_rfl) (fun c v w h => hQ c _ _ _ w h) (Or.inl ⟨by rfl, ?yc13⟩) (by assumption) ?rc13
          case yc13 =>
            intro w hSw
            go_simp
            try with_reducible rfl
          case rc13 =>
          simp only [put_lit, List.set]
          refine wpAnyH_take (i := 14) (oi := { dst := some 63, op := _, type := _, pos := _, after := _, guard := _ }) (v := .bool false) rfl (by kernel_rfl) (by kernel_rfl) (by kernel_rfl) (fun c v w h => hQ c _ _ _ w h) (Or.inl ⟨by rfl, ?yc14⟩) (by assumption) ?rc14
          case yc14 =>
            intro w hSw
            go_simp
            try with_reducible rfl
          case rc14 =>
          simp only [put_lit, List.set]
          refine wpAnyH_take (i := 15) (oi := { dst := some 64, op := _, type := _, pos := _, after := _, guard := _ }) (v := ?vc15) rfl (by kernel_rfl) (by kernel_rfl) (by kernel_rfl) (fun c v w h => hQ c _ _ _ w h) (Or.inl ⟨by rfl, ?yc15⟩) (by assumption) ?rc15
          case yc15 =>
            intro w hSw
            go_simp
            try with_reducible rfl
          case rc15 =>
          simp only [put_lit, List.set]
          refine wpAnyH_take (i := 16) (oi := { dst := some 65, op := _, type := _, pos := _, after := _, guard := _ }) (v := ?vc16) rfl (by kernel_rfl) (by kernel_rfl) (by kernel_rfl) (fun c v w h => hQ c _ _ _ w h) (Or.inl ⟨by rfl, ?yc16⟩) (by assumption) ?rc16
          case yc16 =>
            intro w hSw
            go_simp
            try with_reducible rfl
          case rc16 =>
          simp only [put_lit, List.set]
          refine wpAnyH_take (i := 17) (oi := { dst := some 66, op := _, type := _, pos := _, after := _, guard := _ }) (v := ?vc17) rfl (by kernel_rfl) (by kernel_rfl) (by kernel_rfl) (fun c v w h => hQ c _ _ _ w h) (Or.inl ⟨by rfl, ?yc17⟩) (by assumption) ?rc17
          case yc17 =>
            intro w hSw
            go_simp
            try with_reducible rfl
          case rc17 =>
          simp only [put_lit, List.set]
          refine wpAnyH_ready (rs := [18]) (by kernel_rfl) (by simp) ?_
          refine AllReadyH.cons (o := { dst := some 67, op := _, type := _, pos := _, after := _, guard := _ }) rfl (fun K hK => ?_) AllReadyH.nil
          go_simp
          refine (hc3 _ (by assumption)).mono ?_
          rintro e w' ⟨rfl, hb3⟩
          dsimp only
          refine hK.out _ _ hb3 (fun hHeld18 => ?_)
          clear hK K
          try simp only [put_lit, List.set]
          refine wpAnyH_take (i := 19) (oi := { dst := some 68, op := _, type := _, pos := _, after := _, guard := _ }) (v := .bool true) rfl (by kernel_rfl) (by kernel_rfl) (by kernel_rfl) (fun c v w h => hQ c _ _ _ w h) (Or.inl ⟨by rfl, ?yc19⟩) (by assumption) ?rc19
          case yc19 =>
            intro w hSw
            go_simp
            try with_reducible rfl
          case rc19 =>
          simp only [put_lit, List.set]
          refine wpAnyH_take (i := 20) (oi := { dst := some 69, op := _, type := _, pos := _, after := _, guard := _ }) (v := .bool true) rfl (by kernel_rfl) (by kernel_rfl) (by kernel_rfl) (fun c v w h => hQ c _ _ _ w h) (Or.inl ⟨by rfl, ?yc20⟩) (by assumption) ?rc20
          case yc20 =>
            intro w hSw
            go_simp
            try with_reducible rfl
          case rc20 =>
          simp only [put_lit, List.set]
          refine wpAnyH_take (i := 21) (oi := { dst := some 70, op := _, type := _, pos := _, after := _, guard := _ }) (v := .bool true) rfl (by kernel_rfl) (by kernel_rfl) (by kernel_rfl) (fun c v w h => hQ c _ _ _ w h) (Or.inl ⟨by rfl, ?yc21⟩) (by assumption) ?rc21
          case yc21 =>
            intro w hSw
            go_simp
            try with_reducible rfl
          case rc21 =>
          simp only [put_lit, List.set]
          refine wpAnyH_take (i := 22) (oi := { dst := some 71, op := _, type := _, pos := _, after := _, guard := _ }) (v := ?vc22) rfl (by kernel_rfl) (by kernel_rfl) (by kernel_rfl) (fun c v w h => hQ c _ _ _ w h) (Or.inl ⟨by rfl, ?yc22⟩) (by assumption) ?rc22
          case yc22 =>
            intro w hSw
            go_simp
            try with_reducible rfl
          case rc22 =>
          simp only [put_lit, List.set]
          refine wpAnyH_take (i := 23) (oi := { dst := some 72, op := _, type := _, pos := _, after := _, guard := _ }) (v := ?vc23) rfl (by kernel_rfl) (by kernel_rfl) (by kernel_rfl) (fun c v w h => hQ c _ _ _ w h) (Or.inl ⟨by rfl, ?yc23⟩) (by assumption) ?rc23
          case yc23 =>
            intro w hSw
            go_simp
            try with_reducible rfl
          case rc23 =>
          simp only [put_lit, List.set]
          refine wpAnyH_ready (rs := [24]) (by kernel_rfl) (by simp) ?_
          refine AllReadyH.cons (o := { dst := some 73, op := _, type := _, pos := _, after := _, guard := _ }) rfl (fun K hK => ?_) AllReadyH.nil
          go_simp
          refine (hc4 _ (by assumption)).mono ?_
          rintro e w' ⟨rfl, hb4⟩
          dsimp only
          refine hK.out _ _ hb4 (fun hHeld24 => ?_)
          clear hK K
          try simp only [put_lit, List.set]
          refine wpAnyH_take (i := 25) (oi := { dst := some 74, op := _, type := _, pos := _, after := _, guard := _ }) (v := .bool true) rfl (by kernel_rfl) (by kernel_rfl) (by kernel_rfl) (fun c v w h => hQ c _ _ _ w h) (Or.inl ⟨by rfl, ?yc25⟩) (by assumption) ?rc25
          case yc25 =>
            intro w hSw
            go_simp
            try with_reducible rfl
          case rc25 =>
          simp only [put_lit, List.set]
          refine wpAnyH_take (i := 26) (oi := { dst := some 2, op := _, type := _, pos := _, after := _, guard := _ }) (v := .bool true) rfl (by kernel_rfl) (by kernel_rfl) (by kernel_rfl) (fun c v w h => hQ c _ _ _ w h) (Or.inl ⟨by rfl, ?yc26⟩) (by assumption) ?rc26
          case yc26 =>
            intro w hSw
            go_simp
            try with_reducible rfl
          case rc26 =>
          simp only [put_lit, List.set]
          refine wpAnyH_done (by kernel_rfl) ?_ _
          go_wp2
          go_ret
          exact ⟨rfl, fin _ (by assumption)⟩

end Go.Proofs.Ytdpbjepjiloeaaa
