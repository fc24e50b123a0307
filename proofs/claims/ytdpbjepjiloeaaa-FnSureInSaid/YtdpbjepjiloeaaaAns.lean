/- Contracts on answers: others, confirmed, AfterYes, AfterNo, of the program and of the reference. -/
import Derived.Test.YtdpbjepjiloeaaaKnow
import Derived.Deep.RegionLaw
namespace Go.Proofs.Ytdpbjepjiloeaaa
open Go Go.RowKit
open M (nth)

theorem step_own {P : Program} {ops : Array Oper} {o : Oper} {a : Act} {w : World} {K : Act → World → Prop} {Q : Exit → Act → World → Prop} {E : Prop} (hg : o.guard = none) (h : Oper.wp P o a w K Q) :
    if Region.wanted o (yielded ops a.tmps) = true then Oper.wp P o a w K Q else E := by
  rw [if_pos (by simp [Region.wanted, hg])]; exact h

set_option maxHeartbeats 1000000 in
theorem others_c (b : Nat) (A B : Option Addr) (n c m d : Nat) (xs ys : List Int) (w : World) (h : OwnI w b A n c xs) (h' : RdI w B m ys) (hm : m = n) (hn : n ≤ 3)
    (hx : ∀ k, k < n → 0 ≤ nth xs k ∧ nth xs k ≤ 10) (hy : ∀ k, k < n → 0 ≤ nth ys k ∧ nth ys k ≤ 10) :
    Calls Try.prog 44 #[.slice A n c, .slice B m d] w fun e w' => ∃ A' c', e = .returned (.slice A' n c') ∧ OwnI w' w.heap.size A' n c' (M.sub xs ys) ∧ Below w.heap.size w w' := by
  subst hm
  have hlen := h.1
  have hsl := M.length_sub xs ys
  go_enter Try.func44, Try.ntmps44
  go_wp2_with fail
  refine (Clone_c b A m c xs _ h (by omega)).mono ?_
  rintro e w1 ⟨A1, c1, rfl, ho1, hb1⟩
  go_wp2_with fail
  go_loopg [12] m (fun g i wr => ∃ k : Nat, k + g = m ∧ i = .int .i64 k ∧ OwnI wr w.heap.size A1 m c1 (M.mix (M.sub xs ys) xs k) ∧ Below w.heap.size w wr)
  case atStart => exact ⟨0, by omega, rfl, by rw [M.mix_zero]; exact ho1, hb1⟩
  case round =>
    obtain ⟨k, hk, rfl, hor, hbr⟩ := hrel
    by_cases hlt : k < m
    · obtain ⟨g, rfl⟩ : ∃ g, gk = g + 1 := ⟨gk - 1, by omega⟩
      obtain ⟨ad, rfl, _, hcell⟩ := (h'.below hbr).at_ hlt
      obtain ⟨g1, rfl, hB0, hB1⟩ := hor.at0 (by omega)
      have hc1 := hor.cell hlt
      have hf1 := hor.free k
      rw [M.nth_mix (by omega) (by omega)] at hc1
      have hst := M.mix_set (new := M.sub xs ys) (old := xs) (k := k) (by omega) (by omega)
      rw [M.nth_sub (by omega)] at hst
      have Hst := Lib.hid hst
      clear hst
      have hx' := hx k hlt
      have hy' := hy k hlt
      go_wp2_with fail
      go_roundg g
      case measure => omega
      case rel => exact ⟨k + 1, by omega, by go_num, by rw [← Hst.out]; exact (hor.stored k _).1, hbr.setCell (p := ⟨g1, k, none⟩) hB0 _⟩
    · obtain rfl : k = m := by omega
      go_wp2
      go_ret
      rw [M.mix_all (by omega) (by omega)] at hor
      exact ⟨_, _, rfl, hor, hbr⟩

theorem M.nth_drop (xs : List Int) (j k : Nat) : nth (xs.drop j) k = nth xs (j + k) := by simp [nth, List.getElem?_drop]

set_option maxHeartbeats 1000000 in
theorem confirmed_c (b b' : Nat) (A B : Option Addr) (n c m d : Nat) (xs ys : List Int) (w : World) (h : OwnI w b A n c xs) (h' : OwnI w b' B m d ys) (hm : m = n) (hn : n ≤ 3) (hn1 : 1 ≤ n)
    (hx : ∀ k, k < n → 0 ≤ nth xs k ∧ nth xs k ≤ 10) (hy : ∀ k, k < n → 0 ≤ nth ys k ∧ nth ys k ≤ 10) :
    Calls Try.prog 43 #[.slice A n c, .slice B m d] w fun e w' => ∃ A' c', e = .returned (.slice A' n c') ∧ OwnI w' w.heap.size A' n c' (M.conf xs ys) ∧ Below w.heap.size w w' := by
  subst hm
  have hlen := h.1
  have hlen' := h'.1
  have hcl := M.length_conf xs ys
  go_enter Try.func43, Try.ntmps43
  go_wp2_with fail
  refine (Clone_c b' B m d ys _ h' (by omega)).mono ?_
  rintro e w1 ⟨A1, c1, rfl, ho1, hb1⟩
  go_wp2_with fail
  refine (others_c b A B m c m d xs ys _ (h.below hb1) (h'.below hb1).rd rfl hn hx hy).mono ?_
  rintro e w2 ⟨A2, c2, rfl, ho2, hb2⟩
  have b2 := bt hb1 hb2
  have ho12 := ho1.below hb2
  have hcap2 := own_cap ho2
  have hz1 := hb1.size
  obtain ⟨g2, rfl, hB0, hB1⟩ := ho2.at0 (by omega)
  obtain ⟨g1, rfl, hA0, hA1⟩ := ho1.at0 (by omega)
  have hcm := ho2.cap
  -- the last number stands as it is
  have hlast : OwnI w2 w.heap.size (some ⟨g1, 0, none⟩) m c1 (M.mix (M.conf xs ys) ys 0) := by rw [M.mix_zero]; exact ho12
  have hend : M.mix (M.conf xs ys) ys (m - 1) = M.conf xs ys := by
    have e := M.mix_set (new := M.conf xs ys) (old := ys) (k := m - 1) (by omega) (by omega)
    rw [show m - 1 + 1 = m by omega, M.mix_all (k := m) (by omega) (by omega)] at e
    have h1 := M.nth_mix (new := M.conf xs ys) (old := ys) (k := m - 1) (by omega) (by omega)
    have h2 := M.nth_conf_last (row := xs) (q := ys) (k := m - 1) (by omega)
    have hl := M.length_mix (new := M.conf xs ys) (old := ys) (k := m - 1) (by omega) (by omega)
    have h3 := M.nth_lt (xs := M.mix (M.conf xs ys) ys (m - 1)) (k := m - 1) (by omega)
    refine Eq.trans ?_ e
    rw [h2, ← h1, h3]
    exact (List.set_getElem_self _).symm
  have Hend := Lib.hid hend
  clear hend
  by_cases hc2 : c2 = 1
  · subst hc2
    obtain rfl : m = 1 := by omega
    go_wp2_with fail
    go_loopg [15] 0 (fun g i wr => i = .int .i64 0 ∧ wr = w2)
    case atStart => exact ⟨rfl, rfl⟩
    case round =>
      obtain ⟨rfl, rfl⟩ := hrel
      go_wp2
      go_ret
      exact ⟨_, _, rfl, by rw [← Hend.out]; exact hlast, b2⟩
  · go_wp2_with fail
    go_loopg [15] (m - 1) (fun g i wr => ∃ k : Nat, k + g = m - 1 ∧ i = .int .i64 k ∧ OwnI wr w.heap.size (some ⟨g1, 0, none⟩) m c1 (M.mix (M.conf xs ys) ys k) ∧ OwnI wr w1.heap.size (some ⟨g2, 0, none⟩) m c2 (M.sub xs ys) ∧ Below w.heap.size w wr)
    case atStart => exact ⟨0, by omega, rfl, hlast, ho2, b2⟩
    case round =>
      obtain ⟨k, hk, rfl, hor, ho2r, hbr⟩ := hrel
      by_cases hlt : k < m - 1
      · obtain ⟨g, rfl⟩ : ∃ g, gk = g + 1 := ⟨gk - 1, by omega⟩
        have hcell := ho2r.cell (k := 1 + k) (by omega)
        rw [M.nth_sub (by omega)] at hcell
        have hc1 := hor.cell (k := k) (by omega)
        have hf1 := hor.free k
        rw [M.nth_mix (by omega) (by omega)] at hc1
        have hst := M.mix_set (new := M.conf xs ys) (old := ys) (k := k) (by omega) (by omega)
        rw [M.nth_conf (by omega), Nat.add_comm k 1] at hst
        have Hst := Lib.hid hst
        clear hst
        have hx' := hx (1 + k) (by omega)
        have hy' := hy (1 + k) (by omega)
        have hy0 := hy k (by omega)
        go_wp2_with fail
        go_roundg g
        case measure => omega
        case rel => exact ⟨1 + k, by omega, by go_num, by rw [← Hst.out]; exact (hor.stored k _).1, ho2r.kept (hor.stored k _).2 (.inr (by simp [Value.ownBlock]; omega)), hbr.setCell (p := ⟨g1, k, none⟩) hA0 _⟩
      · obtain rfl : k = m - 1 := by omega
        go_wp2
        go_ret
        exact ⟨_, _, rfl, by rw [← Hend.out]; exact hor, hbr⟩

set_option maxHeartbeats 1000000 in
theorem iAfterYes_c (b b' : Nat) (A B : Option Addr) (n c m d : Nat) (xs ys : List Int) (w : World) (h : OwnI w b A n c xs) (h' : OwnI w b' B m d ys) :
    Calls Try.prog 19 #[.slice A n c, .slice B m d] w (RetI w (M.yesL xs ys)) := by
  have hlen := h.1
  have hlen' := h'.1
  go_enter Try.func19, Try.ntmps19
  go_wp2_with fail
  refine (iSplitOk_c A B n c m d xs ys _ h.rd h'.rd).mono ?_
  rintro e w1 ⟨rfl, hb1⟩
  cases hok : M.splitB xs ys with
  | false =>
    have Hg := Lib.hid (M.yes_no hok)
    go_wp2
    go_ret
    exact ⟨_, _, _, rfl, by rw [Hg.out]; exact ownI_nil _ _, hb1⟩
  | true =>
    have Hg := Lib.hid (M.yes_ok hok)
    obtain ⟨k1, k2, k3⟩ := M.split_parts hok
    obtain ⟨j1, j2, j3, -⟩ := M.known_parts k1
    go_wp2_with fail
    refine (confirmed_c b b' A B n c m d xs ys _ (h.below hb1) (h'.below hb1) (by omega) (by omega) (by omega) (fun k hk => j3 k (by omega)) (fun k hk => by have := j3 k (by omega); have := k3 k (by omega); omega)).mono ?_
    rintro e w2 ⟨A2, c2, rfl, ho2, hb2⟩
    go_wp2
    go_ret
    exact ⟨_, _, _, rfl, by rw [Hg.out]; exact ho2.mono hb1.size, bt hb1 hb2⟩

set_option maxHeartbeats 1000000 in
theorem iAfterNo_c (b b' : Nat) (A B : Option Addr) (n c m d : Nat) (xs ys : List Int) (w : World) (h : OwnI w b A n c xs) (h' : OwnI w b' B m d ys) :
    Calls Try.prog 16 #[.slice A n c, .slice B m d] w (RetI w (M.noL xs ys)) := by
  have hlen := h.1
  have hlen' := h'.1
  go_enter Try.func16, Try.ntmps16
  go_wp2_with fail
  refine (iSplitOk_c A B n c m d xs ys _ h.rd h'.rd).mono ?_
  rintro e w1 ⟨rfl, hb1⟩
  cases hok : M.splitB xs ys with
  | false =>
    have Hg := Lib.hid (M.no_no hok)
    go_wp2
    go_ret
    exact ⟨_, _, _, rfl, by rw [Hg.out]; exact ownI_nil _ _, hb1⟩
  | true =>
    have Hg := Lib.hid (M.no_ok hok)
    obtain ⟨k1, k2, k3⟩ := M.split_parts hok
    obtain ⟨j1, j2, j3, -⟩ := M.known_parts k1
    go_wp2_with fail
    refine (others_c b A B n c m d xs ys _ (h.below hb1) (h'.below hb1).rd (by omega) (by omega) (fun k hk => j3 k (by omega)) (fun k hk => by have := j3 k (by omega); have := k3 k (by omega); omega)).mono ?_
    rintro e w2 ⟨A2, c2, rfl, ho2, hb2⟩
    have b2 := bt hb1 hb2
    go_wp2_with fail
    refine (confirmed_c b _ A A2 n c n c2 xs _ _ (h.below b2) ho2 rfl (by omega) (by omega) (fun k hk => j3 k (by omega)) (fun k hk => by
      rw [M.nth_sub (by omega)]
      have := j3 k (by omega)
      have := k3 k (by omega)
      omega)).mono ?_
    rintro e w3 ⟨A3, c3, rfl, ho3, hb3⟩
    go_wp2
    go_ret
    exact ⟨_, _, _, rfl, by rw [Hg.out]; exact ho3.mono b2.size, bt b2 hb3⟩

theorem M.conf_take {xs ys : List Int} {k : Nat} (h : k < xs.length) : (M.conf xs ys).take (k + 1) = (M.conf xs ys).take k ++ [nth (M.conf xs ys) k] := M.take_succ _ k (by rw [M.length_conf]; exact h)
theorem M.sub_take {xs ys : List Int} {k : Nat} (h : k < xs.length) : (M.sub xs ys).take (k + 1) = (M.sub xs ys).take k ++ [nth xs k - nth ys k] := by
  rw [M.take_succ _ k (by rw [M.length_sub]; exact h), M.nth_sub h]

set_option maxHeartbeats 1000000 in
theorem sAfterYes_c (A B : Option Addr) (n c m d : Nat) (xs ys : List Int) (w : World) (h : RdI w A n xs) (h' : RdI w B m ys) (hn : n ≤ 1048577) :
    Calls Try.prog 22 #[.slice A n c, .slice B m d] w (RetI w (M.yesL xs ys)) := by
  obtain ⟨i0, hi, hz0, hz1, hz2⟩ := info_parts Try.infoInt
  have hlen := h.len
  have hlen' := h'.len
  have hb0 : Below w.heap.size w (w.alloc (.cells #[] 3)) := (Below.refl _ _).alloc (Nat.le_refl _) _
  have ho0 := ownI_lit0 w w.heap.size (Nat.le_refl _)
  go_enter Try.func22, Try.ntmps22
  go_wp2_with fail
  refine (sSplitOk_c A B n c m d xs ys _ (h.below hb0) (h'.below hb0) hn).mono ?_
  rintro e w1 ⟨rfl, hq1⟩
  have b1 := Below.quiet hb0 hq1
  have ho1 := ho0.quiet hq1
  cases hok : M.splitB xs ys with
  | false =>
    have Hg := Lib.hid (M.yes_no hok)
    go_wp2
    go_ret
    exact ⟨_, _, _, rfl, by rw [Hg.out]; exact ho1, b1⟩
  | true =>
    have Hg := Lib.hid (M.yes_ok hok)
    obtain ⟨k1, k2, k3⟩ := M.split_parts hok
    obtain ⟨j1, j2, j3, -⟩ := M.known_parts k1
    obtain rfl : m = n := by omega
    have hcl := M.length_conf xs ys
    clear hok k1
    have J3 := Lib.hid j3
    have K3 := Lib.hid k3
    clear j3 k3
    go_wp2_with fail
    go_loopg [5, 6] m (fun g v i wr => ∃ (k : Nat) (B' : Option Addr) (q d' : Nat), k + g = m ∧ i = .int .i64 k ∧ v = .slice B' q d' ∧ OwnI wr w.heap.size B' q d' ((M.conf xs ys).take k) ∧ Below w.heap.size w wr)
    case atStart => exact ⟨0, _, _, _, by omega, rfl, rfl, by simpa using ho1, b1⟩
    case round =>
      obtain ⟨k, B', q, d', hk, rfl, rfl, hor, hbr⟩ := hrel
      by_cases hlt : k < m
      · obtain ⟨g, rfl⟩ : ∃ g, gk = g + 1 := ⟨gk - 1, by omega⟩
        obtain ⟨ad, rfl, _, hcx⟩ := (h.below hbr).at_ hlt
        obtain ⟨ad', rfl, _, hcy⟩ := (h'.below hbr).at_ hlt
        have hq : q = k := by have := hor.1; rw [List.length_take, hcl] at this; omega
        subst hq
        have hx0 := J3.out q (by omega)
        have hy0 := K3.out q (by omega)
        have htk := M.conf_take (xs := xs) (ys := ys) (k := q) (by omega)
        by_cases hk1 : q + 1 < m
        · rw [M.nth_conf (by omega)] at htk
          have Htk := Lib.hid htk
          clear htk
          obtain ⟨q1, hq1⟩ : ∃ q1, q1 = q + 1 := ⟨_, rfl⟩
          rw [← hq1] at Htk hk1
          have hx1 := J3.out q1 (by omega)
          have hy1 := K3.out q1 (by omega)
          obtain ⟨ad2, e2, _, hcx1⟩ := (h.below hbr).at_ hk1
          obtain rfl := Option.some.inj e2
          clear e2
          obtain ⟨ad2, e2, _, hcy1⟩ := (h'.below hbr).at_ hk1
          obtain rfl := Option.some.inj e2
          clear e2
          have t0 : decide ((q : Int) + 1 < m) = true := by simp; omega
          have t1 : IntKind.i64.wrap ((q : Int) + 1) = (q1 : Int) := by rw [IntKind.wrap_i64]; omega
          have t2 : IntKind.i64.wrap (nth ys q + nth xs q1) = nth ys q + nth xs q1 := by rw [IntKind.wrap_i64]; omega
          have t3 : IntKind.i64.wrap (nth ys q + nth xs q1 - nth ys q1) = nth ys q + nth xs q1 - nth ys q1 := by rw [IntKind.wrap_i64]; omega
          have Hq1 := Lib.hid hq1
          clear hq1
          go_wp2_with fail
          go_quiet (fail)
          have hoq : OwnI (wr.drewN nq) w.heap.size B' q d' ((M.conf xs ys).take q) := hor.quiet ⟨_, rfl⟩
          have hbq : Below w.heap.size w (wr.drewN nq) := Below.quiet hbr ⟨_, rfl⟩
          clear t0 t1 t2 t3
          generalize wr.drewN nq = W at *
          go_wp2_with (at_builtin; refine wpList_append_own _ rfl _ _ 23 rfl w.heap.size 3 i0 (.int .i64 0) 1 8 Try.underlying23 hi hz0 hz1 hz2 rfl (by decide) _ _ _ rfl (hoq.2.alloc _) ⟨_, 0, none⟩ 1 1 [.int .i64 _] rfl rfl (cell_one_new _ _ _) (by simp [Value.oneCell']) (by unfold maxLen; omega) (by omega) (by have := hbq.size; simp; omega) ?_; intro v' w4 hown4 hgrow4 _)
          obtain ⟨g', cap', rfl, ho4, hg4, hg4'⟩ := OwnI.appended hoq.1 hown4
          have hB4 : Below w.heap.size w w4 := (hbq.alloc hbq.size _).grown hgrow4 (by have := hbq.size; simp; omega) (fun j hj => by
            cases B' with
            | none => cases hj
            | some ad => cases hj; exact hoq.lt.1)
          rw [show nth ys q + nth xs q1 - nth ys q1 = nth ys q + (nth xs q1 - nth ys q1) by omega, ← Htk.out] at ho4
          go_roundg g
          case measure => omega
          case rel => exact ⟨q + 1, _, _, _, by omega, by go_num, rfl, by rw [Hq1.out] at ho4; exact ho4, hB4⟩
        · rw [M.nth_conf_last (by omega)] at htk
          have Htk := Lib.hid htk
          clear htk
          have t0 : decide ((q : Int) + 1 < m) = false := by simp; omega
          go_wp2_with (at_builtin; refine wpList_append_own _ rfl _ _ 23 rfl w.heap.size 3 i0 (.int .i64 0) 1 8 Try.underlying23 hi hz0 hz1 hz2 rfl (by decide) _ _ _ rfl (hor.2.alloc _) ⟨_, 0, none⟩ 1 1 [.int .i64 _] rfl rfl (cell_one_new _ _ _) (by simp [Value.oneCell']) (by unfold maxLen; omega) (by omega) (by have := hbr.size; simp; omega) ?_; intro v' w4 hown4 hgrow4 _)
          obtain ⟨g', cap', rfl, ho4, hg4, hg4'⟩ := OwnI.appended hor.1 hown4
          have hB4 : Below w.heap.size w w4 := (hbr.alloc hbr.size _).grown hgrow4 (by have := hbr.size; simp; omega) (fun j hj => by
            cases B' with
            | none => cases hj
            | some ad => cases hj; exact hor.lt.1)
          rw [← Htk.out] at ho4
          go_roundg g
          case measure => omega
          case rel => exact ⟨q + 1, _, _, _, by omega, by go_num, rfl, ho4, hB4⟩
      · obtain rfl : k = m := by omega
        rw [List.take_of_length_le (by omega)] at hor
        go_wp2
        go_ret
        exact ⟨_, _, _, rfl, by rw [Hg.out]; exact hor, hbr⟩

set_option maxHeartbeats 1000000 in
theorem sAfterNo_c (A B : Option Addr) (n c m d : Nat) (xs ys : List Int) (w : World) (h : RdI w A n xs) (h' : RdI w B m ys) (hn : n ≤ 1048577) :
    Calls Try.prog 18 #[.slice A n c, .slice B m d] w (RetI w (M.noL xs ys)) := by
  obtain ⟨i0, hi, hz0, hz1, hz2⟩ := info_parts Try.infoInt
  have hlen := h.len
  have hlen' := h'.len
  have hb0 : Below w.heap.size w (w.alloc (.cells #[] 3)) := (Below.refl _ _).alloc (Nat.le_refl _) _
  have ho0 := ownI_lit0 w w.heap.size (Nat.le_refl _)
  cases hok : M.splitB xs ys with
  | false =>
    have Hg := Lib.hid (M.no_no hok)
    have hsy : M.yesL xs [] = [] := by
      cases e : M.splitB xs [] with
      | false => exact M.yes_no e
      | true =>
        obtain ⟨k1, k2, -⟩ := M.split_parts e
        have := (M.known_parts k1).1
        simp at k2
        omega
    go_enter Try.func18, Try.ntmps18
    go_wp2_with fail
    go_loopg [5, 6] 0 (fun g v i wr => i = .int .i64 0 ∧ v = .slice (some ⟨w.heap.size, 0, none⟩) 0 0 ∧ Quiet (w.alloc (.cells #[] 3)) wr)
    case atStart => exact ⟨rfl, rfl, Quiet.refl _⟩
    case round =>
      obtain ⟨rfl, rfl, hq⟩ := hrel
      have b1 := Below.quiet hb0 hq
      have ho1 := ho0.quiet hq
      by_cases hn0 : 0 < n
      · go_wp2_with fail
        refine (sSplitOk_c A B n c m d xs ys _ (h.below b1) (h'.below b1) hn).mono ?_
        rintro e w2 ⟨rfl, hq2⟩
        have b2 := Below.quiet b1 hq2
        rw [hok]
        go_wp2_with fail
        refine (sAfterYes_c A (some ⟨w.heap.size, 0, none⟩) n c 0 0 xs [] _ (h.below b2) (ho1.quiet hq2).rd hn).mono ?_
        rintro e w3 ⟨A3, n3, c3, rfl, ho3, hb3⟩
        go_wp2
        go_ret
        exact ⟨_, _, _, rfl, by rw [Hg.out, ← hsy]; exact ho3.mono b2.size, bt b2 hb3⟩
      · go_wp2_with fail
        refine (sAfterYes_c A (some ⟨w.heap.size, 0, none⟩) n c 0 0 xs [] _ (h.below b1) ho1.rd hn).mono ?_
        rintro e w3 ⟨A3, n3, c3, rfl, ho3, hb3⟩
        go_wp2
        go_ret
        exact ⟨_, _, _, rfl, by rw [Hg.out, ← hsy]; exact ho3.mono b1.size, bt b1 hb3⟩
  | true =>
    have Hg := Lib.hid (M.no_ok hok)
    have Hs := Lib.hid (M.yes_ok (M.split_sub hok))
    obtain ⟨k1, k2, k3⟩ := M.split_parts hok
    obtain ⟨j1, j2, j3, -⟩ := M.known_parts k1
    obtain rfl : m = n := by omega
    have hsl := M.length_sub xs ys
    have Hok := Lib.hid hok
    clear hok k1
    have J3 := Lib.hid j3
    have K3 := Lib.hid k3
    clear j3 k3
    go_enter Try.func18, Try.ntmps18
    go_wp2_with fail
    go_loopg [5, 6] m (fun g v i wr => ∃ (k : Nat) (B' : Option Addr) (q d' : Nat), k + g = m ∧ i = .int .i64 k ∧ v = .slice B' q d' ∧ OwnI wr w.heap.size B' q d' ((M.sub xs ys).take k) ∧ Below w.heap.size w wr)
    case atStart => exact ⟨0, _, _, _, by omega, rfl, rfl, by simpa using ho0, hb0⟩
    case round =>
      obtain ⟨k, B', q, d', hk, rfl, rfl, hor, hbr⟩ := hrel
      have hq : q = k := by have := hor.1; rw [List.length_take, hsl] at this; omega
      subst hq
      by_cases hlt : q < m
      · obtain ⟨g, rfl⟩ : ∃ g, gk = g + 1 := ⟨gk - 1, by omega⟩
        go_wp2_with fail
        refine (sSplitOk_c A B m c m d xs ys _ (h.below hbr) (h'.below hbr) hn).mono ?_
        rintro e w2 ⟨rfl, hq2⟩
        have b2 := Below.quiet hbr hq2
        have ho2 := hor.quiet hq2
        have hso2 := ho2.2
        rw [Hok.out]
        obtain ⟨ad, rfl, _, hcx⟩ := (h.below b2).at_ hlt
        obtain ⟨ad', rfl, _, hcy⟩ := (h'.below b2).at_ hlt
        have hx0 := J3.out q (by omega)
        have hy0 := K3.out q (by omega)
        have Htk := Lib.hid (M.sub_take (xs := xs) (ys := ys) (k := q) (by omega))
        have t2 : IntKind.i64.wrap (nth xs q - nth ys q) = nth xs q - nth ys q := by rw [IntKind.wrap_i64]; omega
        have hdr : World.ownsRow w2.drew w.heap.size 3 1 (.slice B' q d') q (((M.sub xs ys).take q).map (Value.int .i64)) := hso2
        have hz := b2.size
        go_wp2_with fail
        go_region_law (refine step_own rfl (wp_append_own _ _ _ 23 rfl w.heap.size 3 i0 (.int .i64 0) 1 8 Try.underlying23 hi hz0 hz1 hz2 rfl (by decide) _ _ _ rfl (hdr.alloc _) ⟨_, 0, none⟩ 1 1 [.int .i64 _] rfl rfl (cell_one_new _ _ _) (by simp [Value.oneCell']) (by unfold maxLen; omega) (by omega) (by simp; omega) ?_); intro v' w4 hown4 hgrow4 _)
        all_goals
          have bdr : Below w.heap.size w w2.drew := Below.quiet b2 ⟨1, rfl⟩
          obtain ⟨g', cap', rfl, ho4, hg4, hg4'⟩ := OwnI.appended ho2.1 hown4
          have hB4 : Below w.heap.size w w4 := (bdr.alloc bdr.size _).grown hgrow4 (by have := bdr.size; simp; omega) (fun j hj => by
            cases B' with
            | none => cases hj
            | some ad => cases hj; exact ho2.lt.1)
          rw [← Htk.out] at ho4
          go_wp2
          go_roundg g
          case measure => omega
          case rel => exact ⟨q + 1, _, _, _, by omega, by go_num, rfl, ho4, hB4⟩
      · obtain rfl : q = m := by omega
        rw [List.take_of_length_le (by omega)] at hor
        go_wp2_with fail
        refine (sAfterYes_c A B' q c q d' xs _ _ (h.below hbr) hor.rd hn).mono ?_
        rintro e w3 ⟨A3, n3, c3, rfl, ho3, hb3⟩
        go_wp2
        go_ret
        exact ⟨_, _, _, rfl, by rw [Hg.out, ← Hs.out]; exact ho3.mono hbr.size, bt hbr hb3⟩

end Go.Proofs.Ytdpbjepjiloeaaa
