/- SayingsOk of the program and of the reference; the walk of the exact law. No condition. -/
import Derived.Test.YtbhpponandmgnaaSayS
namespace Go.Proofs.Ytbhpponandmgnaa
open Go Go.RowKit
open M (nth)

set_option maxHeartbeats 1000000 in
theorem szSayingS_c (A : Option Addr) (n c : Nat) (ss : List (Int × ByteArray)) (w : World) (h : RdS w A n ss) :
    Calls Try.prog 15 #[.slice A n c, .int .i64 1048576] w fun e w' => (∃ r : Int, e = .returned (.int .i64 r) ∧ (0 ≤ r → n ≤ 1048576)) ∧ Below w.heap.size w w' := by
  have hbig := h.big
  have t1 : IntKind.i64.wrap (1048576 - (n : Int)) = 1048576 - (n : Int) := by rw [IntKind.wrap_i64]; omega
  by_cases hn : n ≤ 1048576
  · have d1 : decide (1048576 - (n : Int) < 0) = false := by simp; omega
    go_enter Try.func15, Try.ntmps15
    go_wp2_with fail
    go_loopg [1, 5] n (fun gk l i wr => ∃ (k : Nat) (y : Int), k + gk = n ∧ i = .int .i64 k ∧ l = .int .i64 y ∧ 0 ≤ y ∧ y ≤ 1048576 ∧ Below w.heap.size w wr)
    case atStart => exact ⟨0, _, by omega, rfl, rfl, by omega, by omega, Below.refl _ _⟩
    case round =>
      obtain ⟨k, y, hkg, rfl, rfl, hy0, hy1, hbr⟩ := hrel
      by_cases hlt : k < n
      · obtain ⟨g, rfl⟩ : ∃ g, gk = g + 1 := ⟨gk - 1, by omega⟩
        obtain ⟨ad, rfl, hadb, hc0, hc1⟩ := (h.below hbr).at_ hlt
        have hsm := h.small k hlt
        go_wp2_with fail
        refine (szSaying_c _ _ y _ hy0 hy1 hsm).mono ?_
        rintro e w2 ⟨⟨r, rfl, hr0, hr1⟩, hb2⟩
        have hb3 := bt hbr hb2
        by_cases hr : r < 0
        · go_wp2
          go_ret
          exact ⟨⟨-1, rfl, fun _ => hn⟩, hb3⟩
        · go_wp2
          go_roundg g
          case measure => omega
          case rel => exact ⟨k + 1, r, by omega, by go_num, rfl, by omega, by omega, hb3⟩
      · obtain rfl : k = n := by omega
        obtain rfl : gk = 0 := by omega
        go_wp2
        go_ret
        exact ⟨⟨y, rfl, fun _ => hn⟩, hbr⟩
  · have d1 : decide (1048576 - (n : Int) < 0) = true := by simp; omega
    go_enter Try.func15, Try.ntmps15
    go_wp2
    go_ret
    exact ⟨⟨-1, rfl, fun h => by omega⟩, Below.refl _ _⟩

set_option maxHeartbeats 2000000 in
theorem eqSayingS_c (A B : Option Addr) (n c d : Nat) (ss : List (Int × ByteArray)) (w : World) (h : RdS w A n ss) (h' : RdS w B n ss) :
    Calls Try.prog 19 #[.slice A n c, .slice B n d] w fun e w' => e = .returned (.bool true) ∧ Below w.heap.size w w' := by
  have hbig := h.big
  have hnn : ((n : Int) != (n : Int)) = false := by simp
  go_enter Try.func19, Try.ntmps19
  go_wp2_with fail
  go_loopg [5] n (fun gk i wr => ∃ k : Nat, k + gk = n ∧ i = .int .i64 k ∧ Below w.heap.size w wr)
  case atStart => exact ⟨0, by omega, rfl, Below.refl _ _⟩
  case round =>
    obtain ⟨k, hkg, rfl, hbr⟩ := hrel
    by_cases hlt : k < n
    · obtain ⟨g, rfl⟩ : ∃ g, gk = g + 1 := ⟨gk - 1, by omega⟩
      obtain ⟨ad, rfl, hadb, hc0, hc1⟩ := (h.below hbr).at_ hlt
      obtain ⟨bd, rfl, hbdb, hd0, hd1⟩ := (h'.below hbr).at_ hlt
      have bD : Below w.heap.size w wr.drew := Below.quiet hbr ⟨1, rfl⟩
      have HE := Lib.hid (show ∀ W, Below w.heap.size w W → Calls Try.prog 33 #[.agg #[.int .i64 (nthS ss k).1, .string (nthS ss k).2], .agg #[.int .i64 (nthS ss k).1, .string (nthS ss k).2]] W fun e w' => e = .returned (.bool true) ∧ Below w.heap.size w w' from fun W hb =>
        (eqSaying_c _ _ W).mono fun _ _ h => ⟨h.1, bt hb h.2⟩)
      go_wp2_with fail
      go_region_with (go_at_call 33; with_reducible refine (HE.out _ bD).mono ?_; rintro e w2 ⟨rfl, hb2⟩)
      all_goals
        go_wp2
        go_roundg g
        case measure => omega
        case rel => exact ⟨k + 1, by omega, by go_num, by assumption⟩
    · obtain rfl : k = n := by omega
      obtain rfl : gk = 0 := by omega
      go_wp2
      go_ret
      exact ⟨rfl, hbr⟩

namespace M
/-- Is it a saying of one of the people, a saying at all? -/
def oneB (p : Int) (x : Int × ByteArray) : Bool := inB x.1 0 (IntKind.i64.wrap (p - 1)) && textB p x.2.data.toList
def allS (p : Int) (ss : List (Int × ByteArray)) : Bool := ss.all (oneB p)
def sayB (p : Int) (ss : List (Int × ByteArray)) : Bool := inB p 1 5 && (decide (ss.length ≤ 6) && allS p ss)
theorem nthS_lt {ss : List (Int × ByteArray)} {k : Nat} (h : k < ss.length) : nthS ss k = ss[k] := by simp [nthS, List.getElem?_eq_getElem h]
theorem allS_no {p : Int} {ss : List (Int × ByteArray)} {k : Nat} (hk : k < ss.length) (h : oneB p (nthS ss k) = false) : allS p ss = false := by
  rw [nthS_lt hk] at h
  unfold allS
  rw [List.all_eq_false]
  exact ⟨ss[k], List.getElem_mem hk, by simp [h]⟩
theorem allS_yes {p : Int} {ss : List (Int × ByteArray)} (h : ∀ k, k < ss.length → oneB p (nthS ss k) = true) : allS p ss = true := by
  unfold allS
  rw [List.all_eq_true]
  intro x hx
  obtain ⟨k, hk, rfl⟩ := List.getElem_of_mem hx
  rw [← nthS_lt hk]
  exact h k hk
theorem say_no1 {p : Int} {ss : List (Int × ByteArray)} (h : allS p ss = false) : sayB p ss = false := by simp [sayB, h]
theorem say_no2 {p : Int} {ss : List (Int × ByteArray)} (h : inB p 1 5 = false) : sayB p ss = false := by simp [sayB, h]
theorem say_no3 {p : Int} {ss : List (Int × ByteArray)} (h : ¬ ss.length ≤ 6) : sayB p ss = false := by simp [sayB, h]
theorem say_ok {p : Int} {ss : List (Int × ByteArray)} (h : inB p 1 5 = true) (h2 : ss.length ≤ 6) : sayB p ss = allS p ss := by simp [sayB, h, h2]
theorem say_all {p : Int} {ss : List (Int × ByteArray)} (h : allS p ss = true) (h1 : inB p 1 5 = true) : sayB p ss = decide (ss.length ≤ 6) := by simp [sayB, h, h1]
theorem one_no {p m : Int} {x : Int × ByteArray} (hm : IntKind.i64.wrap (p - 1) = m) (h : inB x.1 0 m = false) : oneB p x = false := by simp [oneB, hm, h]
theorem one_ok {p m : Int} {x : Int × ByteArray} (hm : IntKind.i64.wrap (p - 1) = m) (h : inB x.1 0 m = true) : oneB p x = textB p x.2.data.toList := by simp [oneB, hm, h]
theorem w64s (x : Int) : wrap64 x = IntKind.i64.wrap x := by rw [IntKind.wrap_i64, wrap64]
end M

set_option maxHeartbeats 1000000 in
theorem sSayingsOk_c (p : Int) (A : Option Addr) (n c : Nat) (ss : List (Int × ByteArray)) (w : World) (h : RdS w A n ss) :
    Calls Try.prog 16 #[.int .i64 p, .slice A n c] w fun e w' => e = .returned (.bool (M.sayB p ss)) ∧ w = w' := by
  have hbig := h.big
  have hlen := h.len
  obtain ⟨m1, t1⟩ : ∃ m1, IntKind.i64.wrap (p - 1) = m1 := ⟨_, rfl⟩
  have t1' : wrap64 (p - 1) = m1 := by rw [M.w64s]; exact t1
  have T1 := Lib.hid t1
  go_enter Try.func16, Try.ntmps16
  go_wp2_with fail
  go_loopg [5] n (fun gk i wr => ∃ k : Nat, k + gk = n ∧ i = .int .i64 k ∧ wr = w ∧ Hid (∀ j, j < k → M.oneB p (nthS ss j) = true))
  case atStart => exact ⟨0, by omega, rfl, rfl, Lib.hid (fun j hj => absurd hj (Nat.not_lt_zero _))⟩
  case round =>
    obtain ⟨k, hkg, rfl, rfl, Hall⟩ := hrel
    by_cases hlt : k < n
    · obtain ⟨g, rfl⟩ : ∃ g, gk = g + 1 := ⟨gk - 1, by omega⟩
      obtain ⟨ad, rfl, hadb, hc0, hc1⟩ := h.at_ hlt
      have Hno := Lib.hid (M.allS_no (p := p) (ss := ss) (k := k) (by omega))
      go_wp2_with fail
      refine (l1In_c _ _ _ _).mono ?_
      rintro e w1 ⟨rfl, rfl⟩
      cases hi : M.inB (nthS ss k).1 0 m1 with
      | false =>
        have Hf := Lib.hid (M.say_no1 (Hno.out (M.one_no T1.out hi)))
        go_wp2
        go_ret
        exact ⟨rb Hf.out.symm, rfl⟩
      | true =>
        have Ho := Lib.hid (M.one_ok T1.out hi)
        go_wp2_with fail
        refine (sTextOk_c _ _ _).mono ?_
        rintro e w1 ⟨rfl, rfl⟩
        cases ht : M.textB p (nthS ss k).2.data.toList with
        | false =>
          have Hf := Lib.hid (M.say_no1 (Hno.out (Ho.out.trans ht)))
          go_wp2
          go_ret
          exact ⟨rb Hf.out.symm, rfl⟩
        | true =>
          have Hk := Lib.hid (Ho.out.trans ht)
          go_wp2
          go_roundg g
          case measure => omega
          case rel => exact ⟨k + 1, by omega, by go_num, by first | rfl | trivial, Lib.hid (fun j hj => by
            by_cases e : j = k
            · subst e; exact Hk.out
            · exact Hall.out j (by omega))⟩
    · obtain rfl : k = n := by omega
      obtain rfl : gk = 0 := by omega
      have hall := M.allS_yes (p := p) (ss := ss) (fun j hj => Hall.out j (by omega))
      go_wp2_with fail
      refine (l1In_c _ _ _ _).mono ?_
      rintro e w1 ⟨rfl, rfl⟩
      cases hi : M.inB p 1 5 with
      | false =>
        have Hf := Lib.hid (M.say_no2 (ss := ss) hi)
        go_wp2
        go_ret
        exact ⟨rb Hf.out.symm, rfl⟩
      | true =>
        have Hf := Lib.hid (M.say_all hall hi)
        rw [hlen] at Hf
        have e6 : decide ((k : Int) ≤ 6) = decide (k ≤ 6) := by simp; omega
        go_wp2
        go_ret
        exact ⟨by rw [Hf.out]; rfl, rfl⟩

set_option maxHeartbeats 1000000 in
theorem wrong_c (p b : Int) (t : ByteArray) (B2 : Nat) (w : World) (hc : w.cell? ⟨B2, 0, none⟩ = some (.int .i64 p)) :
    Calls Try.prog 30 #[.agg #[.int .i64 b, .string t], .pointer (some ⟨B2, 0, none⟩)] w fun e w' => e = .returned (.bool (!M.oneB p (b, t))) ∧ Below w.heap.size w w' := by
  have hb : Below w.heap.size w (w.alloc (.cells #[.int .i64 b, .string t] 52)) := (Below.refl _ _).alloc (Nat.le_refl _) _
  have hc1 : (w.alloc (.cells #[.int .i64 b, .string t] 52)).cell? ⟨B2, 0, none⟩ = some (.int .i64 p) := (hb.cell (p := ⟨B2, 0, none⟩) (World.block_lt_of_cell? _ _ hc)).trans hc
  obtain ⟨m1, t1⟩ : ∃ m1, IntKind.i64.wrap (p - 1) = m1 := ⟨_, rfl⟩
  have t1' : wrap64 (p - 1) = m1 := by rw [M.w64s]; exact t1
  have T1 := Lib.hid t1
  go_enter Try.func30, Try.ntmps30
  go_wp2_with fail
  refine (in_c _ _ _ _).mono ?_
  rintro e w1 ⟨rfl, rfl⟩
  cases hi : M.inB b 0 m1 with
  | false =>
    have Hf := Lib.hid (M.one_no (x := (b, t)) T1.out hi)
    go_wp2
    go_ret
    exact ⟨by rw [Hf.out]; rfl, hb⟩
  | true =>
    have Hf := Lib.hid (M.one_ok (x := (b, t)) T1.out hi)
    dsimp only at Hf
    go_wp2_with fail
    refine (iTextOk_c _ _ _).mono ?_
    rintro e w2 ⟨rfl, hb2⟩
    have hb3 := bt hb hb2
    rw [← Hf.out]
    go_wp2
    go_ret
    exact ⟨rfl, hb3⟩

set_option maxHeartbeats 1000000 in
theorem indexS_c (p : Int) (A : Option Addr) (n c : Nat) (ss : List (Int × ByteArray)) (B2 : Nat) (w : World) (h : RdS w A n ss) (hc : w.cell? ⟨B2, 0, none⟩ = some (.int .i64 p)) :
    Calls Try.prog 37 #[.slice A n c, .func (.func 30) #[] #[.pointer (some ⟨B2, 0, none⟩)]] w
      fun e w' => (∃ i : Int, e = .returned (.int .i64 i) ∧ (!decide (0 ≤ i)) = M.allS p ss) ∧ Below w.heap.size w w' := by
  have hbig := h.big
  have hlen := h.len
  have hlt2 := World.block_lt_of_cell? _ _ hc
  go_enter Try.func37, Try.ntmps37
  go_wp2_with fail
  go_loopg [8] n (fun gk i wr => ∃ k : Nat, k + gk = n ∧ i = .int .i64 k ∧ Below w.heap.size w wr ∧ Hid (∀ j, j < k → M.oneB p (nthS ss j) = true))
  case atStart => exact ⟨0, by omega, rfl, Below.refl _ _, Lib.hid (fun j hj => absurd hj (Nat.not_lt_zero _))⟩
  case round =>
    obtain ⟨k, hkg, rfl, hbr, Hall⟩ := hrel
    by_cases hlt : k < n
    · obtain ⟨g, rfl⟩ : ∃ g, gk = g + 1 := ⟨gk - 1, by omega⟩
      obtain ⟨ad, rfl, hadb, hc0, hc1⟩ := (h.below hbr).at_ hlt
      have hcr := (hbr.cell (p := ⟨B2, 0, none⟩) hlt2).trans hc
      have Hno := Lib.hid (M.allS_no (p := p) (ss := ss) (k := k) (by omega))
      go_wp2_with fail
      refine (wrong_c p _ _ B2 _ hcr).mono ?_
      rintro e w2 ⟨rfl, hb2⟩
      have hb3 := bt hbr hb2
      cases ho : M.oneB p (nthS ss k) with
      | false =>
        have Hf := Lib.hid (Hno.out ho)
        go_wp2
        go_ret
        exact ⟨⟨_, rfl, by rw [Hf.out]; simp⟩, hb3⟩
      | true =>
        have Hk := Lib.hid ho
        go_wp2
        go_roundg g
        case measure => omega
        case rel => exact ⟨k + 1, by omega, by go_num, hb3, Lib.hid (fun j hj => by
          by_cases e : j = k
          · subst e; exact Hk.out
          · exact Hall.out j (by omega))⟩
    · obtain rfl : k = n := by omega
      obtain rfl : gk = 0 := by omega
      have Hy := Lib.hid (M.allS_yes (p := p) (ss := ss) (fun j hj => Hall.out j (by omega)))
      go_wp2
      go_ret
      exact ⟨⟨-1, rfl, by rw [Hy.out]; rfl⟩, hbr⟩

set_option maxHeartbeats 1000000 in
theorem containsS_c (p : Int) (A : Option Addr) (n c : Nat) (ss : List (Int × ByteArray)) (B2 : Nat) (w : World) (h : RdS w A n ss) (hc : w.cell? ⟨B2, 0, none⟩ = some (.int .i64 p)) :
    Calls Try.prog 32 #[.slice A n c, .func (.func 30) #[] #[.pointer (some ⟨B2, 0, none⟩)]] w
      fun e w' => e = .returned (.bool (!M.allS p ss)) ∧ Below w.heap.size w w' := by
  go_enter Try.func32, Try.ntmps32
  go_wp2_with fail
  refine (indexS_c p A n c ss B2 _ h hc).mono ?_
  rintro e w1 ⟨⟨i, rfl, Hi0⟩, hb⟩
  have Hi := Lib.hid Hi0
  clear Hi0
  go_wp2
  go_ret
  exact ⟨rb (by rw [← Hi.out]; simp), hb⟩

set_option maxHeartbeats 1000000 in
theorem iSayingsOk_c (p : Int) (A : Option Addr) (n c : Nat) (ss : List (Int × ByteArray)) (w : World) (h : RdS w A n ss) :
    Calls Try.prog 18 #[.int .i64 p, .slice A n c] w fun e w' => e = .returned (.bool (M.sayB p ss)) ∧ Below w.heap.size w w' := by
  have hlen := h.len
  have hb : Below w.heap.size w (w.alloc (.cells #[.int .i64 p] 3)) := (Below.refl _ _).alloc (Nat.le_refl _) _
  have hc1 : (w.alloc (.cells #[.int .i64 p] 3)).cell? ⟨w.heap.size, 0, none⟩ = some (.int .i64 p) := by rw [World.cell?_alloc_at _ _ _ _ rfl]; rfl
  have hmf : ∀ (fn : Fn) (first cap : Array Value) (w : World), (Instr.makeFunc fn first cap).run Try.prog w = .ok (.func fn first cap) w := fun _ _ _ _ => rfl
  cases hi : M.inB p 1 5 with
  | false =>
    have Hf := Lib.hid (M.say_no2 (ss := ss) hi)
    go_enter Try.func18, Try.ntmps18
    go_wp2_with fail
    refine (in_c _ _ _ _).mono ?_
    rintro e w1 ⟨rfl, rfl⟩
    rw [hi]
    go_wp2
    go_ret
    exact ⟨rb Hf.out.symm, hb⟩
  | true =>
    by_cases hn : n ≤ 6
    · have Hf := Lib.hid (M.say_ok (ss := ss) hi (by omega))
      have d6 : decide ((n : Int) ≤ 6) = true := by simp; omega
      go_enter Try.func18, Try.ntmps18
      go_wp2_with fail
      refine (in_c _ _ _ _).mono ?_
      rintro e w1 ⟨rfl, rfl⟩
      rw [hi]
      go_wp2_with fail
      refine (containsS_c p A n c ss _ _ (h.below hb) hc1).mono ?_
      rintro e w2 ⟨rfl, hb2⟩
      have hb3 := bt hb hb2
      go_wp2
      go_ret
      exact ⟨by rw [Hf.out]; simp, hb3⟩
    · have Hf := Lib.hid (M.say_no3 (p := p) (ss := ss) (by omega))
      have d6 : decide ((n : Int) ≤ 6) = false := by simp; omega
      go_enter Try.func18, Try.ntmps18
      go_wp2_with fail
      refine (in_c _ _ _ _).mono ?_
      rintro e w1 ⟨rfl, rfl⟩
      rw [hi]
      go_wp2
      go_ret
      exact ⟨rb Hf.out.symm, hb⟩

set_option maxHeartbeats 1000000 in
theorem FnExactSayingsOk_w (w : World) (p : Int) (A : Option Addr) (n c : Nat) (ss : List (Int × ByteArray)) (h : RdS w A n ss) :
    Calls Try.prog 7 #[.int .i64 p, .slice A n c] w fun e w' => e = .returned (.bool true) ∧ Below w.heap.size w w' := by
  go_enter Try.func7, Try.ntmps7
  go_wp2_with fail
  refine (szSayingS_c A n c ss _ h).mono ?_
  rintro e w1 ⟨⟨r, rfl, hr⟩, hb1⟩
  by_cases hr0 : r < 0
  · go_wp2
    go_ret
    exact ⟨rfl, hb1⟩
  · have hn := hr (by omega)
    clear hr
    go_wp2_with fail
    refine (toSayingS_c A n c ss _ (h.below hb1) hn).mono ?_
    rintro e w2 ⟨rfl, hr2, hb2⟩
    have b2 := bt hb1 hb2
    go_wp2_with fail
    refine (sSayingsOk_c p _ n n ss _ hr2).mono ?_
    rintro e w' ⟨rfl, rfl⟩
    go_wp2_with fail
    refine (toSayingS_c A n c ss _ (h.below b2) hn).mono ?_
    rintro e w3 ⟨rfl, hr3, hb3⟩
    have b3 := bt b2 hb3
    go_wp2_with fail
    refine (iSayingsOk_c p _ n n ss _ hr3).mono ?_
    rintro e w4 ⟨rfl, hb4⟩
    have b4 := bt b3 hb4
    go_wp2_with fail
    refine (toSayingS_c A n c ss _ (h.below b4) hn).mono ?_
    rintro e w5 ⟨rfl, hr5, hb5⟩
    have b5 := bt b4 hb5
    go_wp2_with fail
    refine (eqSayingS_c _ _ n n n ss _ ((hr3.below hb4).below hb5) hr5).mono ?_
    rintro e w6 ⟨rfl, hb6⟩
    go_wp2
    go_ret
    exact ⟨rfl, bt b5 hb6⟩

end Go.Proofs.Ytbhpponandmgnaa
