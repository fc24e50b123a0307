/- Contracts of teams. -/
import Derived.Test.YtebjhdipdffkgaaDoorLDraw
import Derived.Test.YtebjhdipdffkgaaDoorLM2
import Derived.Maps.OwnOps
import Derived.Maps.Views
namespace Go.Proofs.YtebjhdipdffkgaaDoor
open Go Go.RowKit
open M (nth)

theorem zeroBool (w : World) : (zeroValue 4).run Tryd.prog w = .ok (.bool false) w := by kernel_rfl

/-- Block b is a map that says of each word whether it is lost. -/
def TeamAt (w : World) (b : Nat) (xs : List Int) : Prop :=
  ∃ (n : Nat) (D : DataW Unit), w.ownsMap Tryd.prog 3 (plainElem Tryd.prog 4) b n D ∧ Maps.IsMap D ∧ ∀ x : Int, (Lit.int .i64 x).wf = true → D.atKey (.int .i64 x) (.lit (.bool false)) = .lit (.bool (M.hasB xs x))

theorem wfN (x : Nat) (h : x < 1000) : (Lit.int .i64 (x : Int)).wf = true := by
  have m0 : IntKind.i64.min = -9223372036854775808 := rfl
  have m1 : IntKind.i64.max = 9223372036854775807 := rfl
  simp only [Lit.wf, m0, m1, Bool.and_eq_true, decide_eq_true_eq]
  omega
/-- What a look-up gives. -/
theorem TeamAt.look {w : World} {b : Nat} {xs : List Int} (h : TeamAt w b xs) (x : Nat) (hx : x < 1000) :
    (Instr.lookup 50 (.map (some b)) (.int .i64 (x : Int)) false).run Tryd.prog w = .ok (.bool (M.hasB xs (x : Int))) w := by
  obtain ⟨n, D, hown, _, hat⟩ := h
  obtain ⟨v, ps, hrun, hv⟩ := hown.lookup (Maps.int_keyed Tryd.underlying3) Tryd.underlying50 (zeroBool w) (plainElem_bool Tryd.underlying4 false) (Maps.keyOf_int_mk Tryd.underlying3 (wfN x hx))
  rw [hat (x : Int) (wfN x hx)] at hv
  have : v = .bool (M.hasB xs (x : Int)) := by
    unfold plainElem at hv
    rw [Tryd.underlying4] at hv
    cases v <;> simp at hv
    rw [hv.1]
  rw [hrun, this]
theorem TeamAt.kept {w w' : World} {b : Nat} {xs : List Int} {row : Option Nat} (h : TeamAt w b xs) (hg : w.grownBy w' row) (hne : some b ≠ row) : TeamAt w' b xs := by
  obtain ⟨n, D, hown, r⟩ := h
  exact ⟨n, D, hown.kept hg hne, r⟩
theorem TeamAt.below {w w' : World} {b : Nat} {xs : List Int} (h : TeamAt w b xs) (hb : Below w.heap.size w w') : TeamAt w' b xs := h.kept (grown_of_below hb) (by simp)

theorem TeamAt.drewN {w : World} {b : Nat} {xs : List Int} (h : TeamAt w b xs) (a : Nat) : TeamAt (w.drewN a) b xs := h.below ((Quiet.drewN (Quiet.refl _) a).below _)

theorem new_two (w : World) (u v : Value) (t : TypeId) : (w.alloc (.cells #[u, v] t)).cell? ⟨w.heap.size, 0, none⟩ = some u ∧ (w.alloc (.cells #[u, v] t)).cell? ⟨w.heap.size, 1, none⟩ = some v ∧ w.heap.size < (w.alloc (.cells #[u, v] t)).heap.size :=
  ⟨by rw [World.cell?_alloc_at _ _ _ _ rfl]; rfl, by rw [World.cell?_alloc_at _ _ _ _ rfl]; rfl, by simp⟩

set_option maxHeartbeats 1000000 in
theorem guess_c (b : Nat) (p : Int) (xs : List Int) (x k : Nat) (w : World) (h : TeamAt w b xs) (hx : x < 128) (hk : k < 7) :
    Calls Tryd.prog 53 #[.agg #[.int .i64 p, .map (some b)], .int .i64 x, .int .i64 k] w fun e w' => e = .returned (.int .i64 (M.guessN xs x k)) ∧ Below w.heap.size w w' := by
  have hw2 : wrap64 ((2 : Int) ^ k) = 2 ^ k := M.wrap_pow k (by omega)
  obtain ⟨hz, ho, _⟩ := M.at_lt x hx k hk
  have eZ := M.bandnot_zero x k hx hk
  have eO := M.bor_one x k hx hk
  have h1 := h.below ((Below.refl w.heap.size w).alloc (Nat.le_refl _) (.cells #[.int .i64 p, .map (some b)] 52))
  have lZ := fun a => (h1.drewN a).look (M.zeroAt x k) (by omega)
  have lO := fun a => (h1.drewN a).look (M.oneAt x k) (by omega)
  have hG : M.guessN xs x k = if M.hasB xs (M.zeroAt x k) = M.hasB xs (M.oneAt x k) then -1 else if M.hasB xs (M.zeroAt x k) = true then 1 else 0 := rfl
  rw [hG]
  clear hG h1 h
  generalize M.zeroAt x k = z at *
  generalize M.oneAt x k = o at *
  have hb1 : Below w.heap.size w (w.alloc (.cells #[.int .i64 p, .map (some b)] 52)) := (Below.refl _ _).alloc (Nat.le_refl _) _
  cases hz' : M.hasB xs (z : Int) <;> cases ho' : M.hasB xs (o : Int) <;> simp only [hz', ho'] at lZ lO
  all_goals clear hz' ho'
  all_goals
    go_enter Tryd.func53, Tryd.ntmps53
    go_wp2_with fail
    go_quiet (fail)
    go_wp2_with fail
    go_ret
    exact ⟨rfl, Below.quiet hb1 (Quiet.drewN (Quiet.refl _) _)⟩

set_option maxHeartbeats 1000000 in
theorem wins_c (b : Nat) (q : Nat) (xs : List Int) (x : Nat) (w : World) (h : TeamAt w b xs) (hx : x < 128) (hq : q ≤ 7) :
    Calls Tryd.prog 41 #[.agg #[.int .i64 q, .map (some b)], .int .i64 x] w fun e w' => e = .returned (.bool (M.winsN xs x q)) ∧ Below w.heap.size w w' := by
  have hb1 : Below w.heap.size w (w.alloc (.cells #[.int .i64 q, .map (some b)] 52)) := (Below.refl _ _).alloc (Nat.le_refl _) _
  have hc := new_two w (.int .i64 q) (.map (some b)) 52
  have h1 := h.below hb1
  go_enter Tryd.func41, Tryd.ntmps41
  go_wp2_with fail
  obtain ⟨B0, hB0⟩ : ∃ B0, B0 = w.heap.size := ⟨_, rfl⟩
  rw [← hB0] at hc ⊢
  generalize (w.alloc (.cells #[.int .i64 q, .map (some b)] 52)) = w1 at *
  obtain ⟨c0, c1, hlt0⟩ := hc
  have HB0 := Lib.hid hB0
  clear hB0
  go_loopw [5, 10] (fun s i wr => ∃ k : Nat, k ≤ q ∧ i = .int .i64 k ∧ s = .bool (M.someN xs x k) ∧ M.fineN xs x k = true ∧ Below w1.heap.size w1 wr) (fun _ i _ => q - (intOf i).toNat)
  case atStart => exact ⟨0, Nat.zero_le _, rfl, by rw [M.some_zero], M.fine_zero _ _, Below.refl _ _⟩
  case round =>
    obtain ⟨k, hk, rfl, rfl, hfine, hbr⟩ := hrel
    have Hfine := Lib.hid hfine
    clear hfine
    have d0 := (hbr.cell (p := ⟨B0, 0, none⟩) hlt0).trans c0
    have d1 := (hbr.cell (p := ⟨B0, 1, none⟩) hlt0).trans c1
    by_cases hlt : k < q
    · go_wp2_with fail
      refine (guess_c b q xs x k _ (h1.below hbr) hx (by omega)).mono ?_
      rintro e w2 ⟨rfl, hb2⟩
      have Hs := Lib.hid (M.some_succ xs x k)
      have Hf := Lib.hid (M.fine_succ (xs := xs) (x := x) (k := k))
      have Hn := Lib.hid (M.wins_no (xs := xs) (x := x) (k := k) (q := q) hlt)
      generalize M.guessN xs x k = g at *
      have eb := M.bit_one x k hx
      cases hs : M.someN xs x k <;> rw [hs] at Hs
      all_goals
        by_cases hg : g < 0
        · have dg : decide (0 ≤ g) = false := decide_eq_false (by omega)
          have Hsp := Lib.hid (Hs.out.trans (by rw [dg, Bool.or_false]))
          go_wp2
          exact ⟨⟨k + 1, by omega, rfl, by rw [Hsp.out], Hf.out Hfine.out (.inl hg), hbr.trans (hb2.mono hbr.size)⟩, by simp only [intOf]; omega⟩
        · have hg' : 0 ≤ g := by omega
          have dg : decide (0 ≤ g) = true := decide_eq_true hg'
          have Hsp := Lib.hid (Hs.out.trans (by rw [dg, Bool.or_true]))
          by_cases hgb : g = M.bitAt x k
          · have dn : (g != M.bitAt x k) = false := by simp [hgb]
            go_wp2
            exact ⟨⟨k + 1, by omega, rfl, by rw [Hsp.out], Hf.out Hfine.out (.inr hgb), hbr.trans (hb2.mono hbr.size)⟩, by simp only [intOf]; omega⟩
          · have dn : (g != M.bitAt x k) = true := by simp [hgb]
            have Hno := Lib.hid (Hn.out fun h' => h'.elim (fun h' => absurd h' (by omega)) hgb)
            go_wp2
            go_ret
            exact ⟨by rw [Hno.out]; rfl, hb1.trans ((hbr.trans (hb2.mono hbr.size)).mono hb1.size)⟩
    · obtain rfl : k = q := by omega
      have hwf := M.wins_fine Hfine.out
      go_wp2
      go_ret
      exact ⟨by rw [hwf]; rfl, hb1.trans (hbr.mono hb1.size)⟩

set_option maxHeartbeats 1000000 in
theorem cover_c (b : Nat) (q : Nat) (xs : List Int) (w : World) (h : TeamAt w b xs) (hq : q ≤ 7) :
    Calls Tryd.prog 40 #[.agg #[.int .i64 q, .map (some b)]] w fun e w' => e = .returned (.bool (M.coverN xs q)) ∧ Below w.heap.size w w' := by
  have hb1 : Below w.heap.size w (w.alloc (.cells #[.int .i64 q, .map (some b)] 52)) := (Below.refl _ _).alloc (Nat.le_refl _) _
  have hc := new_two w (.int .i64 q) (.map (some b)) 52
  have h1 := h.below hb1
  have hw2 : wrap64 ((2 : Int) ^ q) = 2 ^ q := M.wrap_pow q (by omega)
  go_enter Tryd.func40, Tryd.ntmps40
  go_wp2_with fail
  obtain ⟨B0, hB0⟩ : ∃ B0, B0 = w.heap.size := ⟨_, rfl⟩
  rw [← hB0] at hc ⊢
  generalize (w.alloc (.cells #[.int .i64 q, .map (some b)] 52)) = w1 at *
  obtain ⟨c0, c1, hlt0⟩ := hc
  have HB0 := Lib.hid hB0
  clear hB0
  have hq128 : 2 ^ q ≤ 128 := Nat.pow_le_pow_right (n := 2) (by omega) hq
  obtain ⟨M0, hM0⟩ : ∃ M0 : Nat, M0 = 2 ^ q := ⟨_, rfl⟩
  have eM : ((2 : Int) ^ q) = (M0 : Int) := by rw [hM0]; simp
  rw [← hM0] at hq128
  rw [eM] at hw2 ⊢
  have HM0 := Lib.hid hM0
  clear hM0 eM
  go_loopw [9] (fun i wr => ∃ n : Nat, n ≤ M0 ∧ i = .int .i64 n ∧ (Hid (∀ x, x < n → M.reachN xs x q = true)) ∧ Quiet w1 wr) (fun i _ => M0 - (intOf i).toNat)
  case atStart => exact ⟨0, Nat.zero_le _, rfl, Lib.hid fun x hx => absurd hx (by omega), Quiet.refl _⟩
  case round =>
    obtain ⟨n, hn, rfl, Hall, hQ⟩ := hrel
    have hbr := hQ.below w1.heap.size
    have d0 := (hbr.cell (p := ⟨B0, 0, none⟩) hlt0).trans c0
    have d1 := (hbr.cell (p := ⟨B0, 1, none⟩) hlt0).trans c1
    by_cases hlt : n < M0
    · have t0 := h1.below hbr
      have l0 := t0.look n (by omega)
      go_wp2_with fail
      go_loopw [4, 18] (fun r i ws => ∃ k : Nat, k ≤ q ∧ i = .int .i64 k ∧ r = .bool (M.reachN xs n k) ∧ Quiet w1 ws) (fun _ i _ => q - (intOf i).toNat)
      case atStart => exact ⟨0, Nat.zero_le _, rfl, by rw [M.reach_zero], hQ⟩
      case round =>
        obtain ⟨k, hk, rfl, rfl, hQs⟩ := hrel
        have hbs := hQs.below w1.heap.size
        have f0 := (hbs.cell (p := ⟨B0, 0, none⟩) hlt0).trans c0
        have f1 := (hbs.cell (p := ⟨B0, 1, none⟩) hlt0).trans c1
        have Hr := Lib.hid (M.reach_succ xs n k)
        by_cases hkq : k < q
        · have t1 := h1.below hbs
          have hwk : wrap64 ((2 : Int) ^ k) = 2 ^ k := M.wrap_pow k (by omega)
          have eX := M.bxor_flip n k (by omega) (by omega)
          have lX := fun a => (t1.drewN a).look (M.flipAt n k) (by have := (M.at_lt n (by omega) k (by omega)).2.2; omega)
          generalize M.flipAt n k = y at *
          cases hr : M.reachN xs n k <;> rw [hr] at Hr
          · go_wp2_with fail
            go_quiet (fail)
            go_wp2
            exact ⟨⟨k + 1, by omega, rfl, by rw [Hr.out, Bool.false_or], hQs.drewN _⟩, by simp only [intOf]; omega⟩
          · go_wp2_with fail
            go_quiet (fail)
            go_wp2
            exact ⟨⟨k + 1, by omega, rfl, by rw [Hr.out, Bool.true_or], hQs.drewN _⟩, by simp only [intOf]; omega⟩
        · obtain rfl : k = q := by omega
          cases hr : M.reachN xs n k
          · have Hno := Lib.hid (M.cover_no (HM0.out ▸ hlt) hr)
            go_wp2
            go_ret
            exact ⟨by rw [Hno.out]; rfl, Below.quiet hb1 hQs⟩
          · go_wp2
            exact ⟨⟨n + 1, by omega, rfl, Lib.hid fun x hx => by
              by_cases e : x = n
              · subst e; exact hr
              · exact Hall.out x (by omega), hQs⟩, by simp only [intOf]; omega⟩
    · have Hc := Lib.hid (M.cover_yes (xs := xs) (q := q) fun x hx => Hall.out x (by have := HM0.out; omega))
      go_wp2
      go_ret
      exact ⟨by rw [Hc.out]; rfl, Below.quiet hb1 hQ⟩

theorem new_free (w : World) (c : Array Value) (t : TypeId) (k : Nat) : (w.alloc (.cells c t)).frozen? ⟨w.heap.size, k, none⟩ = false := World.frozen?_alloc_at _ _ _ _ rfl

theorem two_set (w : World) (g : Nat) {u v : Value} (u' v' : Value) (d0 : w.cell? ⟨g, 0, none⟩ = some u) (d1 : w.cell? ⟨g, 1, none⟩ = some v) :
    ((w.setCell ⟨g, 0, none⟩ u').setCell ⟨g, 1, none⟩ v').cell? ⟨g, 0, none⟩ = some u' ∧ ((w.setCell ⟨g, 0, none⟩ u').setCell ⟨g, 1, none⟩ v').cell? ⟨g, 1, none⟩ = some v' ∧ w.grownBy ((w.setCell ⟨g, 0, none⟩ u').setCell ⟨g, 1, none⟩ v') (some g) := by
  have hne : (⟨g, 0, none⟩ : Addr) ≠ ⟨g, 1, none⟩ := by simp
  refine ⟨?_, ?_, ?_⟩
  · rw [World.cell?_setCell_other _ _ _ _ hne.symm, World.cell?_setCell_same _ _ _ d0]
  · rw [World.cell?_setCell_same _ _ _ ((World.cell?_setCell_other _ _ _ _ hne).trans d1)]
  · refine ⟨rfl, rfl, rfl, by simp, fun i _ hi => ?_⟩
    have hi' : g ≠ i := fun e => hi (by rw [e])
    simp [World.setCell, Array.getElem?_modify, hi']

theorem RdI.grown {w w' : World} {A : Option Addr} {n : Nat} {xs : List Int} {row : Option Nat} (h : RdI w A n xs) (hg : w.grownBy w' row) (hne : ∀ ad, A = some ad → some ad.block ≠ row) : RdI w' A n xs :=
  ⟨h.len, h.big, fun hn => by
    obtain ⟨ad, e, hlt, hc⟩ := h.cells hn
    exact ⟨ad, e, Nat.lt_of_lt_of_le hlt hg.size, fun k hk => hg.cell (hc k hk) (by rw [block_of_add]; exact hne ad e)⟩⟩

/-- After k words of the list. -/
def TeamUp (w : World) (b : Nat) (xs : List Int) (k : Nat) : Prop :=
  ∃ D : DataW Unit, w.ownsMap Tryd.prog 3 (plainElem Tryd.prog 4) b k D ∧ Maps.IsMap D ∧ ∀ x : Int, (Lit.int .i64 x).wf = true → D.atKey (.int .i64 x) (.lit (.bool false)) = .lit (.bool (M.hasB (xs.take k) x))
theorem TeamUp.at {w : World} {b k : Nat} {xs : List Int} (h : TeamUp w b xs k) (hk : xs.length ≤ k) : TeamAt w b xs := by
  obtain ⟨D, h1, h2, h3⟩ := h
  rw [List.take_of_length_le hk] at h3
  exact ⟨k, D, h1, h2, h3⟩
theorem TeamUp.kept {w w' : World} {b k : Nat} {xs : List Int} {row : Option Nat} (h : TeamUp w b xs k) (hg : w.grownBy w' row) (hne : some b ≠ row) : TeamUp w' b xs k := by
  obtain ⟨D, hown, r⟩ := h
  exact ⟨D, hown.kept hg hne, r⟩
theorem hasB_take {xs : List Int} {k : Nat} (hk : k < xs.length) (x : Int) : M.hasB (xs.take (k + 1)) x = (M.hasB (xs.take k) x || decide (nth xs k = x)) := by
  have e : xs.take (k + 1) = xs.take k ++ [nth xs k] := by rw [List.take_add_one, List.getElem?_eq_getElem hk]; simp [nth, hk]
  unfold M.hasB
  rw [e, List.any_append]
  congr 1
  rw [List.any_cons, List.any_nil, Bool.or_false, Bool.eq_iff_iff, beq_iff_eq, decide_eq_true_eq]

set_option maxHeartbeats 1000000 in
theorem teamOf_c (B : Nat) (A : Option Addr) (n c : Nat) (xs : List Int) (p : Int) (w : World) (h : OwnI w B A n c xs) (hn : n ≤ 1048576) :
    Calls Tryd.prog 39 #[.int .i64 p, .slice A n c] w fun e w' => Below w.heap.size w w' ∧ ((M.lostB p xs = false ∧ e = .returned (.tuple #[.agg #[.int .i64 0, .map none], .bool false])) ∨ (M.lostB p xs = true ∧ ∃ b, e = .returned (.tuple #[.agg #[.int .i64 p, .map (some b)], .bool true]) ∧ TeamAt w' b xs)) := by
  have hmm := @run_makeMap Tryd.prog
  have hc := new_two w (.int .i64 0) (.map none) 52
  have hf0 := new_free w #[.int .i64 0, .map none] 52 0
  have hf1 := new_free w #[.int .i64 0, .map none] 52 1
  have hb0 : Below w.heap.size w (w.alloc (.cells #[.int .i64 0, .map none] 52)) := (Below.refl _ _).alloc (Nat.le_refl _) _
  have h0 := h.alloc (.cells #[.int .i64 0, .map none] 52)
  cases hp : M.lostB p xs with
  | false =>
    go_enter Tryd.func39, Tryd.ntmps39
    go_wp2_with fail
    generalize (w.alloc (.cells #[.int .i64 0, .map none] 52)) = w0 at *
    obtain ⟨c0, c1, hlt0⟩ := hc
    refine (iLostOk_c B A n c xs p _ h0 hn).mono ?_
    rintro e w1 ⟨rfl, hb1⟩
    have d0 := (hb1.cell (p := ⟨w.heap.size, 0, none⟩) hlt0).trans c0
    have d1 := (hb1.cell (p := ⟨w.heap.size, 1, none⟩) hlt0).trans c1
    have g0 := (hb1.frozen (p := ⟨w.heap.size, 0, none⟩) hlt0).trans hf0
    have g1 := (hb1.frozen (p := ⟨w.heap.size, 1, none⟩) hlt0).trans hf1
    rw [hp]
    go_wp2
    obtain ⟨e0, e1, hgr⟩ := two_set w1 w.heap.size (.int .i64 0) (.map none) d0 d1
    generalize ((w1.setCell ⟨w.heap.size, 0, none⟩ (.int .i64 0)).setCell ⟨w.heap.size, 1, none⟩ (.map none)) = w2 at *
    refine bodyPost_ret (v := .tuple #[.agg #[.int .i64 0, .map none], .bool false]) (by simp [results, Tryd.results39, go_sem, e0, e1, Result.andThen]) rfl ?_
    refine ⟨?_, .inl ⟨trivial, rfl⟩⟩
    exact (hb0.trans (hb1.mono hb0.size)).grown hgr (by have := hb0.size; have := hb1.size; omega) (fun k hk => by cases hk; exact Nat.le_refl _)
  | true =>
    go_enter Tryd.func39, Tryd.ntmps39
    go_wp2_with fail
    generalize (w.alloc (.cells #[.int .i64 0, .map none] 52)) = w0 at *
    obtain ⟨c0, c1, hlt0⟩ := hc
    refine (iLostOk_c B A n c xs p _ h0 hn).mono ?_
    rintro e w1 ⟨rfl, hb1⟩
    have d0 := (hb1.cell (p := ⟨w.heap.size, 0, none⟩) hlt0).trans c0
    have d1 := (hb1.cell (p := ⟨w.heap.size, 1, none⟩) hlt0).trans c1
    have g0 := (hb1.frozen (p := ⟨w.heap.size, 0, none⟩) hlt0).trans hf0
    have g1 := (hb1.frozen (p := ⟨w.heap.size, 1, none⟩) hlt0).trans hf1
    have hmade : TeamUp (w1.alloc (.map #[] 0)) w1.heap.size xs 0 := ⟨_, World.ownsMap_made _ _ _ _, Maps.isMap_empty, fun x _ => by rfl⟩
    obtain ⟨b, hb⟩ : ∃ b, b = w1.heap.size := ⟨_, rfl⟩
    have hn2 := new_two (w1.alloc (.map #[] 0)) (.int .i64 p) (.map (some b)) 52
    have hm2 := hmade.kept (World.grownBy_alloc _ (.cells #[.int .i64 p, .map (some b)] 52) none) (by simp)
    have hb2 : Below w.heap.size w ((w1.alloc (.map #[] 0)).alloc (.cells #[.int .i64 p, .map (some b)] 52)) := ((hb0.trans (hb1.mono hb0.size)).alloc (by have := hb0.size; have := hb1.size; omega) _).alloc (by have := hb0.size; have := hb1.size; simp; omega) _
    rw [hp]
    have hrd : RdI ((w1.alloc (.map #[] 0)).alloc (.cells #[.int .i64 p, .map (some b)] 52)) A n xs := (((h0.below hb1).alloc _).alloc _).rd
    have hA : ∀ ad, A = some ad → ad.block < w1.heap.size := fun ad e => by
      subst e
      exact Nat.lt_of_lt_of_le (h0.lt).2 hb1.size
    have hwf := hrd.len
    have hbig := hrd.big
    have hall : ∀ k, k < n → (Lit.int .i64 (nth xs k)).wf = true := fun k hk => M.lost_wf hp (by omega)
    rw [← hb] at hA hmade hm2
    have D0 := (World.grownBy_alloc (w1.alloc (.map #[] 0)) (.cells #[.int .i64 p, .map (some b)] 52) none).cell ((World.grownBy_alloc w1 (.map #[] 0) none).cell d0 (by simp)) (by simp)
    have D1 := (World.grownBy_alloc (w1.alloc (.map #[] 0)) (.cells #[.int .i64 p, .map (some b)] 52) none).cell ((World.grownBy_alloc w1 (.map #[] 0) none).cell d1 (by simp)) (by simp)
    have hsz := hb1.size
    have G0 : ((w1.alloc (.map #[] 0)).alloc (.cells #[.int .i64 p, .map (some b)] 52)).frozen? ⟨w.heap.size, 0, none⟩ = false := by
      rw [World.frozen?_alloc_past _ _ _ (by simp; omega), World.frozen?_alloc_past _ _ _ (by omega)]; exact g0
    have G1 : ((w1.alloc (.map #[] 0)).alloc (.cells #[.int .i64 p, .map (some b)] 52)).frozen? ⟨w.heap.size, 1, none⟩ = false := by
      rw [World.frozen?_alloc_past _ _ _ (by simp; omega), World.frozen?_alloc_past _ _ _ (by omega)]; exact g1
    go_wp2_with fail
    rw [← hb]
    simp only [World.size_alloc] at hn2
    rw [← hb] at hn2
    have hlt1 : w.heap.size < b := by omega
    generalize ((w1.alloc (.map #[] 0)).alloc (.cells #[.int .i64 p, .map (some b)] 52)) = w2 at *
    obtain ⟨t0, t1, -⟩ := hn2
    have hw2 : w.heap.size < w2.heap.size := World.block_lt_of_cell? _ _ D0
    have HB := Lib.hid hb
    clear hb
    go_loopw [19] (fun i wr => ∃ k : Nat, k ≤ n ∧ i = .int .i64 k ∧ TeamUp wr b xs k ∧ w2.grownBy wr (some b)) (fun i _ => n - (intOf i).toNat)
    case atStart => exact ⟨0, Nat.zero_le _, rfl, hm2, World.grownBy.refl _ _⟩
    case round =>
      obtain ⟨k, hk, rfl, hup, hgr⟩ := hrel
      have T0 := hgr.cell t0 (by simp)
      have T1 := hgr.cell t1 (by simp)
      have E0 := hgr.cell D0 (by simp; omega)
      have E1 := hgr.cell D1 (by simp; omega)
      have F0 := (World.frozen?_of_block (a := ⟨w.heap.size, 0, none⟩) (hgr.block _ hw2 (by simp; omega))).trans G0
      have F1 := (World.frozen?_of_block (a := ⟨w.heap.size, 1, none⟩) (hgr.block _ hw2 (by simp; omega))).trans G1
      by_cases hlt : k < n
      · obtain ⟨ad, rfl, had, hcell⟩ := (hrd.grown hgr fun ad e => by have := hA ad e; simp; omega).at_ hlt
        obtain ⟨D, hown, hmap, hat⟩ := hup
        have hkey : keyOf Tryd.prog 3 (.int .i64 (nth xs k)) = some (.int .i64 (nth xs k)) := Maps.keyOf_int_mk Tryd.underlying3 (hall k hlt)
        have hxl : k < xs.length := by omega
        have hnw := hall k hlt
        have hT := fun x => hasB_take hxl x
        generalize nth xs k = x at *
        go_wp2_with (first
          | (at_mapUpdate; refine wpList_mapUpdate_own _ rfl _ _ _ 50 rfl 3 4 (Maps.int_keyed Tryd.underlying3) Tryd.underlying50 (plainElem Tryd.prog 4) b k D rfl hown (by unfold maxLen; omega) _ _ _ rfl rfl hkey (.lit (.bool true)) [] (plainElem_bool Tryd.underlying4 true) ?_; intro w3 hown3 hgrow3)
          | fail)
        go_roundw
        case rel => exact ⟨k + 1, by omega, by go_num, ⟨_, hown3, hmap.put _ _, fun y hy => by
          rw [hT y]
          by_cases e : x = y
          · subst e
            rw [Maps.atKey_put_same hmap (k := .int .i64 x) (by first | exact trivial | simp [WideAt.IsKeyLit])]
            simp
          · rw [Maps.atKey_put_other (by intro h; injection h with _ h; exact e h.symm), hat y hy]
            simp [e]⟩, grown_trans hgr hgrow3⟩
        case measure => simp [intOf]; omega
      · obtain rfl : k = n := by omega
        have hTA : TeamAt wr b xs := hup.at (by omega)
        go_wp2
        obtain ⟨e0, e1, hgs⟩ := two_set wr w.heap.size (.int .i64 p) (.map (some b)) E0 E1
        have hTB := hTA.kept hgs (by simp; omega)
        generalize ((wr.setCell ⟨w.heap.size, 0, none⟩ (.int .i64 p)).setCell ⟨w.heap.size, 1, none⟩ (.map (some b))) = w4 at *
        refine bodyPost_ret (v := .tuple #[.agg #[.int .i64 p, .map (some b)], .bool true]) (by simp [results, Tryd.results39, go_sem, e0, e1, Result.andThen]) rfl ?_
        refine ⟨?_, .inr ⟨trivial, b, rfl, hTB⟩⟩
        exact (hb2.grown hgr (by omega) (fun k hk => by cases hk; omega)).grown hgs (by have := hgr.size; omega) (fun k hk => by cases hk; exact Nat.le_refl _)

end Go.Proofs.YtebjhdipdffkgaaDoor
