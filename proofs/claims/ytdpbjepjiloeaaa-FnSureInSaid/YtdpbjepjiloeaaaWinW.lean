/- The walk of the search with a table. No condition. -/
import Derived.Test.YtdpbjepjiloeaaaPlace
import Derived.Test.YtdpbjepjiloeaaaQs
import Derived.Test.YtdpbjepjiloeaaaBound
import Derived.Test.YtdpbjepjiloeaaaAns
import Derived.Test.YtdpbjepjiloeaaaDraw
import Derived.Deep.RegionHeld3
namespace Go.Proofs.Ytdpbjepjiloeaaa
open Go Go.RowKit
open M (nth)

theorem M.known_sum2 {xs : List Int} (h : M.knownB xs = true) : M.sumFits xs ∧ 0 ≤ M.sumL xs ∧ M.sumL xs ≤ 10 := by
  obtain ⟨k1, k2, k3, k4⟩ := M.known_parts h
  have hall : M.allB xs 0 10 = true := M.allB_iff.2 k3
  have := M.sumL_bounds xs 0 10 hall
  exact ⟨M.sumFits_of hall (by omega) (by omega) (by omega), by omega, k4⟩
/-- Returns whether one can be sure; the table is right still. -/
def Won (w : World) (b g cF L q : Nat) (F row : List Int) (e : Ending) (w' : World) : Prop :=
  e = .returned (.bool (M.win q row)) ∧ (∃ F', OwnI w' b (some ⟨g, 0, none⟩) 13310 cF F' ∧ M.Inv L F' q ∧ M.Keep L F F' q) ∧ w.grownBy w' (some g)
theorem Won.same {w w' : World} {b g cF L q : Nat} {F row : List Int} {v : Bool} (h : OwnI w b (some ⟨g, 0, none⟩) 13310 cF F) (hI : M.Inv L F q) (hq : Quiet w w') (hv : M.win q row = v) : Won w b g cF L q F row (.returned (.bool v)) w' :=
  ⟨by rw [hv], ⟨F, h.quiet hq, hI, fun _ _ _ _ _ => rfl⟩, by obtain ⟨m, rfl⟩ := hq; exact only_drewN (World.grownBy.refl w _) m⟩

theorem RdI.far {w w' : World} {g : Nat} {A : Option Addr} {n : Nat} {xs : List Int} (h : RdI w A n xs) (hne : ∀ ad, A = some ad → ad.block ≠ g) (hg : w.grownBy w' (some g)) : RdI w' A n xs :=
  ⟨h.len, h.big, fun hn => by
    obtain ⟨ad, e, hlt, hc⟩ := h.cells hn
    refine ⟨ad, e, Nat.lt_of_lt_of_le hlt hg.size, fun k hk => ?_⟩
    rw [World.cell?_of_block (hg.block (ad.add k).block (by rw [block_of_add]; exact hlt) (by rw [block_of_add]; intro e2; exact hne ad e (by simpa using e2)))]
    exact hc k hk⟩
theorem OwnR.far {w w' : World} {g b : Nat} {A : Option Addr} {n c : Nat} {xss : List (List Int)} (h : OwnR w b A n c xss) (hgb : g < b) (hg : w.grownBy w' (some g)) : OwnR w' b A n c xss := by
  obtain ⟨vs, h1, h2, h3⟩ := h
  refine ⟨vs, h1, h2.kept hg ?_, h3.len, fun k v hv => ?_, h3.apart⟩
  · rcases h2.2 with ⟨e, _⟩ | ⟨g', cap, cur, e, hb, _⟩
    · rw [e]; exact .inl rfl
    · rw [e]; exact .inr (by simp [Value.ownBlock]; omega)
  · obtain ⟨A', n', c', e, ho⟩ := h3.own k v hv
    exact ⟨A', n', c', e, ho.kept hg (ho.ne_block hgb)⟩
theorem grown_below {w w' : World} {row : Option Nat} (h : Below w.heap.size w w') : w.grownBy w' row := ⟨h.os, h.tape, h.output, h.size, fun k hk _ => h.block k hk⟩

theorem OwnR.lt {w : World} {b g : Nat} {n c : Nat} {xss : List (List Int)} (h : OwnR w b (some ⟨g, 0, none⟩) n c xss) : b ≤ g ∧ g < w.heap.size := by
  obtain ⟨vs, h1, h2, h3⟩ := h
  exact h2.lt _ rfl
/-- The table behind some of the search: it is right for at most q questions, and as F0 says for more; no other old block has turned. -/
def Held (W : World) (b g cF L q : Nat) (F0 : List Int) (w : World) : Prop :=
  W.grownBy w (some g) ∧ ∃ F1, OwnI w b (some ⟨g, 0, none⟩) 13310 cF F1 ∧ M.Inv L F1 q ∧ M.Keep L F0 F1 q
theorem Held.below {W : World} {b g cF L q : Nat} {F0 : List Int} {w w' : World} (h : Held W b g cF L q F0 w) (hb : Below w.heap.size w w') : Held W b g cF L q F0 w' := by
  obtain ⟨hg, F1, ho, hI, hK⟩ := h
  exact ⟨grown_trans hg (grown_below hb), F1, ho.below hb, hI, hK⟩
theorem Held.drewN {W : World} {b g cF L q : Nat} {F0 : List Int} {w : World} (h : Held W b g cF L q F0 w) (m : Nat) : Held W b g cF L q F0 (w.drewN m) := h.below (Quiet.below ⟨m, rfl⟩ _)
theorem Held.drew {W : World} {b g cF L q : Nat} {F0 : List Int} {w : World} (h : Held W b g cF L q F0 w) : Held W b g cF L q F0 w.drew := h.drewN 1
theorem Held.lt {W : World} {b g cF L q : Nat} {F0 : List Int} {w : World} (h : Held W b g cF L q F0 w) : g < w.heap.size := by
  obtain ⟨hg, F1, ho, -⟩ := h
  exact ho.lt.2
/-- What is asked of the search with q questions. -/
def WinAt (b g cF L q : Nat) : Prop := ∀ (F : List Int) (A : Option Addr) (n c : Nat) (row : List Int) (w : World), OwnI w b (some ⟨g, 0, none⟩) 13310 cF F → RdI w A n row → (∀ ad, A = some ad → ad.block ≠ g) → M.knownB row = true → row.length = L → M.Inv L F q →
    Calls Try.prog 49 #[.slice (some ⟨g, 0, none⟩) 13310 cF, .slice A n c, .int .i64 q] w (Won w b g cF L q F row)
theorem WinAt.held {b g cF L q : Nat} (h : WinAt b g cF L q) {W : World} {F0 : List Int} {w : World} (hw : Held W b g cF L q F0 w) {A : Option Addr} {n c b' : Nat} {row : List Int} (ho : OwnI w b' A n c row) (hb : g < b') (hk : M.knownB row = true) (hL : row.length = L) :
    Calls Try.prog 49 #[.slice (some ⟨g, 0, none⟩) 13310 cF, .slice A n c, .int .i64 q] w fun e w' => e = .returned (.bool (M.win q row)) ∧ Held W b g cF L q F0 w' ∧ w.grownBy w' (some g) := by
  obtain ⟨hg, F1, hF, hI, hK⟩ := hw
  refine (h F1 A n c row w hF ho.rd (fun ad e => by subst e; have := ho.lt.1; omega) hk hL hI).mono ?_
  rintro e w' ⟨rfl, ⟨F', ho', hI', hK'⟩, hg'⟩
  exact ⟨rfl, ⟨grown_trans hg hg', F', ho', hI', hK.trans hK'⟩, hg'⟩

set_option maxHeartbeats 2000000 in
theorem l5Win_c (b g cF L : Nat) (q : Nat) : ∀ (_ : q ≤ 9) (F : List Int) (A : Option Addr) (n c : Nat) (row : List Int) (w : World), OwnI w b (some ⟨g, 0, none⟩) 13310 cF F → RdI w A n row → (∀ ad, A = some ad → ad.block ≠ g) → M.knownB row = true → row.length = L → M.Inv L F q →
    Calls Try.prog 49 #[.slice (some ⟨g, 0, none⟩) 13310 cF, .slice A n c, .int .i64 q] w (Won w b g cF L q F row) := by
  induction q with
  | zero =>
    intro _ F A n c row w hF hr hne hk hL hI
    obtain ⟨hfit, hs0, hs10⟩ := M.known_sum2 hk
    by_cases hs : M.sumL row ≤ 1
    · have hv := Lib.hid (M.win_few hs 0)
      go_enter Try.func49, Try.ntmps49
      go_wp2_with fail
      refine (l1Sum_c A n c row _ hr hfit).mono ?_
      rintro e w1 ⟨rfl, rfl⟩
      go_wp2
      go_ret
      exact Won.same hF hI (Quiet.refl _) hv.out
    · have hv := Lib.hid (M.win_zero hs)
      go_enter Try.func49, Try.ntmps49
      go_wp2_with fail
      refine (l1Sum_c A n c row _ hr hfit).mono ?_
      rintro e w1 ⟨rfl, rfl⟩
      go_wp2_with fail
      go_quiet (fail)
      go_wp2
      go_ret
      exact Won.same hF hI ⟨_, rfl⟩ hv.out
  | succ q ih =>
    intro hq9 F A n c row w hF hr hne hk hL hI
    have ih := Lib.hid (ih (by omega))
    obtain ⟨hfit, hs0, hs10⟩ := M.known_sum2 hk
    obtain ⟨p, hp⟩ : ∃ p, p = q + 1 := ⟨_, rfl⟩
    have e0 : ((p : Int) == 0) = false := by simp; omega
    have e2 : IntKind.i64.wrap ((p : Int) - 1) = (q : Int) := by rw [IntKind.wrap_i64]; omega
    rw [← hp] at hI hq9 ⊢
    have hlen := hr.len
    have hn3 : n ≤ 3 := by have := M.known_parts hk; omega
    by_cases hs : M.sumL row ≤ 1
    · have hv := Lib.hid (M.win_few hs p)
      clear hp
      go_enter Try.func49, Try.ntmps49
      go_wp2_with fail
      refine (l1Sum_c A n c row _ hr hfit).mono ?_
      rintro e w1 ⟨rfl, rfl⟩
      go_wp2
      go_ret
      exact Won.same hF hI (Quiet.refl _) hv.out
    · have hwo := M.weight_ok (n := p) hk (M.inB_true.2 (by omega))
      obtain ⟨hw0, hw1⟩ := M.weight_bnd hk (n := p) (by omega)
      obtain ⟨hp0, hp1⟩ := M.pow9 (n := p) (by omega)
      have t1 : IntKind.i64.wrap ((2 : Int) ^ p) = 2 ^ p := by rw [IntKind.wrap_i64]; omega
      have t1' : wrap64 ((2 : Int) ^ p) = 2 ^ p := by rw [M.w64]; exact t1
      have mp : min p 64 = p := by omega
      have hcl : ∀ m, Calls Try.prog 38 #[.slice A n c, .int .i64 p] (w.drewN m) fun e w' => e = .returned (.int .i64 (M.wgt row p)) ∧ Quiet (w.drewN m) w' := fun m => by
        have := sWeightOf_c A n c row p (w.drewN m) (hr.quiet ⟨m, rfl⟩) (by omega)
        rwa [hwo] at this
      have hno := M.win_no (q := p) (row := row) (by omega) hk
      have HP := Lib.hid hp
      clear hwo hp
      by_cases hv : M.wgt row p ≤ 2 ^ p
      · clear hno
        generalize M.wgt row p = V at *
        have hent := fun k (hk3 : k < n) => (M.known_parts hk).2.2.1 k (by omega)
        have hpb := fun k (hk3 : k < n) => M.place_bnd (q := p) hk k (by omega)
        have HE := Lib.hid hent
        have HB := Lib.hid hpb
        have hpl := M.place_lt hk hq9
        rw [hlen] at hpl
        clear hent hpb
        go_enter Try.func49, Try.ntmps49
        go_wp2_with fail
        refine (l1Sum_c A n c row _ hr hfit).mono ?_
        rintro e w1 ⟨rfl, rfl⟩
        go_wp2_with fail
        go_quiet ((go_at_call 38; exact quiet_m (hcl _)))
        have d1 : decide ((2 : Int) ^ p < V) = false := decide_eq_false (by omega)
        have hF1 := hF.quiet (⟨_, rfl⟩ : Quiet w (w.drewN nq))
        have hr1 := hr.quiet (⟨_, rfl⟩ : Quiet w (w.drewN nq))
        have hg1 : w.grownBy (w.drewN nq) (some g) := only_drewN (World.grownBy.refl w _) _
        clear hcl hr hF
        generalize w.drewN nq = W at *
        go_wp2_with fail
        go_loopg [7, 8] n (fun gk v i wr => wr = W ∧ ∃ k : Nat, k + gk = n ∧ i = .int .i64 k ∧ v = .int .i64 (M.place p row k : Nat))
        case atStart => exact ⟨rfl, 0, by omega, rfl, rfl⟩
        case round =>
          obtain ⟨rfl, k, hkg, rfl, rfl⟩ := hrel
          by_cases hlt : k < n
          · obtain ⟨g1, rfl⟩ : ∃ g1, gk = g1 + 1 := ⟨gk - 1, by omega⟩
            obtain ⟨ad, rfl, hadb, hcell⟩ := hr1.at_ hlt
            have h1 := HE.out k hlt
            have h2 := HB.out k hlt
            have h3 : (p + 1) * 11 ^ k ≤ 10 * 11 ^ 2 := Nat.mul_le_mul (by omega) (Nat.pow_le_pow_right (by omega) (by omega))
            have Hs := Lib.hid (show M.place p row (k + 1) = 11 * M.place p row k + (nth row k).toNat from rfl)
            obtain ⟨a, ha, ha10⟩ : ∃ a : Nat, nth row k = (a : Int) ∧ a ≤ 10 := ⟨(nth row k).toNat, by omega, by omega⟩
            rw [ha] at hcell
            have hP : M.place p row k ≤ 1209 := by omega
            clear h1 h2 h3
            go_wp2
            go_roundg g1
            case measure => omega
            case rel => exact ⟨rfl, k + 1, by omega, by go_num, by rw [Hs.out, ha, Int.toNat_natCast]; go_num⟩
          · obtain rfl : k = n := by omega
            obtain rfl : gk = 0 := by omega
            obtain rfl : L = k := by omega
            have hI1 := hI p row (Nat.le_refl _) hk hL
            obtain ⟨T, hT⟩ : ∃ T, T = M.place p row L := ⟨_, rfl⟩
            rw [← hT] at hI1 hpl ⊢
            have HT := Lib.hid hT
            clear hT
            have hc := hF1.cell hpl
            rcases hI1 with h0 | ⟨h1, hw⟩ | ⟨h1, hw⟩
            · obtain ⟨wo, hwo⟩ : ∃ wo : World, wo = wr := ⟨_, rfl⟩
              subst hwo
              have hk' := Lib.hid hk
              have hb1 := hF1.lt
              go_wp2_with fail
              refine (l5Questions_c A L c row _ hr1 hk).mono ?_
              rintro e w2 ⟨A2, N, c2, rfl, hR2, hb2⟩
              have hF2 := hF1.below hb2
              have hc2 := hF2.cell hpl
              rw [h0] at hc2
              have hf2 := hF2.free T
              have hs2 := hb2.size
              obtain ⟨hF3, hg3⟩ := hF2.stored T 2
              have hR3 := hR2.far hb1.2 hg3
              have hr3 := (hr1.below hb2).far hne hg3
              have hFl := hF1.1
              have hI3 : M.Inv L (F.set T 2) q := by
                have e := HT.out
                have e2 := HP.out
                subst e2
                subst e
                exact M.inv_mark hI hk'.out hL (by omega)
              have HE1 := Lib.hid (show ∀ F1, M.Inv L F1 q → M.Keep L (F.set T 2) F1 q → M.win p row = false → M.Inv L F1 p ∧ M.Keep L F F1 p from fun F1 h1 h2 h3 => by
                have e := HT.out
                have e2 := HP.out
                subst e2
                subst e
                exact M.inv_end hI h1 hk'.out hL (by omega) h2 (.inr ⟨rfl, h3⟩))
              have HE2 := Lib.hid (show ∀ F1, F1.length = 13310 → M.Inv L F1 q → M.Keep L (F.set T 2) F1 q → M.win p row = true → M.Inv L (F1.set T 1) p ∧ M.Keep L F (F1.set T 1) p from fun F1 h0 h1 h2 h3 => by
                have e := HT.out
                have e2 := HP.out
                subst e2
                subst e
                obtain ⟨k1, k2⟩ := M.keep_over (y := 1) hk'.out hL (by omega) (by omega) h1 h2
                exact M.inv_end hI k1 hk'.out hL (by omega) k2 (.inl ⟨rfl, h3⟩))
              have HW : WinAt b g cF L q := ih.out
              have hgW : w.grownBy (w2.setCell ⟨g, T, none⟩ (.int .i64 2)) (some g) := grown_trans (grown_trans hg1 (grown_below hb2)) hg3
              have hH3 : Held (w2.setCell ⟨g, T, none⟩ (.int .i64 2)) b g cF L q (F.set T 2) (w2.setCell ⟨g, T, none⟩ (.int .i64 2)) := ⟨World.grownBy.refl _ _, _, hF3, hI3, M.Keep.refl _ _ _⟩
              clear hI3
              go_wp2_with fail
              clear hF3 hg3 hc2 hf2 hF2 hR2 hc hr1 hF1
              generalize w2.setCell ⟨g, T, none⟩ (.int .i64 2) = W3 at *
              go_loopg [10] N (fun gk i wr => ∃ k : Nat, k + gk = N ∧ i = .int .i64 k ∧ Held W3 b g cF L q (F.set T 2) wr ∧ Hid (∀ j, j < k → 2 * M.sumL (M.nthR (M.qs row L) j) ≤ M.sumL row + 1 → ¬ (M.win q (M.conf row (M.nthR (M.qs row L) j)) = true ∧ M.win q (M.conf row (M.sub row (M.nthR (M.qs row L) j))) = true)))
              case atStart => exact ⟨0, by omega, rfl, hH3, Lib.hid (fun j hj => absurd hj (Nat.not_lt_zero _))⟩
              case round =>
                obtain ⟨k, hkg, rfl, hH, Hf⟩ := hrel
                clear hH3
                by_cases hlt : k < N
                · obtain ⟨g1, rfl⟩ : ∃ g1, gk = g1 + 1 := ⟨gk - 1, by omega⟩
                  obtain ⟨gB, A', n', c', rfl, hrow, hrow2⟩ := hR3.at_ hlt
                  have hgB := hR3.lt
                  have hbig := hR3.big
                  have hx : M.splitB row (M.nthR (M.qs row L) k) = true := (M.mem_split hk'.out).1 (by rw [hL]; exact M.nthR_mem (by rw [hR3.len]; exact hlt))
                  obtain ⟨x, hxe⟩ : ∃ x, x = M.nthR (M.qs row L) k := ⟨_, rfl⟩
                  rw [← hxe] at hx hrow2
                  have HX := Lib.hid hxe
                  clear hxe
                  obtain ⟨-, hxl, hxb⟩ := M.split_parts hx
                  obtain rfl : n' = L := by have := hrow2.1; omega
                  have hkx : M.knownB x = true := M.known_le hk'.out ⟨hxl, fun k hk => (hxb k hk).2⟩ (fun k hk => (hxb k (by omega)).1)
                  obtain ⟨hfx, hsx0, hsx10⟩ := M.known_sum2 hkx
                  have t1 : IntKind.i64.wrap (2 * M.sumL x) = 2 * M.sumL x := by rw [IntKind.wrap_i64]; omega
                  have t2 : IntKind.i64.wrap (M.sumL row + 1) = M.sumL row + 1 := by rw [IntKind.wrap_i64]; omega
                  have HC := Lib.hid (show ∀ W', Held W3 b g cF n' q (F.set T 2) W' → W'.cell? ⟨gB, k, none⟩ = some (.slice A' n' c') from fun W' h => by
                    rw [World.cell?_of_block (h.1.block gB hgB.2 (by simp; omega))]; exact hrow)
                  have HO := Lib.hid (show ∀ W', Held W3 b g cF n' q (F.set T 2) W' → OwnI W' wo.heap.size A' n' c' x from fun W' h => hrow2.kept h.1 (hrow2.ne_block hb1.2))
                  have HR := Lib.hid (show ∀ W', Held W3 b g cF n' q (F.set T 2) W' → RdI W' A n' row from fun W' h => hr3.far hne h.1)
                  have hcr := HC.out _ hH
                  clear hxb hrow
                  have hs1 : ∀ W', Held W3 b g cF n' q (F.set T 2) W' → Calls Try.prog 60 #[.slice A' n' c'] W' fun e w' => e = .returned (.int .i64 (M.sumL x)) ∧ W' = w' := fun W' h => l1Sum_c A' n' c' x _ (HO.out _ h).rd hfx
                  have hs2 : ∀ W', Held W3 b g cF n' q (F.set T 2) W' → Calls Try.prog 60 #[.slice A n' c] W' fun e w' => e = .returned (.int .i64 (M.sumL row)) ∧ W' = w' := fun W' h => l1Sum_c A n' c row _ (HR.out _ h) hfit
                  have Hs1 := Lib.hid hs1
                  have Hs2 := Lib.hid hs2
                  clear hs1 hs2 hfx
                  have Hfin := Lib.hid (show (2 * M.sumL x ≤ M.sumL row + 1 → ¬ (M.win q (M.conf row x) = true ∧ M.win q (M.conf row (M.sub row x)) = true)) → ∀ j, j < k + 1 → 2 * M.sumL (M.nthR (M.qs row n') j) ≤ M.sumL row + 1 → ¬ (M.win q (M.conf row (M.nthR (M.qs row n') j)) = true ∧ M.win q (M.conf row (M.sub row (M.nthR (M.qs row n') j))) = true) from fun h j hj => by
                    by_cases e : j = k
                    · subst e; rw [← HX.out]; exact h
                    · exact Hf.out j (by omega))
                  have HS := Lib.hid (show 2 * M.sumL x ≤ M.sumL row + 1 → M.win q (M.conf row x) = true → M.win q (M.conf row (M.sub row x)) = true → M.win p row = true from fun h1 h2 h3 => by
                    have e2 := HP.out
                    subst e2
                    exact (M.win_half hk'.out (by omega)).2 ⟨x, hx, h1, h2, h3⟩)
                  generalize hX1 : M.sumL x = X1 at *
                  generalize hX2 : M.sumL row = X2 at *
                  have HX2 := Lib.hid hX2
                  clear hX1 hX2
                  go_wp2_with fail
                  refine (Hs1.out _ hH).mono ?_
                  rintro e w4 ⟨rfl, rfl⟩
                  go_wp2_with fail
                  refine (Hs2.out _ hH).mono ?_
                  rintro e w4 ⟨rfl, rfl⟩
                  by_cases hd : 2 * X1 ≤ X2 + 1
                  · have dT : decide (2 * X1 ≤ X2 + 1) = true := decide_eq_true hd
                    go_wp2_with fail
                    refine (sAfterYes_c A A' n' c n' c' row x _ (HR.out _ hH) (HO.out _ hH).rd (by omega)).mono ?_
                    rintro e w4 ⟨A4, n4, c4, rfl, ho4, hb4⟩
                    rw [M.yes_ok hx] at ho4
                    have hH4 := hH.below hb4
                    have hc4 := HC.out _ hH4
                    have hl4 := hH.lt
                    go_wp2_with fail
                    refine (HW.held hH4 ho4 hl4 (M.known_conf hx) (by rw [M.length_conf]; exact hL)).mono ?_
                    rintro e w5 ⟨rfl, hH5, -⟩
                    have hc5 := HC.out _ hH5
                    have Hfd := Lib.hid (show ¬ (M.win q (M.conf row x) = true ∧ M.win q (M.conf row (M.sub row x)) = true) → _ from fun h => Hfin.out fun _ => h)
                    have HSd := Lib.hid (HS.out hd)
                    clear Hfin HS
                    cases hw1 : M.win q (M.conf row x) with
                    | false =>
                      go_wp2
                      go_roundg g1
                      case measure => omega
                      case rel => exact ⟨k + 1, by omega, by go_num, hH5, Lib.hid (Hfd.out fun h => by rw [hw1] at h; exact absurd h.1 (by simp))⟩
                    | true =>
                      go_wp2_with fail
                      refine (sAfterNo_c A A' n' c n' c' row x _ (HR.out _ hH5) (HO.out _ hH5).rd (by omega)).mono ?_
                      rintro e w6 ⟨A6, n6, c6, rfl, ho6, hb6⟩
                      rw [M.no_ok hx] at ho6
                      have hH6 := hH5.below hb6
                      have hl6 := hH5.lt
                      go_wp2_with fail
                      refine (HW.held hH6 ho6 hl6 (M.known_conf (M.split_sub hx)) (by rw [M.length_conf]; exact hL)).mono ?_
                      rintro e w7 ⟨rfl, hH7, -⟩
                      cases hw2 : M.win q (M.conf row (M.sub row x)) with
                      | false =>
                        go_wp2
                        go_roundg g1
                        case measure => omega
                        case rel => exact ⟨k + 1, by omega, by go_num, hH7, Lib.hid (Hfd.out fun h => by rw [hw2] at h; exact absurd h.2 (by simp))⟩
                      | true =>
                        have hwp := HSd.out hw1 hw2
                        obtain ⟨hg7, F7, hF7, hI7, hK7⟩ := hH7
                        have hc7 := hF7.cell hpl
                        have hf7 := hF7.free T
                        obtain ⟨hF8, hg8⟩ := hF7.stored T 1
                        obtain ⟨hI8, hK8⟩ := HE2.out F7 hF7.1 hI7 hK7 hwp
                        have Hwp := Lib.hid hwp
                        clear hwp hw1 hw2
                        go_wp2
                        go_ret
                        exact ⟨by rw [Hwp.out]; rfl, ⟨_, hF8, hI8, hK8⟩, grown_trans (grown_trans hgW hg7) hg8⟩
                  · have dF : decide (2 * X1 ≤ X2 + 1) = false := decide_eq_false hd
                    go_wp2
                    go_roundg g1
                    case measure => omega
                    case rel => exact ⟨k + 1, by omega, by go_num, hH, Lib.hid (Hfin.out fun h => absurd h (by omega))⟩
                · obtain rfl : k = N := by omega
                  obtain rfl : gk = 0 := by omega
                  have hwp : M.win p row = false := by
                    have e2 := HP.out
                    subst e2
                    cases e : M.win (q + 1) row with
                    | false => rfl
                    | true =>
                      obtain ⟨x, hx, h1, h2, h3⟩ := (M.win_half hk'.out (by omega)).1 e
                      have hm := (M.mem_split hk'.out).2 hx
                      rw [hL] at hm
                      obtain ⟨j, hj, hjx⟩ := List.getElem_of_mem hm
                      have hjn : M.nthR (M.qs row L) j = x := by unfold M.nthR; rw [List.getElem?_eq_getElem hj, hjx]; rfl
                      have hl := hR3.len
                      have hno := Hf.out j (by omega)
                      rw [hjn] at hno
                      exact absurd (And.intro h2 h3) (hno h1)
                  obtain ⟨hg7, F7, hF7, hI7, hK7⟩ := hH
                  obtain ⟨hI8, hK8⟩ := HE1.out F7 hI7 hK7 hwp
                  have Hwp := Lib.hid hwp
                  clear hwp
                  go_wp2
                  go_ret
                  exact ⟨by rw [Hwp.out]; rfl, ⟨_, hF7, hI8, hK8⟩, grown_trans hgW hg7⟩
            · rw [h1] at hc
              go_wp2
              go_ret
              exact ⟨by rw [hw]; rfl, ⟨F, hF1, hI, fun _ _ _ _ _ => rfl⟩, hg1⟩
            · rw [h1] at hc
              go_wp2
              go_ret
              exact ⟨by rw [hw]; rfl, ⟨F, hF1, hI, fun _ _ _ _ _ => rfl⟩, hg1⟩
      · have hv2 := Lib.hid (hno hv)
        clear hno
        generalize M.wgt row p = V at *
        have d1 : decide ((2 : Int) ^ p < V) = true := decide_eq_true (by omega)
        go_enter Try.func49, Try.ntmps49
        go_wp2_with fail
        refine (l1Sum_c A n c row _ hr hfit).mono ?_
        rintro e w1 ⟨rfl, rfl⟩
        go_wp2_with fail
        go_quiet ((go_at_call 38; exact quiet_m (hcl _)))
        go_wp2
        go_ret
        exact Won.same hF hI ⟨_, rfl⟩ hv2.out

end Go.Proofs.Ytdpbjepjiloeaaa
