/- The contract of hear: the program reads sayings as M.ps does. No condition. -/
import Derived.Test.YtbhpponandmgnaaHear
namespace Go.Proofs.Ytbhpponandmgnaa
open Go Go.RowKit
open M (nth)

theorem grown_any {a b : World} (row : Option Nat) (h : a.grownBy b none) : a.grownBy b row := ⟨h.os, h.tape, h.output, h.size, fun k hk _ => h.block k hk (by simp)⟩
/-- What hear does. -/
def Hears (w : World) (L B p f : Nat) (r : M.Txt) (e : Ending) (w' : World) : Prop :=
  ∃ v r', e = .returned v ∧ Lis w' L p r' ∧ r'.length ≤ r.length ∧ w.grownBy w' (some L) ∧ Heard w' B ((M.ps p f r).map (·.1)) v ∧ ∀ a q, M.ps p f r = some (a, q) → r' = q
theorem hears_nil {w w' : World} {L B p f : Nat} {r r' : M.Txt} (hl : Lis w' L p r') (hr : r'.length ≤ r.length) (hg : w.grownBy w' (some L)) (h : M.ps p f r = none) : Hears w L B p f r (.returned .nilFunc) w' :=
  ⟨_, r', rfl, hl, hr, hg, by rw [h]; rfl, fun a q e => by rw [h] at e; cases e⟩
theorem hears_say {w w' : World} {L B p f : Nat} {r q : M.Txt} {a : M.Say} {v : Value} (hl : Lis w' L p q) (hr : q.length ≤ r.length) (hg : w.grownBy w' (some L)) (h : M.ps p f r = some (a, q)) (hv : Rep w' B a v) : Hears w L B p f r (.returned v) w' :=
  ⟨_, q, rfl, hl, hr, hg, by rw [h]; exact hv, fun a' q' e => by rw [h] at e; cases e; rfl⟩

namespace M
theorem ps_who {p f : Nat} {c : UInt8} {q : Txt} (h : 48 ≤ c.toNat ∧ c.toNat - 48 < p) : ps p (f + 1) (c :: q) = some (.who (c.toNat - 48), q) := by
  simp only [ps]; rw [if_pos h]
theorem ps_bang {p f : Nat} {c : UInt8} {q : Txt} (h : c.toNat = 33) : ps p (f + 1) (c :: q) = (ps p f q).map fun x => (.not x.1, x.2) := by
  simp only [ps]; rw [if_neg (by omega), if_pos h]
theorem ps_hash0 {p f : Nat} {c : UInt8} (h : c.toNat = 35) : ps p (f + 1) [c] = none := by
  simp only [ps]; rw [if_neg (by omega), if_neg (by omega), if_pos h]
theorem ps_hash {p f : Nat} {c d : UInt8} {q : Txt} (h : c.toNat = 35) : ps p (f + 1) (c :: d :: q) = if 48 ≤ d.toNat ∧ d.toNat ≤ 53 then some (.cnt (d.toNat - 48), q) else none := by
  simp only [ps]; rw [if_neg (by omega), if_neg (by omega), if_pos h]
theorem ps_open {p f : Nat} {c : UInt8} {q : Txt} (h : c.toNat = 40) : ps p (f + 1) (c :: q) = match ps p f q with
      | some (a, m :: r1) => rest2 m a (ps p f r1)
      | _ => none := by
  simp only [ps]; rw [if_neg (by omega), if_neg (by omega), if_neg (by omega), if_pos h]; rfl
theorem ps_else {p f : Nat} {c : UInt8} {q : Txt} (h0 : ¬ (48 ≤ c.toNat ∧ c.toNat - 48 < p)) (h1 : ¬ c.toNat = 33) (h2 : ¬ c.toNat = 35) (h3 : ¬ c.toNat = 40) : ps p (f + 1) (c :: q) = none := by
  simp only [ps]; rw [if_neg h0, if_neg h1, if_neg h2, if_neg h3]
theorem ps_open0 {p f : Nat} {c : UInt8} {q : Txt} (h : c.toNat = 40) (hq : ps p f q = none) : ps p (f + 1) (c :: q) = none := by rw [ps_open h, hq]
theorem ps_open1 {p f : Nat} {c : UInt8} {q : Txt} {a : Say} (h : c.toNat = 40) (hq : ps p f q = some (a, [])) : ps p (f + 1) (c :: q) = none := by rw [ps_open h, hq]
theorem ps_open2 {p f : Nat} {c m : UInt8} {q r1 : Txt} {a : Say} (h : c.toNat = 40) (hq : ps p f q = some (a, m :: r1)) : ps p (f + 1) (c :: q) = rest2 m a (ps p f r1) := by rw [ps_open h, hq]
end M

theorem neq_nil (W : World) : (binOp .neq 42 .nilFunc .nilFunc).run Try.prog W = .ok (.bool false) W := by kernel_rfl
theorem neq_func (N : FuncId) (caps : Array Value) (W : World) : (binOp .neq 42 (.func (.func N) #[] caps) .nilFunc).run Try.prog W = .ok (.bool true) W := by kernel_rfl
/-- take, of whatever text. -/
theorem take_c (L : Nat) (p : Int) (r : M.Txt) (w : World) (h : Lis w L p r) :
    Calls Try.prog 38 #[.pointer (some ⟨L, 0, none⟩)] w fun e w' => ∃ (c : UInt8) (r' : M.Txt), e = .returned (.int .u8 (c.toNat : Nat)) ∧ Lis w' L p r' ∧ r'.length ≤ r.length ∧ w.grownBy w' (some L) := by
  cases r with
  | nil =>
    refine (take0_c L p w h).mono ?_
    rintro e w' ⟨rfl, rfl⟩
    exact ⟨0, [], rfl, h, Nat.le_refl _, World.grownBy.refl _ _⟩
  | cons c q =>
    refine (take1_c L p c q w h).mono ?_
    rintro e w' ⟨rfl, hl, hg⟩
    exact ⟨c, q, rfl, hl, by simp, hg⟩

set_option maxHeartbeats 4000000 in
theorem hear_c (L B p : Nat) (hLB : L < B) (hp1 : 1 ≤ p) (hp5 : p ≤ 5) : ∀ (f : Nat) (r : M.Txt) (w : World), r.length < f → Lis w L p r → B ≤ w.heap.size →
    Calls Try.prog 34 #[.pointer (some ⟨L, 0, none⟩)] w (Hears w L B p f r) := by
  intro f
  induction f with
  | zero => intro r w hr; omega
  | succ f ih =>
    intro r w hr hl hB
    have Ih := Lib.hid ih
    clear ih
    have nq0 := neq_nil
    have nq1 := neq_func
    cases r with
    | nil =>
      go_enter Try.func34, Try.ntmps34
      go_wp2_with fail
      refine (take0_c L p _ hl).mono ?_
      rintro e w1 ⟨rfl, rfl⟩
      go_wp2
      go_ret
      exact hears_nil hl (Nat.le_refl _) (World.grownBy.refl _ _) rfl
    | cons c q =>
      have hq : q.length < f := by simp at hr; omega
      have hx : c.toNat < 256 := c.toNat_lt
      go_enter Try.func34, Try.ntmps34
      go_wp2_with fail
      refine (take1_c L p c q _ hl).mono ?_
      rintro e w1 ⟨rfl, hl1, hg1⟩
      have hz1 := hg1.size
      have cp := hl1.cell0
      have hL1 := hl1.lt
      by_cases hA : 48 ≤ c.toNat ∧ c.toNat - 48 < p
      · have Hs := Lib.hid (M.ps_who (f := f) (q := q) hA)
        obtain ⟨hA1, hA2⟩ := hA
        have t1 : IntKind.u8.wrap (((c.toNat : Nat) : Int) - 48) = ((c.toNat - 48 : Nat) : Int) := by rw [IntKind.wrap_u8]; omega
        have t2 : IntKind.i64.wrap ((c.toNat - 48 : Nat) : Int) = ((c.toNat - 48 : Nat) : Int) := by rw [IntKind.wrap_i64]; omega
        have d1 : decide ((48 : Int) ≤ ((c.toNat : Nat) : Int)) = true := decide_eq_true (by omega)
        have d2 : decide (((c.toNat - 48 : Nat) : Int) < (p : Int)) = true := decide_eq_true (by omega)
        generalize c.toNat - 48 = y at *
        generalize c.toNat = x at *
        go_wp2
        go_ret
        refine hears_say (hl1.alloc _) (by simp) (grown_trans hg1 (World.grownBy_alloc _ _ _)) Hs.out ⟨_, rfl, by omega, by rw [World.cell?_alloc_at _ _ _ _ rfl]; rfl, by omega⟩
      · have dA : (decide ((48 : Int) ≤ ((c.toNat : Nat) : Int)) = false) ∨ (decide ((48 : Int) ≤ ((c.toNat : Nat) : Int)) = true ∧ decide (IntKind.i64.wrap (IntKind.u8.wrap (((c.toNat : Nat) : Int) - 48)) < (p : Int)) = false) := by
          by_cases h : 48 ≤ c.toNat
          · refine .inr ⟨decide_eq_true (by omega), decide_eq_false ?_⟩
            rw [IntKind.wrap_u8, IntKind.wrap_i64]
            omega
          · exact .inl (decide_eq_false (by omega))
        by_cases hx33 : c.toNat = 33
        · have Hs := Lib.hid (M.ps_bang (p := p) (f := f) (q := q) hx33)
          rw [hx33]
          clear hx33 dA hA
          go_wp2_with fail
          refine (Ih.out q w1 hq hl1 (by omega)).mono ?_
          rintro e w2 ⟨v, r', rfl, hl2, hr2, hg2, hv, hr'⟩
          cases hp : M.ps p f q with
          | none =>
            rw [hp] at Hs hv
            obtain rfl : v = .nilFunc := hv
            go_wp2
            go_ret
            exact hears_nil (hl2.alloc _) (by simp; omega) (grown_trans (grown_trans hg1 hg2) (World.grownBy_alloc _ _ _)) Hs.out
          | some y =>
            obtain ⟨a, q'⟩ := y
            rw [hp] at Hs hv
            obtain rfl := hr' a q' hp
            have hv' : Rep w2 B a v := hv
            obtain ⟨N, caps, rfl⟩ := hv'.func
            have hz2 := hg2.size
            go_wp2
            go_ret
            refine hears_say (hl2.alloc _) (by simp; omega) (grown_trans (grown_trans hg1 hg2) (World.grownBy_alloc _ _ _)) Hs.out ⟨_, _, rfl, by omega, by rw [World.cell?_alloc_at _ _ _ _ rfl]; rfl, hv'.grown (World.grownBy_alloc _ _ none) (fun r e => by cases e)⟩
        · by_cases hx35 : c.toNat = 35
          · cases q with
            | nil =>
              have Hs := Lib.hid (M.ps_hash0 (p := p) (f := f) hx35)
              rw [hx35]
              clear hx35 dA hA hx33
              go_wp2_with fail
              refine (take0_c L p _ hl1).mono ?_
              rintro e w' ⟨rfl, rfl⟩
              go_wp2
              go_ret
              exact hears_nil (hl1.alloc _) (by simp) (grown_trans hg1 (World.grownBy_alloc _ _ _)) Hs.out
            | cons d q' =>
              have Hs := Lib.hid (M.ps_hash (p := p) (f := f) (d := d) (q := q') hx35)
              have hd : d.toNat < 256 := d.toNat_lt
              rw [hx35]
              clear hx35 dA hA hx33
              go_wp2_with fail
              refine (take1_c L p d q' _ hl1).mono ?_
              rintro e w2 ⟨rfl, hl2, hg2⟩
              have hz2 := hg2.size
              by_cases h1 : 48 ≤ d.toNat
              · have d1 : decide ((48 : Int) ≤ ((d.toNat : Nat) : Int)) = true := decide_eq_true (by omega)
                by_cases h2 : d.toNat ≤ 53
                · have d2 : decide (((d.toNat : Nat) : Int) ≤ (53 : Int)) = true := decide_eq_true (by omega)
                  rw [if_pos ⟨h1, h2⟩] at Hs
                  obtain ⟨y, hy⟩ : ∃ y, d.toNat = 48 + y := ⟨d.toNat - 48, by omega⟩
                  have Hy := Lib.hid hy
                  have Hs2 := Lib.hid (show M.ps p (f + 1) (c :: d :: q') = some (.cnt y, q') by rw [Hs.out, hy]; simp)
                  have hy5 : y ≤ 5 := by omega
                  clear hy
                  generalize d.toNat = x at *
                  go_wp2
                  go_ret
                  exact hears_say (hl2.alloc _) (by simp; omega) (grown_trans (grown_trans hg1 hg2) (World.grownBy_alloc _ _ _)) Hs2.out ⟨_, rfl, by omega, by rw [World.cell?_alloc_at _ _ _ _ rfl, ← Hy.out]; rfl, hy5⟩
                · have d2 : decide (((d.toNat : Nat) : Int) ≤ (53 : Int)) = false := decide_eq_false (by omega)
                  rw [if_neg (by omega)] at Hs
                  clear h1 h2
                  generalize d.toNat = x at *
                  go_wp2
                  go_ret
                  exact hears_nil (hl2.alloc _) (by simp; omega) (grown_trans (grown_trans hg1 hg2) (World.grownBy_alloc _ _ _)) Hs.out
              · have d1 : decide ((48 : Int) ≤ ((d.toNat : Nat) : Int)) = false := decide_eq_false (by omega)
                rw [if_neg (by omega)] at Hs
                clear h1
                generalize d.toNat = x at *
                go_wp2
                go_ret
                exact hears_nil (hl2.alloc _) (by simp; omega) (grown_trans (grown_trans hg1 hg2) (World.grownBy_alloc _ _ _)) Hs.out
          · by_cases hx40 : c.toNat = 40
            · cases hp : M.ps p f q with
              | none =>
                have Hs := Lib.hid (M.ps_open0 hx40 hp)
                rw [hx40]
                clear hx40 hx35 dA hA hx33
                go_wp2_with fail
                refine (Ih.out q w1 hq hl1 (by omega)).mono ?_
                rintro e w2 ⟨v, r', rfl, hl2, hr2, hg2, hv, -⟩
                rw [hp] at hv
                obtain rfl : v = .nilFunc := hv
                have hz2 := hg2.size
                go_wp2_with fail
                refine (take_c L p r' _ hl2).mono ?_
                rintro e w3 ⟨m, r3, rfl, hl3, hr3, hg3⟩
                have hz3 := hg3.size
                go_wp2_with fail
                refine (Ih.out r3 w3 (by omega) hl3 (by omega)).mono ?_
                rintro e w4 ⟨v4, r4, rfl, hl4, hr4, hg4, -, -⟩
                go_wp2
                go_ret
                exact hears_nil hl4 (by simp; omega) (grown_trans (grown_trans (grown_trans hg1 hg2) hg3) hg4) Hs.out
              | some y =>
                obtain ⟨a, r1⟩ := y
                cases r1 with
                | nil =>
                  have Hs := Lib.hid (M.ps_open1 hx40 hp)
                  have Hn := Lib.hid (M.ps_nil p f)
                  rw [hx40]
                  clear hx40 hx35 dA hA hx33
                  go_wp2_with fail
                  refine (Ih.out q w1 hq hl1 (by omega)).mono ?_
                  rintro e w2 ⟨v, r', rfl, hl2, hr2, hg2, hv, hr'⟩
                  rw [hp] at hv
                  obtain rfl := hr' a [] hp
                  have hv' : Rep w2 B a v := hv
                  obtain ⟨N, caps, rfl⟩ := hv'.func
                  have hz2 := hg2.size
                  go_wp2_with fail
                  refine (take0_c L p _ hl2).mono ?_
                  rintro e w' ⟨rfl, rfl⟩
                  go_wp2_with fail
                  refine (Ih.out [] w2 (by simp; omega) hl2 (by omega)).mono ?_
                  rintro e w4 ⟨v4, r4, rfl, hl4, hr4, hg4, hv4, -⟩
                  rw [Hn.out] at hv4
                  obtain rfl : v4 = .nilFunc := hv4
                  go_wp2
                  go_ret
                  exact hears_nil hl4 (by have h0 : r4.length ≤ 0 := hr4; omega) (grown_trans (grown_trans hg1 hg2) hg4) Hs.out
                | cons m r1 =>
                  have Hs := Lib.hid (M.ps_open2 hx40 hp)
                  have hsh := M.ps_short p f _ _ _ hp
                  simp at hsh
                  rw [hx40]
                  clear hx40 hx35 dA hA hx33
                  go_wp2_with fail
                  refine (Ih.out q w1 hq hl1 (by omega)).mono ?_
                  rintro e w2 ⟨v, r', rfl, hl2, hr2, hg2, hv, hr'⟩
                  rw [hp] at hv
                  obtain rfl := hr' a (m :: r1) hp
                  have hv' : Rep w2 B a v := hv
                  obtain ⟨N, caps, rfl⟩ := hv'.func
                  have hz2 := hg2.size
                  go_wp2_with fail
                  refine (take1_c L p m r1 _ hl2).mono ?_
                  rintro e w3 ⟨rfl, hl3, hg3⟩
                  have hz3 := hg3.size
                  go_wp2_with fail
                  refine (Ih.out r1 w3 (by omega) hl3 (by omega)).mono ?_
                  rintro e w4 ⟨v4, r4, rfl, hl4, hr4, hg4, hv4, hr4'⟩
                  have hz4 := hg4.size
                  have hg04 := grown_trans (grown_trans (grown_trans hg1 hg2) hg3) hg4
                  cases hp2 : M.ps p f r1 with
                  | none =>
                    rw [hp2] at hv4 Hs
                    obtain rfl : v4 = .nilFunc := hv4
                    go_wp2
                    go_ret
                    exact hears_nil hl4 (by simp; omega) hg04 Hs.out
                  | some y2 =>
                    obtain ⟨b, r2⟩ := y2
                    rw [hp2] at hv4 Hs
                    obtain rfl := hr4' b r2 hp2
                    have hv4' : Rep w4 B b v4 := hv4
                    obtain ⟨N4, caps4, rfl⟩ := hv4'.func
                    cases r4 with
                    | nil =>
                      go_wp2_with fail
                      refine (take0_c L p _ hl4).mono ?_
                      rintro e w' ⟨rfl, rfl⟩
                      go_wp2
                      go_ret
                      exact hears_nil hl4 (by simp) hg04 Hs.out
                    | cons z r5 =>
                      go_wp2_with fail
                      refine (take1_c L p z r5 _ hl4).mono ?_
                      rintro e w5 ⟨rfl, hl5, hg5⟩
                      have hz5 := hg5.size
                      by_cases hz41 : z.toNat = 41
                      · rw [hz41]
                        have hva := (hv'.grown (grown_trans (grown_trans hg3 hg4) hg5) (fun r e => by cases e; omega))
                        have hvb := hv4'.grown hg5 (fun r e => by cases e; omega)
                        go_wp2_with fail
                        refine (joint_c m a b _ _ B _ hva hvb (by omega)).mono ?_
                        rintro e w6 ⟨⟨v6, rfl, hv6⟩, hg6⟩
                        have hl6 := hl5.keep (hg6.block L hl5.lt (by simp))
                        have hgall := grown_trans (grown_trans hg04 hg5) (grown_any (some L) hg6)
                        go_wp2
                        go_ret
                        simp at hr4
                        cases hj : M.joint m a b with
                        | none =>
                          rw [hj] at hv6
                          obtain rfl : v6 = .nilFunc := hv6
                          exact hears_nil hl6 (by simp; omega) hgall (by rw [Hs.out]; simp [M.rest2, hz41, hj])
                        | some s =>
                          rw [hj] at hv6
                          exact hears_say hl6 (by simp; omega) hgall (by rw [Hs.out]; simp [M.rest2, hz41, hj]) hv6
                      · have hz41' : (((z.toNat : Nat) : Int) == 41) = false := by simp; omega
                        have Hz := Lib.hid (show M.rest2 m a (some (b, z :: r5)) = none by simp [M.rest2, hz41])
                        rw [Hz.out] at Hs
                        clear hz41 Hz
                        go_wp2
                        go_ret
                        simp at hr4
                        exact hears_nil hl5 (by simp; omega) (grown_trans hg04 hg5) Hs.out
            · have Hs := Lib.hid (M.ps_else (f := f) (q := q) hA hx33 hx35 hx40)
              have e1 : (((c.toNat : Nat) : Int) == 33) = false := by simp; omega
              have e2 : (((c.toNat : Nat) : Int) == 35) = false := by simp; omega
              have e3 : (((c.toNat : Nat) : Int) == 40) = false := by simp; omega
              clear hx33 hx35 hx40 dA
              by_cases h48 : 48 ≤ c.toNat
              · have t1 : IntKind.u8.wrap (((c.toNat : Nat) : Int) - 48) = ((c.toNat - 48 : Nat) : Int) := by rw [IntKind.wrap_u8]; omega
                have t2 : IntKind.i64.wrap ((c.toNat - 48 : Nat) : Int) = ((c.toNat - 48 : Nat) : Int) := by rw [IntKind.wrap_i64]; omega
                have d1 : decide ((48 : Int) ≤ ((c.toNat : Nat) : Int)) = true := decide_eq_true (by omega)
                have d2 : decide (c.toNat - 48 < p) = false := decide_eq_false (by omega)
                clear hA
                generalize c.toNat - 48 = y at *
                generalize c.toNat = x at *
                go_wp2
                go_ret
                exact hears_nil hl1 (by simp) hg1 Hs.out
              · have d1 : decide ((48 : Int) ≤ ((c.toNat : Nat) : Int)) = false := decide_eq_false (by omega)
                clear hA
                generalize c.toNat = x at *
                go_wp2
                go_ret
                exact hears_nil hl1 (by simp) hg1 Hs.out

end Go.Proofs.Ytbhpponandmgnaa
