/- The contract of the program's reading of a way: as M.pt does. No condition. -/
import Derived.Test.YtdeoigdnhcamjaaPRd
namespace Go.Proofs.Ytdeoigdnhcamjaa
open Go Go.RowKit
open M (nth)

theorem grown_trans2 {a b c : World} {row : Option Nat} (h : a.grownBy b row) (k : b.grownBy c row) : a.grownBy c row := grown_trans h k
/-- expect, whatever is left. -/
theorem expect_c (L n k : Nat) (b : Bool) (r : M.Txt) (w : World) (h : Rdw w L r n b) (hk : 0 < k) (hk2 : k < 256) :
    Calls Try.prog 24 #[.pointer (some ⟨L, 0, none⟩), .int .u8 (k : Int)] w fun e w' => ∃ v r' b', e = .returned v ∧ Rdw w' L r' n b' ∧ r'.length ≤ r.length ∧ w.grownBy w' (some L) ∧
      (b = true → b' = true) ∧ (b' = false → ∃ c, r = c :: r' ∧ c.toNat = k) ∧ (∀ c q, r = c :: q → c.toNat = k → r' = q ∧ b' = b) := by
  cases r with
  | nil =>
    refine (expect0_c L n k b w h hk hk2).mono ?_
    rintro e w' ⟨⟨v, rfl⟩, h1, hg⟩
    exact ⟨v, [], true, rfl, h1, Nat.le_refl _, hg, fun _ => rfl, fun e => (by cases e), fun c q e => (by cases e)⟩
  | cons c q =>
    refine (expect1_c L n k b c q w h).mono ?_
    rintro e w' ⟨⟨v, rfl⟩, h1, hg⟩
    refine ⟨v, q, _, rfl, h1, by simp, hg, fun e => by simp [e], fun e => ?_, fun c' q' e1 e2 => ?_⟩
    · simp at e
      exact ⟨c, rfl, e.1⟩
    · cases e1
      exact ⟨rfl, by simp [e2]⟩

/-- The value leads to a way, whose numbers go up from n on; its nodes lie from block B on. -/
def RepW (w : World) (B : Nat) : Nat → M.Way → Value → Prop
  | _, .nil, v => v = .pointer none
  | n, .node b o, v => ∃ (g : Nat) (vb vo : Value), v = .pointer (some ⟨g, 0, none⟩) ∧ B ≤ g ∧ g < w.heap.size ∧ w.cell? ⟨g, 0, none⟩ = some (.int .i64 ((n + M.sz b : Nat) : Int)) ∧ w.cell? ⟨g, 1, none⟩ = some vb ∧ w.cell? ⟨g, 2, none⟩ = some vo ∧ RepW w B n b vb ∧ RepW w B (n + M.sz b + 1) o vo
theorem RepW.grown {w w' : World} {B L : Nat} (hg : w.grownBy w' (some L)) (hL : L < B) : ∀ {t : M.Way} {n : Nat} {v : Value}, RepW w B n t v → RepW w' B n t v
  | .nil, _, _, h => h
  | .node b o, n, v, ⟨g, vb, vo, e, hB, hlt, c0, c1, c2, h1, h2⟩ => by
    have hb := hg.block g hlt (by simp; omega)
    exact ⟨g, vb, vo, e, hB, Nat.lt_of_lt_of_le hlt hg.size, (World.cell?_of_block (a := ⟨g, 0, none⟩) hb).trans c0, (World.cell?_of_block (a := ⟨g, 1, none⟩) hb).trans c1, (World.cell?_of_block (a := ⟨g, 2, none⟩) hb).trans c2, h1.grown hg hL, h2.grown hg hL⟩

/-- What way does. -/
def Wayd (w : World) (L B f n : Nat) (r : M.Txt) (b : Bool) (e : Ending) (w' : World) : Prop :=
  ∃ (p : Option Addr) (r' : M.Txt) (n' : Nat) (b' : Bool), e = .returned (.pointer p) ∧ Rdw w' L r' n' b' ∧ r'.length ≤ r.length ∧ w.grownBy w' (some L) ∧ n ≤ n' ∧ n' + r'.length ≤ n + r.length ∧ (b = true → b' = true) ∧
    (b = false → ∀ t q, M.pt f n r = some (t, q) → r' = q ∧ n' = n + M.sz t ∧ b' = false ∧ RepW w' B n t (.pointer p)) ∧ (b = false → M.pt f n r = none → b' = true ∨ 9 < n')

set_option maxHeartbeats 1000000 in
theorem way_bad (L B f n : Nat) (r : M.Txt) (w : World) (h : Rdw w L r n true) : Calls Try.prog 20 #[.pointer (some ⟨L, 0, none⟩)] w (Wayd w L B f n r true) := by
  have h0 := h
  obtain ⟨s, hs, hb, hz⟩ := h0
  have c0 : w.cell? ⟨L, 0, none⟩ = some (.string s) := by simp [World.cell?, hb]
  have fin : ∀ (w' : World) (r' : M.Txt), Rdw w' L r' n true → r'.length ≤ r.length → w.grownBy w' (some L) → Wayd w L B f n r true (.returned (.pointer none)) w' := fun w' r' h1 h2 h3 => ⟨none, r', n, true, rfl, h1, h2, h3, Nat.le_refl _, by omega, fun _ => rfl, fun e => (by cases e), fun e => (by cases e)⟩
  have Fin := Lib.hid fin
  clear fin
  cases r with
  | nil =>
    have Hs := Lib.hid hs
    clear hb hs
    go_enter Try.func20, Try.ntmps20
    go_wp2_with fail
    refine (dot0_c s Hs.out _).mono ?_
    rintro e w1 ⟨rfl, rfl⟩
    go_wp2_with fail
    refine (expect_c L n 40 true [] _ h (by omega) (by omega)).mono ?_
    rintro e w1 ⟨v, r', b', rfl, h1, hl, hg, hb', -, -⟩
    obtain rfl := hb' rfl
    have c2 := h1.cell2
    have f2 := h1.free 2
    go_wp2
    go_ret
    exact Fin.out _ r' (h1.bad true) hl (grown_trans hg (rd_grown _ _ _ _))
  | cons c q =>
    have Hs := Lib.hid hs
    clear hb hs
    by_cases hc : c.toNat = 46
    · go_enter Try.func20, Try.ntmps20
      go_wp2_with fail
      refine (dot1_c s c q Hs.out _).mono ?_
      rintro e w1 ⟨rfl, rfl⟩
      rw [decide_eq_true hc]
      go_wp2_with fail
      refine (expect_c L n 46 true (c :: q) _ h (by omega) (by omega)).mono ?_
      rintro e w1 ⟨v, r', b', rfl, h1, hl, hg, hb', -, -⟩
      obtain rfl := hb' rfl
      go_wp2
      go_ret
      exact Fin.out _ r' h1 hl hg
    · go_enter Try.func20, Try.ntmps20
      go_wp2_with fail
      refine (dot1_c s c q Hs.out _).mono ?_
      rintro e w1 ⟨rfl, rfl⟩
      rw [decide_eq_false hc]
      go_wp2_with fail
      refine (expect_c L n 40 true (c :: q) _ h (by omega) (by omega)).mono ?_
      rintro e w1 ⟨v, r', b', rfl, h1, hl, hg, hb', -, -⟩
      obtain rfl := hb' rfl
      have c2 := h1.cell2
      have f2 := h1.free 2
      go_wp2
      go_ret
      exact Fin.out _ r' (h1.bad true) hl (grown_trans hg (rd_grown _ _ _ _))

/-- The end of a node, in plain words. -/
theorem way_end {w' : World} {B f n : Nat} {c : UInt8} {q r1 r2 r3 r4 : M.Txt} {n1 n3 g : Nat} {b1 b2 b3 b4 : Bool} {p1 p3 : Option Addr} (hc : c.toNat = 40)
    (h1 : ∀ t q', M.pt f n q = some (t, q') → r1 = q' ∧ n1 = n + M.sz t ∧ b1 = false ∧ RepW w' B n t (.pointer p1)) (h1' : M.pt f n q = none → b1 = true ∨ 9 < n1)
    (e2 : b1 = true → b2 = true) (e2' : b2 = false → ∃ d, r1 = d :: r2 ∧ d.toNat = 48 + n1 % 10) (e2'' : ∀ d q', r1 = d :: q' → d.toNat = 48 + n1 % 10 → r2 = q' ∧ b2 = b1)
    (h3b : b2 = true → b3 = true) (h3 : b2 = false → ∀ t q', M.pt f (n1 + 1) r2 = some (t, q') → r3 = q' ∧ n3 = n1 + 1 + M.sz t ∧ b3 = false ∧ RepW w' B (n1 + 1) t (.pointer p3)) (h3' : b2 = false → M.pt f (n1 + 1) r2 = none → b3 = true ∨ 9 < n3)
    (hn3 : n1 + 1 ≤ n3) (e4 : b3 = true → b4 = true) (e4' : b4 = false → ∃ d, r3 = d :: r4 ∧ d.toNat = 41) (e4'' : ∀ d q', r3 = d :: q' → d.toNat = 41 → r4 = q' ∧ b4 = b3)
    (hB : B ≤ g) (hg : g < w'.heap.size) (k0 : w'.cell? ⟨g, 0, none⟩ = some (.int .i64 (n1 : Int))) (k1 : w'.cell? ⟨g, 1, none⟩ = some (.pointer p1)) (k2 : w'.cell? ⟨g, 2, none⟩ = some (.pointer p3)) :
    (∀ t q', M.pt (f + 1) n (c :: q) = some (t, q') → r4 = q' ∧ n3 = n + M.sz t ∧ b4 = false ∧ RepW w' B n t (.pointer (some ⟨g, 0, none⟩))) ∧ (M.pt (f + 1) n (c :: q) = none → b4 = true ∨ 9 < n3) := by
  constructor
  · intro t q' h
    obtain ⟨b, o, d, s1, e, rfl, hb, hn, hd, ho, he⟩ := M.pt_node hc h
    obtain ⟨rfl, rfl, rfl, hrb⟩ := h1 _ _ hb
    obtain ⟨rfl, rfl⟩ := e2'' d s1 rfl (by rw [hd]; omega)
    obtain ⟨rfl, rfl, rfl, hro⟩ := h3 rfl _ _ ho
    obtain ⟨rfl, rfl⟩ := e4'' e q' rfl he
    exact ⟨rfl, by simp [M.sz]; omega, rfl, g, _, _, rfl, hB, hg, k0, k1, k2, hrb, hro⟩
  · intro h
    cases hb4 : b4 with
    | true => exact .inl rfl
    | false =>
      by_cases hn9 : 9 < n3
      · exact .inr hn9
      · exfalso
        obtain ⟨e, rfl, he⟩ := e4' hb4
        have hb3 : b3 = false := by
          cases hx : b3 with
          | false => rfl
          | true => rw [e4 hx] at hb4; cases hb4
        have hb2 : b2 = false := by
          cases hx : b2 with
          | false => rfl
          | true => rw [h3b hx] at hb3; cases hb3
        obtain ⟨d, rfl, hd⟩ := e2' hb2
        have hb1 : b1 = false := by
          cases hx : b1 with
          | false => rfl
          | true => rw [e2 hx] at hb2; cases hb2
        cases hp : M.pt f n q with
        | none =>
          rcases h1' hp with e1 | e1
          · rw [hb1] at e1; cases e1
          · omega
        | some y =>
          obtain ⟨b, q1⟩ := y
          obtain ⟨rfl, rfl, -, -⟩ := h1 _ _ hp
          cases hp2 : M.pt f (n + M.sz b + 1) r2 with
          | none =>
            rcases h3' hb2 hp2 with e1 | e1
            · rw [hb3] at e1; cases e1
            · omega
          | some y =>
            obtain ⟨o, q3⟩ := y
            obtain ⟨rfl, -, -, -⟩ := h3 hb2 _ _ hp2
            rw [M.pt_of hc hp (by omega) (by omega) hp2 he] at h
            cases h

set_option maxHeartbeats 4000000 in
theorem way_c (L B : Nat) (hLB : L < B) : ∀ (f n : Nat) (r : M.Txt) (b : Bool) (w : World), r.length < f → n + r.length ≤ 1000 → Rdw w L r n b → B ≤ w.heap.size →
    Calls Try.prog 20 #[.pointer (some ⟨L, 0, none⟩)] w (Wayd w L B f n r b) := by
  intro f
  induction f with
  | zero => intro n r b w hr; omega
  | succ f ih =>
    intro n r b w hr hnr h hB
    cases b with
    | true => exact way_bad L B (f + 1) n r w h
    | false =>
      have Ih := Lib.hid ih
      clear ih
      have h0 := h
      obtain ⟨s, hs, hb, hz⟩ := h0
      have c0 : w.cell? ⟨L, 0, none⟩ = some (.string s) := by simp [World.cell?, hb]
      cases r with
      | nil =>
        have Hs := Lib.hid hs
        clear hb hs
        go_enter Try.func20, Try.ntmps20
        go_wp2_with fail
        refine (dot0_c s Hs.out _).mono ?_
        rintro e w1 ⟨rfl, rfl⟩
        go_wp2_with fail
        refine (expect_c L n 40 false [] _ h (by omega) (by omega)).mono ?_
        rintro e w1 ⟨v, r', b', rfl, h1, hl, hg, -, hb', -⟩
        have hbt : b' = true := by
          cases b' with
          | true => rfl
          | false => obtain ⟨c, e, -⟩ := hb' rfl; cases e
        subst hbt
        have c2 := h1.cell2
        have f2 := h1.free 2
        go_wp2
        go_ret
        exact ⟨none, r', n, true, rfl, h1.bad true, hl, grown_trans hg (rd_grown _ _ _ _), Nat.le_refl _, by omega, fun e => (by cases e), fun _ t q e => (by cases e), fun _ _ => .inl rfl⟩
      | cons c q =>
        have Hs := Lib.hid hs
        clear hb hs
        have hq : q.length < f := by simp at hr; omega
        have hnq : n + q.length + 1 ≤ 1000 := by simp at hnr; omega
        by_cases hc : c.toNat = 46
        · have Hp := Lib.hid (M.pt_dot (f := f) (n := n) (r := q) hc)
          have Hc := Lib.hid hc
          go_enter Try.func20, Try.ntmps20
          go_wp2_with fail
          refine (dot1_c s c q Hs.out _).mono ?_
          rintro e w1 ⟨rfl, rfl⟩
          rw [decide_eq_true hc]
          go_wp2_with fail
          refine (expect_c L n 46 false (c :: q) _ h (by omega) (by omega)).mono ?_
          rintro e w1 ⟨v, r', b', rfl, h1, hl, hg, -, -, hb'⟩
          obtain ⟨rfl, rfl⟩ := hb' c q rfl Hc.out
          go_wp2
          go_ret
          refine ⟨none, r', n, false, rfl, h1, hl, hg, Nat.le_refl _, by omega, fun e => (by cases e), fun _ t q e => ?_, fun _ e => ?_⟩
          · rw [Hp.out] at e
            cases e
            exact ⟨rfl, rfl, rfl, rfl⟩
          · rw [Hp.out] at e; cases e
        · by_cases hc4 : c.toNat = 40
          · have Hc4 := Lib.hid hc4
            go_enter Try.func20, Try.ntmps20
            go_wp2_with fail
            refine (dot1_c s c q Hs.out _).mono ?_
            rintro e w1 ⟨rfl, rfl⟩
            rw [decide_eq_false hc]
            clear hc hc4 c0
            go_wp2_with fail
            refine (expect_c L n 40 false (c :: q) _ h (by omega) (by omega)).mono ?_
            rintro e w1 ⟨v, r', b', rfl, h1, -, hg1, -, -, hb'⟩
            obtain ⟨rfl, rfl⟩ := hb' c q rfl Hc4.out
            clear hb'
            have c1 := h1.cell1
            have c2 := h1.cell2
            have hz1 := hg1.size
            by_cases hn9 : 9 < n
            · have f2 := h1.free 2
              go_wp2
              go_ret
              refine ⟨none, r', n, true, rfl, h1.bad true, by simp, grown_trans hg1 (rd_grown _ _ _ _), Nat.le_refl _, by simp, fun e => (by cases e), fun _ t q e => ?_, fun _ _ => .inl rfl⟩
              obtain ⟨b, o, d, s1, e', -, -, hn, -⟩ := M.pt_node Hc4.out e
              omega
            · go_wp2_with fail
              refine (Ih.out n r' false _ hq (by omega) h1 (by omega)).mono ?_
              rintro e w2 ⟨p1, r1, n1, b1, rfl, h2, hl2, hg2, hn2, hm2, -, hp2, hp2'⟩
              have HP2 := Lib.hid (hp2 rfl)
              have HP2' := Lib.hid (hp2' rfl)
              clear hp2 hp2' h1 c1 c2
              have hz2 := hg2.size
              have c1 := h2.cell1
              have f1 := h2.free 1
              obtain ⟨nn, hnn⟩ : ∃ nn, nn = n1 + 1 := ⟨_, rfl⟩
              have t1 : IntKind.i64.wrap ((n1 : Int) + 1) = (nn : Int) := by rw [IntKind.wrap_i64]; omega
              have h3 := h2.next nn
              have hg3 := rd_grown w2 L 1 (.int .i64 (nn : Int))
              have Hnn := Lib.hid hnn
              obtain ⟨d1, hd1, hd9⟩ : ∃ d1, n1 % 10 = d1 ∧ d1 ≤ 9 := ⟨_, rfl, by omega⟩
              have e1 : Int.tmod (n1 : Int) 10 = (d1 : Int) := by rw [Int.tmod_eq_emod_of_nonneg (by omega)]; omega
              have e1' : (n1 : Int) % 10 = (d1 : Int) := by omega
              obtain ⟨k1, hk1⟩ : ∃ k1, k1 = 48 + d1 := ⟨_, rfl⟩
              have t2 : IntKind.i64.wrap (48 + (d1 : Int)) = (k1 : Int) := by rw [IntKind.wrap_i64]; omega
              have t3 : IntKind.u8.wrap (k1 : Int) = (k1 : Int) := by rw [IntKind.wrap_u8]; omega
              have Hk1 := Lib.hid (show k1 = 48 + n1 % 10 by rw [hd1]; exact hk1)
              have hk57 : 0 < k1 ∧ k1 < 256 := by omega
              clear hnn hd1 hk1
              go_wp2_with fail
              generalize w2.setCell ⟨L, 1, none⟩ (.int .i64 (nn : Int)) = w3 at *
              clear h2 c1 f1
              have hz3 := hg3.size
              refine (expect_c L nn k1 b1 r1 _ h3 hk57.1 hk57.2).mono ?_
              rintro e w4 ⟨v4, r2, b2, rfl, h4, hl4, hg4, x1, x2, x3⟩
              have X1 := Lib.hid x1
              have X2 := Lib.hid x2
              have X3 := Lib.hid x3
              clear x1 x2 x3 h3
              have hz4 := hg4.size
              go_wp2_with fail
              refine (Ih.out nn r2 b2 _ (by omega) (by have := Hnn.out; omega) h4 (by omega)).mono ?_
              rintro e w5 ⟨p3, r3, n3, b3, rfl, h5, hl5, hg5, hn5, hm5, y1, y2, y3⟩
              have Y1 := Lib.hid y1
              have Y2 := Lib.hid y2
              have Y3 := Lib.hid y3
              clear y1 y2 y3 h4
              have hz5 := hg5.size
              go_wp2_with fail
              refine (expect_c L n3 41 b3 r3 _ h5 (by omega) (by omega)).mono ?_
              rintro e w6 ⟨v6, r4, b4, rfl, h6, hl6, hg6, z1, z2, z3⟩
              have Z1 := Lib.hid z1
              have Z2 := Lib.hid z2
              have Z3 := Lib.hid z3
              clear z1 z2 z3 h5
              have hz6 := hg6.size
              go_wp2
              go_ret
              have hg7 : w6.grownBy (w6.alloc (.cells #[.int .i64 (n1 : Int), .pointer p1, .pointer p3] 39)) (some L) := World.grownBy_alloc _ _ _
              have k0 : (w6.alloc (.cells #[.int .i64 (n1 : Int), .pointer p1, .pointer p3] 39)).cell? ⟨w6.heap.size, 0, none⟩ = some (.int .i64 (n1 : Int)) := by rw [World.cell?_alloc_at _ _ _ _ rfl]; rfl
              have k1' : (w6.alloc (.cells #[.int .i64 (n1 : Int), .pointer p1, .pointer p3] 39)).cell? ⟨w6.heap.size, 1, none⟩ = some (.pointer p1) := by rw [World.cell?_alloc_at _ _ _ _ rfl]; rfl
              have k2' : (w6.alloc (.cells #[.int .i64 (n1 : Int), .pointer p1, .pointer p3] 39)).cell? ⟨w6.heap.size, 2, none⟩ = some (.pointer p3) := by rw [World.cell?_alloc_at _ _ _ _ rfl]; rfl
              have hnn := Hnn.out
              have hk1 := Hk1.out
              subst hnn
              obtain ⟨q1, q2⟩ := way_end (w' := w6.alloc (.cells #[.int .i64 (n1 : Int), .pointer p1, .pointer p3] 39)) (B := B) (f := f) (n := n) (g := w6.heap.size) Hc4.out
                (fun t q' e => by obtain ⟨a1, a2, a3, a4⟩ := HP2.out t q' e; exact ⟨a1, a2, a3, ((((a4.grown hg3 hLB).grown hg4 hLB).grown hg5 hLB).grown hg6 hLB).grown hg7 hLB⟩)
                HP2'.out X1.out (by rw [← hk1]; exact X2.out) (by rw [← hk1]; exact X3.out) Y1.out
                (fun e t q' e' => by obtain ⟨a1, a2, a3, a4⟩ := Y2.out e t q' e'; exact ⟨a1, a2, a3, (a4.grown hg6 hLB).grown hg7 hLB⟩) Y3.out hn5 Z1.out Z2.out Z3.out (by omega) (by simp) k0 k1' k2'
              exact ⟨some ⟨w6.heap.size, 0, none⟩, r4, n3, b4, rfl, h6.alloc _, by simp; omega, grown_trans (grown_trans (grown_trans (grown_trans (grown_trans (grown_trans hg1 hg2) hg3) hg4) hg5) hg6) hg7, by omega, by simp; omega, fun e => (by cases e), fun _ => q1, fun _ => q2⟩
          · have Hp := Lib.hid (M.pt_other (f := f) (n := n) (r := q) hc hc4)
            have Hc4 := Lib.hid hc4
            go_enter Try.func20, Try.ntmps20
            go_wp2_with fail
            refine (dot1_c s c q Hs.out _).mono ?_
            rintro e w1 ⟨rfl, rfl⟩
            rw [decide_eq_false hc]
            go_wp2_with fail
            refine (expect_c L n 40 false (c :: q) _ h (by omega) (by omega)).mono ?_
            rintro e w1 ⟨v, r', b', rfl, h1, hl, hg, -, hb', -⟩
            have hbt : b' = true := by
              cases b' with
              | true => rfl
              | false =>
                obtain ⟨c', e, e2⟩ := hb' rfl
                cases e
                exact absurd e2 Hc4.out
            subst hbt
            have c2 := h1.cell2
            have f2 := h1.free 2
            go_wp2
            go_ret
            refine ⟨none, r', n, true, rfl, h1.bad true, hl, grown_trans hg (rd_grown _ _ _ _), Nat.le_refl _, by omega, fun e => (by cases e), fun _ t q e => ?_, fun _ _ => .inl rfl⟩
            rw [Hp.out] at e
            cases e

end Go.Proofs.Ytdeoigdnhcamjaa
