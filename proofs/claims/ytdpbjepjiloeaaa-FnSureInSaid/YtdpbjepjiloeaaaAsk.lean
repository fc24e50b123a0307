/- The walk of the choice of a question, number by number. No condition. -/
import Derived.Test.YtdpbjepjiloeaaaSure
import Derived.Deep.RegionHeld3
namespace Go.Proofs.Ytdpbjepjiloeaaa
open Go Go.RowKit
open M (nth)

theorem put_lit2 (l : List Value) (d : List Deferred) (i : Nat) (v : Value) : Act.put ⟨l.toArray, d⟩ (some i) v = ⟨(l.set i v).toArray, d⟩ := by simp [Act.put]
theorem with_hQ2 {P : Program} {md : Region.Mode} {ops : Array Oper} {Q : Exit → Act → World → Prop} {S : World → Prop} {fuel : Nat} {listed : Array Bool} {a : Act} {w : World}
    (hQ : ∀ (c : List PanicEntry) (a : Act) (d : Nat) (v : Value) (w : World), Q (.panic c) (a.put (some d) v) w → Q (.panic c) a w) (h : (∀ (c : List PanicEntry) (a : Act) (d : Nat) (v : Value) (w : World), Q (.panic c) (a.put (some d) v) w → Q (.panic c) a w) → wpAnyH P md ops Q S fuel listed a w) : wpAnyH P md ops Q S fuel listed a w := h hQ

theorem orc_ne {w : World} {B L b : Nat} {A : Option Addr} {n c : Nat} {xs : List Int} (h : Orc w B L) (ho : OwnI w b A n c xs) : (Value.slice A n c).ownBlock = none ∨ (Value.slice A n c).ownBlock ≠ some B := by
  obtain ⟨D, ⟨es, clock, hb, -⟩, -⟩ := h
  rcases ho.2.2 with ⟨e, _⟩ | ⟨g, cap, cur, e, _, hg, _⟩
  · injection e with e1 _ _; subst e1; exact .inl rfl
  · injection e with e1 _ _; subst e1
    refine .inr fun e4 => ?_
    obtain rfl : g = B := by simpa [Value.ownBlock] using e4
    rw [hb] at hg
    simp at hg

/-- The captured variables: the row, the map, the question, how many are left, the choice itself. -/
def caps (N : Nat) : Array Value := #[.pointer (some ⟨N + 1, 0, none⟩), .pointer (some ⟨N, 0, none⟩), .pointer (some ⟨N + 5, 0, none⟩), .pointer (some ⟨N + 2, 0, none⟩), .pointer (some ⟨N + 6, 0, none⟩)]
/-- The world of the choice, the question being x. -/
structure Asks (w : World) (N B L : Nat) (A : Option Addr) (c bR : Nat) (row : List Int) (p : Nat) (W : World) (x : List Int) : Prop where
  grown : w.grownBy W (some B)
  base : w.heap.size = N
  lt : B < N
  size : N + 7 ≤ W.heap.size
  c0 : W.cell? ⟨N, 0, none⟩ = some (.map (some B))
  c1 : W.cell? ⟨N + 1, 0, none⟩ = some (.slice A L c)
  c2 : W.cell? ⟨N + 2, 0, none⟩ = some (.int .i64 (p : Int))
  s0 : W.cell? ⟨N + 3, 0, none⟩ = some (.int .i64 (nth row 0))
  s1 : W.cell? ⟨N + 3, 1, none⟩ = some (.int .i64 (nth row 1))
  s2 : W.cell? ⟨N + 3, 2, none⟩ = some (.int .i64 (nth row 2))
  s3 : W.cell? ⟨N + 3, 3, none⟩ = some (.int .i64 (p : Int))
  c5 : W.cell? ⟨N + 5, 0, none⟩ = some (.slice (some ⟨N + 4, 0, none⟩) L L)
  c6 : W.cell? ⟨N + 6, 0, none⟩ = some (.func (.func 62) #[] (caps N))
  row : OwnI W bR A L c row
  low : ∀ ad, A = some ad → ad.block < N
  que : OwnI W (N + 4) (some ⟨N + 4, 0, none⟩) L L x
  orc : Orc W B L
theorem Asks.turn {w : World} {N B L : Nat} {A : Option Addr} {c bR : Nat} {row : List Int} {p : Nat} {W W' : World} {x : List Int} (h : Asks w N B L A c bR row p W x) (hg : W.grownBy W' (some B)) (ho : Orc W' B L) : Asks w N B L A c bR row p W' x := by
  have hk : ∀ (k j : Nat) (v : Value), N ≤ k → W.cell? ⟨k, j, none⟩ = some v → W'.cell? ⟨k, j, none⟩ = some v := fun k j v hk hc => by
    have hlt := World.block_lt_of_cell? _ _ hc
    rw [World.cell?_of_block (hg.block k hlt (by have := h.lt; simp; omega))]
    exact hc
  exact { grown := grown_trans h.grown hg, base := h.base, lt := h.lt, size := Nat.le_trans h.size hg.size, c0 := hk _ _ _ (Nat.le_refl _) h.c0, c1 := hk _ _ _ (by omega) h.c1, c2 := hk _ _ _ (by omega) h.c2, s0 := hk _ _ _ (by omega) h.s0, s1 := hk _ _ _ (by omega) h.s1, s2 := hk _ _ _ (by omega) h.s2, s3 := hk _ _ _ (by omega) h.s3, c5 := hk _ _ _ (by omega) h.c5, c6 := hk _ _ _ (by omega) h.c6, row := h.row.kept hg (orc_ne h.orc h.row), low := h.low, que := h.que.kept hg (orc_ne h.orc h.que), orc := ho }
theorem Asks.below {w : World} {N B L : Nat} {A : Option Addr} {c bR : Nat} {row : List Int} {p : Nat} {W W' : World} {x : List Int} (h : Asks w N B L A c bR row p W x) (hb : Below W.heap.size W W') : Asks w N B L A c bR row p W' x :=
  h.turn (grown_below hb) (h.orc.below hb)
theorem Asks.put {w : World} {N B L : Nat} {A : Option Addr} {c bR : Nat} {row : List Int} {p : Nat} {W : World} {x : List Int} (h : Asks w N B L A c bR row p W x) (k : Nat) (v : Int) : Asks w N B L A c bR row p (W.setCell ⟨N + 4, k, none⟩ (.int .i64 v)) (x.set k v) := by
  obtain ⟨hq, hg⟩ := h.que.stored k v
  have hk : ∀ (k j : Nat) (v : Value), k ≠ N + 4 → W.cell? ⟨k, j, none⟩ = some v → (W.setCell ⟨N + 4, _, none⟩ _).cell? ⟨k, j, none⟩ = some v := fun k j v hk hc => by
    have hlt := World.block_lt_of_cell? _ _ hc
    rw [World.cell?_of_block (hg.block k hlt (by simp; exact hk))]
    exact hc
  have hlt := h.lt
  have hb := h.base
  exact { grown := h.grown.andThen hg (fun j e => by cases e; left; omega), base := h.base, lt := h.lt, size := Nat.le_trans h.size hg.size, c0 := hk _ _ _ (by omega) h.c0, c1 := hk _ _ _ (by omega) h.c1, c2 := hk _ _ _ (by omega) h.c2, s0 := hk _ _ _ (by omega) h.s0, s1 := hk _ _ _ (by omega) h.s1, s2 := hk _ _ _ (by omega) h.s2, s3 := hk _ _ _ (by omega) h.s3, c5 := hk _ _ _ (by omega) h.c5, c6 := hk _ _ _ (by omega) h.c6, row := h.row.kept hg (by
      cases A with
      | none => exact .inl rfl
      | some ad => have := h.low ad rfl; exact .inr (by simp [Value.ownBlock]; omega)), low := h.low, que := hq, orc := h.orc.kept hg (by simp; omega) }

theorem Asks.cells {w : World} {N B L : Nat} {A : Option Addr} {c bR : Nat} {row : List Int} {p : Nat} {W : World} {x : List Int} (h : Asks w N B L A c bR row p W x) :
    Asks w N B L A c bR row p W x ∧ W.cell? ⟨N, 0, none⟩ = some (.map (some B)) ∧ W.cell? ⟨N + 1, 0, none⟩ = some (.slice A L c) ∧ W.cell? ⟨N + 2, 0, none⟩ = some (.int .i64 (p : Int)) ∧ W.cell? ⟨N + 5, 0, none⟩ = some (.slice (some ⟨N + 4, 0, none⟩) L L) := ⟨h, h.c0, h.c1, h.c2, h.c5⟩
/-- What a question gives. -/
def askF (q : Nat) (row x : List Int) : Bool := M.win q (M.conf row x) && M.win q (M.conf row (M.sub row x))

set_option maxHeartbeats 2000000 in
/-- The question is chosen. -/
theorem ask_end (L q p : Nat) (hp : p = q + 1) (hq : p ≤ 9) (hS : SureAt L q) (w : World) (N B : Nat) (A : Option Addr) (c bR : Nat) (row x : List Int) (W : World) (h : Asks w N B L A c bR row p W x) (hk : M.knownB row = true) (hL : row.length = L) (hx : M.splitB row x = true) :
    Calls Try.prog 62 #[.int .i64 (L : Int), .pointer (some ⟨N + 1, 0, none⟩), .pointer (some ⟨N, 0, none⟩), .pointer (some ⟨N + 5, 0, none⟩), .pointer (some ⟨N + 2, 0, none⟩), .pointer (some ⟨N + 6, 0, none⟩)] W
      fun e W' => e = .returned (.bool (askF q row x)) ∧ Asks w N B L A c bR row p W' x := by
  obtain ⟨k1, k2, k3⟩ := M.split_parts hx
  obtain ⟨j1, j2, j3, -⟩ := M.known_parts hk
  have e2 : IntKind.i64.wrap ((p : Int) - 1) = (q : Int) := by rw [IntKind.wrap_i64]; omega
  have hx10 : ∀ k, k < L → 0 ≤ nth row k ∧ nth row k ≤ 10 := fun k hk => j3 k (by omega)
  have hy10 : ∀ k, k < L → 0 ≤ nth x k ∧ nth x k ≤ 10 := fun k hk => by have := k3 k (by omega); have := j3 k (by omega); omega
  have hz10 : ∀ k, k < L → 0 ≤ nth (M.sub row x) k ∧ nth (M.sub row x) k ≤ 10 := fun k hk => by rw [M.nth_sub (by omega)]; have := k3 k (by omega); have := j3 k (by omega); omega
  have HC1 := Lib.hid (show ∀ W', Asks w N B L A c bR row p W' x → Calls Try.prog 43 #[.slice A L c, .slice (some ⟨N + 4, 0, none⟩) L L] W' fun e w' => ∃ A4 c4, e = .returned (.slice A4 L c4) ∧ OwnI w' W'.heap.size A4 L c4 (M.conf row x) ∧ Asks w N B L A c bR row p w' x from fun W' h' => by
    refine (confirmed_c bR (N + 4) A (some ⟨N + 4, 0, none⟩) L c L L row x W' h'.row h'.que rfl (by omega) (by omega) hx10 hy10).mono ?_
    rintro e w' ⟨A4, c4, rfl, ho, hb⟩
    exact ⟨A4, c4, rfl, ho, h'.below hb⟩)
  have HC2 := Lib.hid (show ∀ W' A5 c5 b5, Asks w N B L A c bR row p W' x → OwnI W' b5 A5 L c5 (M.sub row x) → Calls Try.prog 43 #[.slice A L c, .slice A5 L c5] W' fun e w' => ∃ A4 c4, e = .returned (.slice A4 L c4) ∧ OwnI w' W'.heap.size A4 L c4 (M.conf row (M.sub row x)) ∧ Asks w N B L A c bR row p w' x from fun W' A5 c5 b5 h' h5 => by
    refine (confirmed_c bR b5 A A5 L c L c5 row (M.sub row x) W' h'.row h5 rfl (by omega) (by omega) hx10 hz10).mono ?_
    rintro e w' ⟨A4, c4, rfl, ho, hb⟩
    exact ⟨A4, c4, rfl, ho, h'.below hb⟩)
  have HO := Lib.hid (show ∀ W', Asks w N B L A c bR row p W' x → Calls Try.prog 44 #[.slice A L c, .slice (some ⟨N + 4, 0, none⟩) L L] W' fun e w' => ∃ A4 c4, e = .returned (.slice A4 L c4) ∧ OwnI w' W'.heap.size A4 L c4 (M.sub row x) ∧ Asks w N B L A c bR row p w' x from fun W' h' => by
    refine (others_c bR A (some ⟨N + 4, 0, none⟩) L c L L row x W' h'.row h'.que.rd rfl (by omega) hx10 hy10).mono ?_
    rintro e w' ⟨A4, c4, rfl, ho, hb⟩
    exact ⟨A4, c4, rfl, ho, h'.below hb⟩)
  have HW := Lib.hid (show ∀ W' A4 c4 b4 row', Asks w N B L A c bR row p W' x → OwnI W' b4 A4 L c4 row' → M.knownB row' = true → Calls Try.prog 51 #[.map (some B), .slice A4 L c4, .int .i64 q] W' fun e w' => e = .returned (.bool (M.win q row')) ∧ Asks w N B L A c bR row p w' x from fun W' A4 c4 b4 row' h' ho hk' => by
    refine (hS W' B A4 L c4 b4 row' h'.orc ho hk' ho.1).mono ?_
    rintro e w' ⟨rfl, hO, hg⟩
    exact ⟨rfl, h'.turn hg hO⟩)
  have hk1 := M.known_conf hx
  have hk2 := M.known_conf (M.split_sub hx)
  have hD : Asks w N B L A c bR row p W.drew x := h.below (Quiet.below ⟨1, rfl⟩ _ : Below W.heap.size W W.drew)
  have hc1 := h.c1
  have hln : ((L : Int) == (L : Int)) = true := by simp
  clear hx10 hy10 hz10 k3 j3 hp
  cases hw1 : M.win q (M.conf row x) with
  | false =>
    have Hf := Lib.hid (show askF q row x = false by simp [askF, hw1])
    have HW1 := Lib.hid (show ∀ W' A4 c4 b4, Asks w N B L A c bR row p W' x → OwnI W' b4 A4 L c4 (M.conf row x) → Calls Try.prog 51 #[.map (some B), .slice A4 L c4, .int .i64 q] W' fun e w' => e = .returned (.bool false) ∧ Asks w N B L A c bR row p w' x from fun W' A4 c4 b4 h' ho => by
      have := HW.out W' A4 c4 b4 _ h' ho hk1
      rwa [hw1] at this)
    go_enter Try.func62, Try.ntmps62
    go_wp2_with fail
    refine wp_region_held_drew (S := fun W' => Asks w N B L A c bR row p W' x ∧ W'.cell? ⟨N, 0, none⟩ = some (.map (some B)) ∧ W'.cell? ⟨N + 1, 0, none⟩ = some (.slice A L c) ∧ W'.cell? ⟨N + 2, 0, none⟩ = some (.int .i64 (p : Int)) ∧ W'.cell? ⟨N + 5, 0, none⟩ = some (.slice (some ⟨N + 4, 0, none⟩) L L)) (by kernel_rfl) (Asks.cells hD) (fun hHeld => ?_)
    refine with_hQ2 (fun _ _ _ _ _ h => h) (fun hQ => ?_)
    refine wpAnyH_take (i := 0) (oi := { dst := some 13, op := _, type := _, pos := _, after := _, guard := _ }) (v := ?v0) rfl (by kernel_rfl) (by kernel_rfl) (by kernel_rfl) (fun c v w h => hQ c _ _ _ w h) (Or.inl ⟨by rfl, ?y0⟩) (by assumption) ?r0
    case y0 =>
      intro w hSw
      obtain ⟨-, hz0, hz1, hz2, hz5⟩ := hSw
      go_simp
      try with_reducible rfl
    case r0 =>
    simp only [put_lit2, List.set]
    refine wpAnyH_take (i := 1) (oi := { dst := some 14, op := _, type := _, pos := _, after := _, guard := _ }) (v := ?v1) rfl (by kernel_rfl) (by kernel_rfl) (by kernel_rfl) (fun c v w h => hQ c _ _ _ w h) (Or.inl ⟨by rfl, ?y1⟩) (by assumption) ?r1
    case y1 =>
      intro w hSw
      obtain ⟨-, hz0, hz1, hz2, hz5⟩ := hSw
      go_simp
      try with_reducible rfl
    case r1 =>
    simp only [put_lit2, List.set]
    refine wpAnyH_take (i := 2) (oi := { dst := some 15, op := _, type := _, pos := _, after := _, guard := _ }) (v := ?v2) rfl (by kernel_rfl) (by kernel_rfl) (by kernel_rfl) (fun c v w h => hQ c _ _ _ w h) (Or.inl ⟨by rfl, ?y2⟩) (by assumption) ?r2
    case y2 =>
      intro w hSw
      obtain ⟨-, hz0, hz1, hz2, hz5⟩ := hSw
      go_simp
      try with_reducible rfl
    case r2 =>
    simp only [put_lit2, List.set]
    refine wpAnyH_take (i := 4) (oi := { dst := some 17, op := _, type := _, pos := _, after := _, guard := _ }) (v := ?v4) rfl (by kernel_rfl) (by kernel_rfl) (by kernel_rfl) (fun c v w h => hQ c _ _ _ w h) (Or.inl ⟨by rfl, ?y4⟩) (by assumption) ?r4
    case y4 =>
      intro w hSw
      obtain ⟨-, hz0, hz1, hz2, hz5⟩ := hSw
      go_simp
      try with_reducible rfl
    case r4 =>
    simp only [put_lit2, List.set]
    refine wpAnyH_take (i := 5) (oi := { dst := some 18, op := _, type := _, pos := _, after := _, guard := _ }) (v := ?v5) rfl (by kernel_rfl) (by kernel_rfl) (by kernel_rfl) (fun c v w h => hQ c _ _ _ w h) (Or.inl ⟨by rfl, ?y5⟩) (by assumption) ?r5
    case y5 =>
      intro w hSw
      obtain ⟨-, hz0, hz1, hz2, hz5⟩ := hSw
      go_simp
      try with_reducible rfl
    case r5 =>
    simp only [put_lit2, List.set]
    refine wpAnyH_ready (rs := [3]) (by kernel_rfl) (by simp) ?_
    refine AllReadyH.cons (o := { dst := some 16, op := _, type := _, pos := _, after := _, guard := _ }) rfl (fun K hK => ?_) AllReadyH.nil
    go_simp
    refine (HC1.out _ hD).mono ?_
    rintro e w' ⟨A4, c4, rfl, ho4, hA4⟩
    dsimp only
    refine hK.out _ _ ?_ (fun hHeld3 => ?_)
    · exact Asks.cells hA4
    clear hK K
    try simp only [put_lit2, List.set]
    refine wpAnyH_ready (rs := [6]) (by kernel_rfl) (by simp) ?_
    refine AllReadyH.cons (o := { dst := some 19, op := _, type := _, pos := _, after := _, guard := _ }) rfl (fun K hK => ?_) AllReadyH.nil
    go_simp
    refine (HW1.out _ _ _ _ hA4 ho4).mono ?_
    rintro e w' ⟨rfl, hA5⟩
    dsimp only
    refine hK.out _ _ ?_ (fun hHeld6 => ?_)
    · exact Asks.cells hA5
    clear hK K
    try simp only [put_lit2, List.set]
    refine wpAnyH_take (i := 7) (oi := { dst := some 20, op := _, type := _, pos := _, after := _, guard := _ }) (v := ?v7) rfl (by kernel_rfl) (by kernel_rfl) (by kernel_rfl) (fun c v w h => hQ c _ _ _ w h) (Or.inl ⟨by rfl, ?y7⟩) (by assumption) ?r7
    case y7 =>
      intro w hSw
      obtain ⟨-, hz0, hz1, hz2, hz5⟩ := hSw
      go_simp
      try with_reducible rfl
    case r7 =>
    simp only [put_lit2, List.set]
    refine wpAnyH_take (i := 8) (oi := { dst := some 21, op := _, type := _, pos := _, after := _, guard := _ }) (v := undef) rfl (by kernel_rfl) (by kernel_rfl) (by kernel_rfl) (fun c v w h => hQ c _ _ _ w h) (Or.inr ⟨by kernel_rfl, rfl⟩) (by assumption) ?_
    simp only [put_lit2, List.set]
    refine wpAnyH_take (i := 9) (oi := { dst := some 22, op := _, type := _, pos := _, after := _, guard := _ }) (v := undef) rfl (by kernel_rfl) (by kernel_rfl) (by kernel_rfl) (fun c v w h => hQ c _ _ _ w h) (Or.inr ⟨by kernel_rfl, rfl⟩) (by assumption) ?_
    simp only [put_lit2, List.set]
    refine wpAnyH_take (i := 10) (oi := { dst := some 23, op := _, type := _, pos := _, after := _, guard := _ }) (v := undef) rfl (by kernel_rfl) (by kernel_rfl) (by kernel_rfl) (fun c v w h => hQ c _ _ _ w h) (Or.inr ⟨by kernel_rfl, rfl⟩) (by assumption) ?_
    simp only [put_lit2, List.set]
    refine wpAnyH_take (i := 11) (oi := { dst := some 24, op := _, type := _, pos := _, after := _, guard := _ }) (v := undef) rfl (by kernel_rfl) (by kernel_rfl) (by kernel_rfl) (fun c v w h => hQ c _ _ _ w h) (Or.inr ⟨by kernel_rfl, rfl⟩) (by assumption) ?_
    simp only [put_lit2, List.set]
    refine wpAnyH_take (i := 12) (oi := { dst := some 25, op := _, type := _, pos := _, after := _, guard := _ }) (v := undef) rfl (by kernel_rfl) (by kernel_rfl) (by kernel_rfl) (fun c v w h => hQ c _ _ _ w h) (Or.inr ⟨by kernel_rfl, rfl⟩) (by assumption) ?_
    simp only [put_lit2, List.set]
    refine wpAnyH_take (i := 13) (oi := { dst := some 26, op := _, type := _, pos := _, after := _, guard := _ }) (v := undef) rfl (by kernel_rfl) (by kernel_rfl) (by kernel_rfl) (fun c v w h => hQ c _ _ _ w h) (Or.inr ⟨by kernel_rfl, rfl⟩) (by assumption) ?_
    simp only [put_lit2, List.set]
    refine wpAnyH_take (i := 14) (oi := { dst := some 27, op := _, type := _, pos := _, after := _, guard := _ }) (v := undef) rfl (by kernel_rfl) (by kernel_rfl) (by kernel_rfl) (fun c v w h => hQ c _ _ _ w h) (Or.inr ⟨by kernel_rfl, rfl⟩) (by assumption) ?_
    simp only [put_lit2, List.set]
    refine wpAnyH_take (i := 15) (oi := { dst := some 28, op := _, type := _, pos := _, after := _, guard := _ }) (v := undef) rfl (by kernel_rfl) (by kernel_rfl) (by kernel_rfl) (fun c v w h => hQ c _ _ _ w h) (Or.inr ⟨by kernel_rfl, rfl⟩) (by assumption) ?_
    simp only [put_lit2, List.set]
    refine wpAnyH_take (i := 16) (oi := { dst := some 29, op := _, type := _, pos := _, after := _, guard := _ }) (v := undef) rfl (by kernel_rfl) (by kernel_rfl) (by kernel_rfl) (fun c v w h => hQ c _ _ _ w h) (Or.inr ⟨by kernel_rfl, rfl⟩) (by assumption) ?_
    simp only [put_lit2, List.set]
    refine wpAnyH_take (i := 17) (oi := { dst := some 30, op := _, type := _, pos := _, after := _, guard := _ }) (v := ?v17) rfl (by kernel_rfl) (by kernel_rfl) (by kernel_rfl) (fun c v w h => hQ c _ _ _ w h) (Or.inl ⟨by rfl, ?y17⟩) (by assumption) ?r17
    case y17 =>
      intro w hSw
      obtain ⟨-, hz0, hz1, hz2, hz5⟩ := hSw
      go_simp
      try with_reducible rfl
    case r17 =>
    simp only [put_lit2, List.set]
    refine wpAnyH_take (i := 18) (oi := { dst := some 7, op := _, type := _, pos := _, after := _, guard := _ }) (v := ?v18) rfl (by kernel_rfl) (by kernel_rfl) (by kernel_rfl) (fun c v w h => hQ c _ _ _ w h) (Or.inl ⟨by rfl, ?y18⟩) (by assumption) ?r18
    case y18 =>
      intro w hSw
      obtain ⟨-, hz0, hz1, hz2, hz5⟩ := hSw
      go_simp
      try with_reducible rfl
    case r18 =>
    simp only [put_lit2, List.set]
    refine wpAnyH_done (by kernel_rfl) ?_ _
    go_wp2
    go_ret
    exact ⟨by rw [Hf.out]; rfl, hA5⟩
  | true =>
    have HW1 := Lib.hid (show ∀ W' A4 c4 b4, Asks w N B L A c bR row p W' x → OwnI W' b4 A4 L c4 (M.conf row x) → Calls Try.prog 51 #[.map (some B), .slice A4 L c4, .int .i64 q] W' fun e w' => e = .returned (.bool true) ∧ Asks w N B L A c bR row p w' x from fun W' A4 c4 b4 h' ho => by
      have := HW.out W' A4 c4 b4 _ h' ho hk1
      rwa [hw1] at this)
    have Hf := Lib.hid (show askF q row x = M.win q (M.conf row (M.sub row x)) by simp [askF, hw1])
    have HW2 := Lib.hid (show ∀ W' A4 c4 b4, Asks w N B L A c bR row p W' x → OwnI W' b4 A4 L c4 (M.conf row (M.sub row x)) → Calls Try.prog 51 #[.map (some B), .slice A4 L c4, .int .i64 q] W' fun e w' => e = .returned (.bool (askF q row x)) ∧ Asks w N B L A c bR row p w' x from fun W' A4 c4 b4 h' ho => by
      have := HW.out W' A4 c4 b4 _ h' ho hk2
      rwa [← Hf.out] at this)
    clear Hf
    generalize askF q row x = V at *
    go_enter Try.func62, Try.ntmps62
    go_wp2_with fail
    go_region_held3 (fun W' => Asks w N B L A c bR row p W' x ∧ W'.cell? ⟨N, 0, none⟩ = some (.map (some B)) ∧ W'.cell? ⟨N + 1, 0, none⟩ = some (.slice A L c) ∧ W'.cell? ⟨N + 2, 0, none⟩ = some (.int .i64 (p : Int)) ∧ W'.cell? ⟨N + 5, 0, none⟩ = some (.slice (some ⟨N + 4, 0, none⟩) L L)) (exact Asks.cells (by assumption)) (first
      | (go_at_call 43; with_reducible refine (HC1.out _ (by assumption)).mono ?_; rintro e w' ⟨A4, c4, rfl, ho4, hA4⟩)
      | (go_at_call 43; with_reducible refine (HC2.out _ _ _ _ (by assumption) (by assumption)).mono ?_; rintro e w' ⟨A4, c4, rfl, ho4, hA4⟩)
      | (go_at_call 44; with_reducible refine (HO.out _ (by assumption)).mono ?_; rintro e w' ⟨A5, c5, rfl, ho5, hA5⟩)
      | (go_at_call 51; with_reducible refine (HW1.out _ _ _ _ (by assumption) (by assumption)).mono ?_; rintro e w' ⟨rfl, hA5⟩)
      | (go_at_call 51; with_reducible refine (HW2.out _ _ _ _ (by assumption) (by assumption)).mono ?_; rintro e w' ⟨rfl, hA6⟩))
    all_goals
      go_wp2
      go_ret
      exact ⟨by first | rfl | trivial, by assumption⟩

end Go.Proofs.Ytdpbjepjiloeaaa
