/- More words for owned rows: literals, zeros, cuts, appends; what go_quiet asks. No condition. -/
import Derived.Test.YtdeoigdnhcamjaaCom
import Derived.Maps.AppendAt
namespace Go.Proofs.Ytdeoigdnhcamjaa
open Go Go.RowKit
open M (nth)

theorem ownI_lit (w : World) (b : Nat) (cs : Array Value) (n : Nat) (xs : List Int) (hb : b ≤ w.heap.size) (hn : n ≤ 1000) (hs : cs.size = n) (hx : cs.toList = xs.map (Value.int .i64)) :
    OwnI (w.alloc (.cells cs 3)) b (some ⟨w.heap.size, 0, none⟩) n n xs :=
  ⟨by have := congrArg List.length hx; simp at this; omega, by
    have := World.ownsRow_lit (e := 3) (size := 1) w cs n hb (by unfold maxLen; omega) (by omega)
    rwa [hx] at this⟩

/-- Behind an append of a whole row to an empty one. -/
theorem OwnI.appendedL {w : World} {b : Nat} {v : Value} {n : Nat} {xs : List Int} (hl : xs.length = n) (h : w.ownsRow b 3 1 v n (xs.map (Value.int .i64))) :
    ∃ A c, v = .slice A n c ∧ OwnI w b A n c xs := by
  have h0 := h
  rcases h.2 with ⟨rfl, rfl⟩ | ⟨g, cap, cur, rfl, hb, hg, _⟩
  · exact ⟨none, 0, rfl, hl, h0⟩
  · exact ⟨_, cap, rfl, hl, h0⟩
/-- Of two rows that the call owns the younger one lies elsewhere. -/
theorem own_ne1 {w w' : World} {b b' : Nat} {A A' : Option Addr} {n c n' c' : Nat} {xs xs' : List Int} (h : OwnI w b A n c xs) (h' : OwnI w' b' A' n' c' xs') (hb : w.heap.size ≤ b') :
    (Value.slice A n c).ownBlock = none ∨ (Value.slice A n c).ownBlock ≠ (Value.slice A' n' c').ownBlock := by
  cases A with
  | none => exact .inl rfl
  | some ad =>
    cases A' with
    | none => exact .inr (by simp [Value.ownBlock])
    | some ad' => exact .inr (by have := h.lt.2; have := h'.lt.1; simp [Value.ownBlock]; omega)
theorem own_ne2 {w w' : World} {b b' : Nat} {A A' : Option Addr} {n c n' c' : Nat} {xs xs' : List Int} (h : OwnI w b A n c xs) (h' : OwnI w' b' A' n' c' xs') (hb : w.heap.size ≤ b') :
    (Value.slice A' n' c').ownBlock = none ∨ (Value.slice A' n' c').ownBlock ≠ (Value.slice A n c).ownBlock := by
  cases A' with
  | none => exact .inl rfl
  | some ad' =>
    cases A with
    | none => exact .inr (by simp [Value.ownBlock])
    | some ad => exact .inr (by have := h.lt.2; have := h'.lt.1; simp [Value.ownBlock]; omega)
/-- A turn of an owned row is no turn of what is older. -/
theorem below_own {w w' : World} {b B : Nat} {A : Option Addr} {n c : Nat} {xs : List Int} {a : World} (h : OwnI a b A n c xs) (hg : w.grownBy w' (Value.slice A n c).ownBlock) (hB : B ≤ b) (hw : B ≤ w.heap.size) : Below B w w' :=
  (Below.refl B w).grown hg hw (fun k e => by
    cases A with
    | none => cases e
    | some ad => cases e; exact Nat.le_trans hB h.lt.1)
theorem ownI_nil (w : World) (b : Nat) : OwnI w b none 0 0 [] := ⟨rfl, World.ownsRow_nil w b _ _⟩
/-- The cells of n zeros. -/
def zer (n : Nat) : Array Value := madeCells #[Value.int .i64 0] n
theorem mk_run (n : Nat) (hn : n ≤ 1048576) (W : World) : (Instr.makeSlice 22 (.int .i64 (n : Int)) (.int .i64 (n : Int))).run Try.prog W = .ok (.slice (some ⟨W.heap.size, 0, none⟩) n n) (W.alloc (.cells (zer n) 3)) := by
  obtain ⟨i0, hi, hz0, hz1, hz2⟩ := info_parts Try.infoInt
  have hr := run_make (P := Try.prog) W 22 3 i0 _ Try.underlying22 hi hz0 .i64 .i64 n n (by omega) (Int.le_refl _) (by rw [hz2]; omega) (by omega)
  simp only [Int.toNat_natCast, hz1, Nat.mul_one] at hr
  exact hr
theorem ownI_zer (w : World) (b n : Nat) (hb : b ≤ w.heap.size) (hn : n ≤ 1048576) : OwnI (w.alloc (.cells (zer n) 3)) b (some ⟨w.heap.size, 0, none⟩) n n (List.replicate n 0) :=
  ⟨by simp, by
    have := World.ownsRow_lit (e := 3) (size := 1) w (zer n) n hb (by unfold maxLen; omega) (by unfold zer; rw [size_madeCells]; omega)
    rw [zer, toList_madeCells_one] at this
    rw [List.map_replicate]; exact this⟩

/-- What go_quiet asks at a call. -/
theorem quiet_l {P : Program} {f : FuncId} {args : Array Value} {w : World} {n : Nat} {v : Value} (h : Calls P f args (w.drewN n) fun e w' => e = .returned v ∧ w.drewN n = w') :
    Calls P f args (w.drewN n) fun e w' => e = .returned v ∧ ∃ m, w' = w.drewN m := h.mono fun _ _ ⟨he, hw⟩ => ⟨he, n, hw.symm⟩
theorem quiet_m {P : Program} {f : FuncId} {args : Array Value} {w : World} {n : Nat} {v : Value} (h : Calls P f args (w.drewN n) fun e w' => e = .returned v ∧ Quiet (w.drewN n) w') :
    Calls P f args (w.drewN n) fun e w' => e = .returned v ∧ ∃ m, w' = w.drewN m := h.mono fun _ _ ⟨he, hw⟩ => ⟨he, by obtain ⟨m, hm⟩ := hw; exact ⟨n + m, by rw [hm, World.drewN_drewN]⟩⟩

theorem OwnI.cap {w : World} {b g n c : Nat} {xs : List Int} (h : OwnI w b (some ⟨g, 0, none⟩) n c xs) : n ≤ c ∧ c ≤ 9223372036854775807 := by
  rcases h.2.2 with ⟨h0, _⟩ | ⟨g', cap, cur, hv, _, _, h1, h2, _⟩
  · cases h0
  · injection hv with _ _ e
    subst e
    unfold maxLen at h2
    exact ⟨h1, by omega⟩
theorem OwnI.tail {w : World} {b g n c : Nat} {xs : List Int} (h : OwnI w b (some ⟨g, 0, none⟩) n c xs) (j : Nat) (hj : j ≤ n) (_hn : ¬ c = j) : RdI w (some ⟨g, j, none⟩) (n - j) (xs.drop j) := by
  refine ⟨by have := h.1; simp; omega, by have := h.rd.big; omega, fun hn => ⟨_, rfl, h.lt.2, fun k hk => ?_⟩⟩
  rw [Addr.add_lit]
  rw [h.cell (k := j + k) (by omega)]
  simp [nth, List.getElem?_drop]

theorem to0 {w : World} {A A' : Option Addr} {n : Nat} {xs : List Int} (h : RdI w A n xs) (h0 : n = 0) : RdI w A' 0 xs := ⟨by rw [h.len, h0], by omega, fun h => by omega⟩

/-- What an owned slice looks like. -/
theorem OwnI.form {w : World} {b : Nat} {A : Option Addr} {n c : Nat} {xs : List Int} (h : OwnI w b A n c xs) : (A = none ∧ n = 0 ∧ c = 0 ∧ xs = []) ∨ ∃ g, A = some ⟨g, 0, none⟩ ∧ b ≤ g ∧ g < w.heap.size := by
  rcases h.2.2 with ⟨hv, rfl⟩ | ⟨g, cap, cur, hv, hb, hg, _⟩
  · injection hv with h1 _ h3
    exact .inl ⟨h1, rfl, h3, List.eq_nil_of_length_eq_zero h.1⟩
  · injection hv with hA _ _
    exact .inr ⟨g, hA, hb, (Array.getElem?_eq_some_iff.1 hg).1⟩

end Go.Proofs.Ytdeoigdnhcamjaa
