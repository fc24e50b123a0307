/- Words for memory that all walks of this seat use: a slice of integers that reads as a list, one that the call owns, and how both are kept. No condition. -/
import Derived.Test.YtdeoigdnhcamjaaProg
import Derived.Test.YtdeoigdnhcamjaaPMath
import Derived.WalkKit
import Derived.WalkLawsBesides
import Derived.WalkSpells
import Derived.Deep.QuietTactic
import Derived.BigQuiet
import Derived.Lib.Hide
import Derived.Deep.LoopGhost
import Derived.Deep.Draws
import Derived.Deep.DeepMust
import Derived.KernelRfl
namespace Go.Proofs.Ytdeoigdnhcamjaa
open Go Go.RowKit
open M (nth)


theorem Try.infoInt : (Try.prog.info? 3).map (fun i => (i.zero, i.size, i.bytes)) = some (some (.int .i64 0), 1, 8) := by kernel_rfl

theorem block_of_add (a : Addr) (n : Nat) : (a.add n).block = a.block := by unfold Addr.add; split <;> rfl
theorem add_zero_of (g k : Nat) : (⟨g, 0, none⟩ : Addr).add k = ⟨g, k, none⟩ := by unfold Addr.add; split <;> simp_all

/-- The slice value of address A and length n reads as the integers xs. -/
structure RdI (w : World) (A : Option Addr) (n : Nat) (xs : List Int) : Prop where
  len : xs.length = n
  big : n ≤ 9223372036854775807
  cells : 0 < n → ∃ ad, A = some ad ∧ ad.block < w.heap.size ∧ ∀ k, k < n → w.cell? (ad.add k) = some (.int .i64 (nth xs k))

theorem RdI.at_ {w : World} {A : Option Addr} {n k : Nat} {xs : List Int} (h : RdI w A n xs) (hk : k < n) :
    ∃ ad, A = some ad ∧ ad.block < w.heap.size ∧ w.cell? (ad.add k) = some (.int .i64 (nth xs k)) := by
  obtain ⟨ad, e, hb, hc⟩ := h.cells (by omega)
  exact ⟨ad, e, hb, hc k hk⟩
theorem RdI.below {w w' : World} {A : Option Addr} {n : Nat} {xs : List Int} (h : RdI w A n xs) (hb : Below w.heap.size w w') : RdI w' A n xs :=
  ⟨h.len, h.big, fun hn => by
    obtain ⟨ad, e, hlt, hc⟩ := h.cells hn
    exact ⟨ad, e, Nat.lt_of_lt_of_le hlt hb.size, fun k hk => (hb.cell (by rw [block_of_add]; exact hlt)).trans (hc k hk)⟩⟩
theorem bt {a b c : World} (h : Below a.heap.size a b) (k : Below b.heap.size b c) : Below a.heap.size a c := h.trans (k.mono h.size)
theorem RdI.nil (w : World) (A : Option Addr) : RdI w A 0 [] := ⟨rfl, by omega, fun h => by omega⟩

/-- What the proof skeleton says of a slice of integers that came in. -/
theorem rdI_of {w : World} {a : Option Addr} {len cap : Nat} {zs : List Int}
    (h : (a = none ∧ len = 0 ∧ cap = 0 ∧ zs = []) ∨ ∃ x, a = some x ∧ len ≤ cap ∧ cap ≤ maxLen ∧ zs.length = cap ∧ (∀ i, i < zs.length → w.cell? (x.add i) = some (.int .i64 (zs.getD i 0))) ∧ ∀ n ∈ zs, (Lit.int .i64 n).wf = true) :
    RdI w a len (zs.take len) := by
  rcases h with ⟨rfl, rfl, rfl, rfl⟩ | ⟨x, rfl, hl, hm, hz, hc, _⟩
  · exact RdI.nil w none
  · refine ⟨by simp; omega, by unfold maxLen at hm; omega, fun hn => ⟨x, rfl, ?_, fun k hk => ?_⟩⟩
    · have := World.block_lt_of_cell? _ _ (hc 0 (by omega))
      rwa [block_of_add] at this
    · rw [hc k (by omega)]
      simp [nth, hk, List.getD]
/-- The slice of address A and length n reads as bytes. -/
structure RdY (w : World) (A : Option Addr) (n c : Nat) : Prop where
  big : n ≤ 9223372036854775807
  cap : n ≤ c
  cells : 0 < n → ∃ ad, A = some ad ∧ ad.block < w.heap.size ∧ ∀ k, k < n → ∃ u : Int, 0 ≤ u ∧ u ≤ 255 ∧ w.cell? (ad.add k) = some (.int .u8 u)
theorem RdY.below {w w' : World} {A : Option Addr} {n c : Nat} (h : RdY w A n c) (hb : Below w.heap.size w w') : RdY w' A n c :=
  ⟨h.big, h.cap, fun hn => by
    obtain ⟨ad, e, hlt, hc⟩ := h.cells hn
    refine ⟨ad, e, Nat.lt_of_lt_of_le hlt hb.size, fun k hk => ?_⟩
    obtain ⟨u, h0, h1, hu⟩ := hc k hk
    exact ⟨u, h0, h1, (hb.cell (by rw [block_of_add]; exact hlt)).trans hu⟩⟩
theorem rdY_of {w : World} {a : Option Addr} {len cap : Nat} {zs : List Int}
    (h : (a = none ∧ len = 0 ∧ cap = 0 ∧ zs = []) ∨ ∃ x, a = some x ∧ len ≤ cap ∧ cap ≤ maxLen ∧ zs.length = cap ∧ (∀ i, i < zs.length → w.cell? (x.add i) = some (.int .u8 (zs.getD i 0))) ∧ ∀ n ∈ zs, (Lit.int .u8 n).wf = true) :
    RdY w a len cap := by
  rcases h with ⟨rfl, rfl, rfl, rfl⟩ | ⟨x, rfl, hl, hm, hz, hc, hwf⟩
  · exact ⟨by omega, by omega, fun h => by omega⟩
  · refine ⟨by unfold maxLen at hm; omega, hl, fun hn => ⟨x, rfl, ?_, fun k hk => ?_⟩⟩
    · have := World.block_lt_of_cell? _ _ (hc 0 (by omega))
      rwa [block_of_add] at this
    · have hk' : k < zs.length := by omega
      have e : zs.getD k 0 = zs[k] := by simp [List.getD, hk']
      have hwk := hwf zs[k] (List.getElem_mem hk')
      have m0 : IntKind.u8.min = 0 := rfl
      have m1 : IntKind.u8.max = 255 := rfl
      simp only [Lit.wf, m0, m1, Bool.and_eq_true, decide_eq_true_eq] at hwk
      exact ⟨zs[k], by omega, by omega, by rw [hc k hk', e]⟩

/-- The slice value of address A, length n and capacity c owns the integers xs, in a block from b on. -/
def OwnI (w : World) (b : Nat) (A : Option Addr) (n c : Nat) (xs : List Int) : Prop :=
  xs.length = n ∧ w.ownsRow b 3 1 (.slice A n c) n (xs.map (Value.int .i64))

theorem OwnI.rd {w : World} {b : Nat} {A : Option Addr} {n c : Nat} {xs : List Int} (h : OwnI w b A n c xs) : RdI w A n xs := by
  obtain ⟨hl, ho⟩ := h
  refine ⟨hl, ?_, ?_⟩
  · rcases ho.2 with ⟨_, rfl⟩ | ⟨g, cap, cur, hv, _, _, h1, h2, _⟩
    · omega
    · unfold maxLen at h2; omega
  · intro hn
    rcases ho.2 with ⟨_, rfl⟩ | ⟨g, cap, cur, hv, hb, hg, _⟩
    · omega
    · injection hv with hA _ _
      subst hA
      refine ⟨_, rfl, (Array.getElem?_eq_some_iff.1 hg).1, fun k hk => ?_⟩
      refine ho.cells (g := g) rfl k _ ?_
      have hk' : k < xs.length := by omega
      simp [nth, hk']

theorem OwnI.kept {w w' : World} {row : Option Nat} {b : Nat} {A : Option Addr} {n c : Nat} {xs : List Int} (h : OwnI w b A n c xs) (hg : w.grownBy w' row)
    (hne : (Value.slice A n c).ownBlock = none ∨ (Value.slice A n c).ownBlock ≠ row) : OwnI w' b A n c xs := ⟨h.1, h.2.kept hg hne⟩

theorem grown_of_below {w w' : World} (h : Below w.heap.size w w') : w.grownBy w' none := ⟨h.os, h.tape, h.output, h.size, fun k hk _ => h.block k hk⟩

theorem OwnI.below {w w' : World} {b : Nat} {A : Option Addr} {n c : Nat} {xs : List Int} (h : OwnI w b A n c xs) (hb : Below w.heap.size w w') : OwnI w' b A n c xs :=
  h.kept (grown_of_below hb) (by cases A <;> simp [Value.ownBlock])
theorem OwnI.alloc {w : World} {b : Nat} {A : Option Addr} {n c : Nat} {xs : List Int} (h : OwnI w b A n c xs) (o : Obj) : OwnI (w.alloc o) b A n c xs := ⟨h.1, h.2.alloc o⟩
theorem OwnI.drew {w : World} {b : Nat} {A : Option Addr} {n c : Nat} {xs : List Int} (h : OwnI w b A n c xs) : OwnI w.drew b A n c xs := h
theorem OwnI.lt {w : World} {b : Nat} {ad : Addr} {n c : Nat} {xs : List Int} (h : OwnI w b (some ad) n c xs) : b ≤ ad.block ∧ ad.block < w.heap.size := h.2.lt _ rfl
theorem OwnI.mono {w : World} {b b' : Nat} {A : Option Addr} {n c : Nat} {xs : List Int} (h : OwnI w b A n c xs) (hb : b' ≤ b) : OwnI w b' A n c xs := by
  refine ⟨h.1, h.2.1, ?_⟩
  rcases h.2.2 with h0 | ⟨g, cap, cur, hv, hg, r⟩
  · exact .inl h0
  · exact .inr ⟨g, cap, cur, hv, Nat.le_trans hb hg, r⟩
/-- The address of an owned row of at least one cell. -/
theorem OwnI.at0 {w : World} {b : Nat} {A : Option Addr} {n c : Nat} {xs : List Int} (h : OwnI w b A n c xs) (hn : 0 < n) : ∃ g, A = some ⟨g, 0, none⟩ ∧ b ≤ g ∧ g < w.heap.size := by
  rcases h.2.2 with ⟨_, rfl⟩ | ⟨g, cap, cur, hv, hb, hg, _⟩
  · omega
  · injection hv with hA _ _
    exact ⟨g, hA, hb, (Array.getElem?_eq_some_iff.1 hg).1⟩
theorem OwnI.cell {w : World} {b g : Nat} {n c : Nat} {xs : List Int} (h : OwnI w b (some ⟨g, 0, none⟩) n c xs) {k : Nat} (hk : k < n) : w.cell? ⟨g, k, none⟩ = some (.int .i64 (nth xs k)) := by
  have := h.2.cellAt k (by omega)
  rw [this]
  have hk' : k < xs.length := by have := h.1; omega
  simp [nth, hk']
theorem OwnI.free {w : World} {b g : Nat} {n c : Nat} {xs : List Int} (h : OwnI w b (some ⟨g, 0, none⟩) n c xs) (k : Nat) : w.frozen? ⟨g, k, none⟩ = false := h.2.frozenAt k
theorem OwnI.stored {w : World} {b g : Nat} {n c : Nat} {xs : List Int} (h : OwnI w b (some ⟨g, 0, none⟩) n c xs) (k : Nat) (x : Int) :
    OwnI (w.setCell ⟨g, k, none⟩ (.int .i64 x)) b (some ⟨g, 0, none⟩) n c (xs.set k x) ∧ w.grownBy (w.setCell ⟨g, k, none⟩ (.int .i64 x)) (some g) := by
  have hs := h.2.stored k (.int .i64 x)
  refine ⟨⟨by simpa using h.1, ?_⟩, hs.2⟩
  rw [List.map_set]
  exact hs.1

/-- Nothing has turned; some answers may have been drawn. -/
def Quiet (w w' : World) : Prop := ∃ m, w' = w.drewN m
theorem Quiet.refl (w : World) : Quiet w w := ⟨0, rfl⟩
theorem Quiet.same {w w' : World} (h : w = w') : Quiet w w' := h ▸ Quiet.refl w
theorem Quiet.trans {a b c : World} (h : Quiet a b) (k : Quiet b c) : Quiet a c := by
  obtain ⟨m, rfl⟩ := h
  obtain ⟨n, rfl⟩ := k
  exact ⟨m + n, World.drewN_drewN _ _ _⟩
theorem Quiet.drewN {a b : World} (h : Quiet a b) (n : Nat) : Quiet a (b.drewN n) := h.trans ⟨n, rfl⟩
theorem Quiet.drew {a b : World} (h : Quiet a b) : Quiet a b.drew := h.trans ⟨1, rfl⟩
theorem Quiet.below {w w' : World} (h : Quiet w w') (B : Nat) : Below B w w' := by
  obtain ⟨m, rfl⟩ := h
  exact ⟨rfl, rfl, rfl, Nat.le_refl _, fun _ _ => rfl⟩
theorem Below.quiet {B : Nat} {a b c : World} (h : Below B a b) (k : Quiet b c) : Below B a c := h.trans (k.below B)
theorem RdI.quiet {w w' : World} {A : Option Addr} {n : Nat} {xs : List Int} (h : RdI w A n xs) (hq : Quiet w w') : RdI w' A n xs := h.below (hq.below _)
theorem OwnI.quiet {w w' : World} {b : Nat} {A : Option Addr} {n c : Nat} {xs : List Int} (h : OwnI w b A n c xs) (hq : Quiet w w') : OwnI w' b A n c xs := h.below (hq.below _)
theorem Quiet.cell {w w' : World} (h : Quiet w w') {p : Addr} {v : Value} (hc : w.cell? p = some v) : w'.cell? p = some v := by
  obtain ⟨m, rfl⟩ := h
  exact hc
theorem quiet_left {P : Program} {f : FuncId} {args : Array Value} {w : World} {v : Value} (h : Calls P f args w fun e w' => e = .returned v ∧ w = w') :
    Calls P f args w fun e w' => e = .returned v ∧ ∃ m, w' = w.drewN m := h.mono fun _ _ ⟨he, hw⟩ => ⟨he, 0, hw.symm⟩
theorem quiet_q {P : Program} {f : FuncId} {args : Array Value} {w : World} {v : Value} (h : Calls P f args w fun e w' => e = .returned v ∧ Quiet w w') :
    Calls P f args w fun e w' => e = .returned v ∧ ∃ m, w' = w.drewN m := h.mono fun _ _ ⟨he, hw⟩ => ⟨he, hw⟩
theorem rb {a b : Bool} (h : a = b) : Ending.returned (.bool a) = Ending.returned (.bool b) := by rw [h]
theorem ri {k : IntKind} {a b : Int} (h : a = b) : Ending.returned (.int k a) = Ending.returned (.int k b) := by rw [h]

theorem grown_trans {a b c : World} {row : Option Nat} (h : a.grownBy b row) (k : b.grownBy c row) : a.grownBy c row :=
  ⟨k.os.trans h.os, k.tape.trans h.tape, k.output.trans h.output, Nat.le_trans h.size k.size, fun i hi hn => (k.block i (Nat.lt_of_lt_of_le hi h.size) hn).trans (h.block i hi hn)⟩

/-- '[]int{}': an empty slice of the call's own. -/
theorem ownI_lit0 (w : World) (b : Nat) (hb : b ≤ w.heap.size) : OwnI (w.alloc (.cells #[] 3)) b (some ⟨w.heap.size, 0, none⟩) 0 0 [] :=
  ⟨rfl, by have := World.ownsRow_lit (e := 3) (size := 1) w #[] 0 hb (by unfold maxLen; omega) rfl; exact this⟩
theorem OwnI.ne_block {w : World} {b R : Nat} {A : Option Addr} {n c : Nat} {xs : List Int} (h : OwnI w b A n c xs) (hR : R < b) : (Value.slice A n c).ownBlock = none ∨ (Value.slice A n c).ownBlock ≠ some R := by
  cases A with
  | none => exact .inl rfl
  | some ad => exact .inr (by have := h.lt.1; simp [Value.ownBlock]; omega)
/-- Behind an append. -/
theorem OwnI.appended {w : World} {b : Nat} {v : Value} {n : Nat} {xs : List Int} {x : Int} (hl : xs.length = n) (h : w.ownsRow b 3 1 v (n + 1) (xs.map (Value.int .i64) ++ [.int .i64 x])) :
    ∃ g c, v = .slice (some ⟨g, 0, none⟩) (n + 1) c ∧ OwnI w b (some ⟨g, 0, none⟩) (n + 1) c (xs ++ [x]) ∧ b ≤ g ∧ g < w.heap.size := by
  have h0 := h
  rcases h.2 with ⟨_, h1⟩ | ⟨g, cap, cur, rfl, hb, hg, _⟩
  · omega
  · exact ⟨g, cap, rfl, ⟨by simp [hl], by simpa using h0⟩, hb, (Array.getElem?_eq_some_iff.1 hg).1⟩

theorem gb {a b c : World} {row : Option Nat} (h : a.grownBy b row) (k : Below a.heap.size b c) : a.grownBy c row :=
  ⟨k.os.trans h.os, k.tape.trans h.tape, k.output.trans h.output, Nat.le_trans h.size k.size, fun i hi hn => (k.block i hi).trans (h.block i hi hn)⟩

/-- Returns an owned slice of the integers xs, all of it new; what was there is as it was. -/
def RetI (w : World) (xs : List Int) (e : Ending) (w' : World) : Prop := ∃ (A : Option Addr) (n c : Nat), e = .returned (.slice A n c) ∧ OwnI w' w.heap.size A n c xs ∧ Below w.heap.size w w'

end Go.Proofs.Ytdeoigdnhcamjaa
