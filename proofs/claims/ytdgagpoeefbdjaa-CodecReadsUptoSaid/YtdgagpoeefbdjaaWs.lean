/- Auxiliary: five owners of memory, kept apart by colours (two writers of the program, two of the document, a book). No condition. -/
import Derived.Test.YtdgagpoeefbdjaaOuts
namespace Go.Proofs.Ytdgagpoeefbdjaa
open Go.RowKit

/-- the blocks F have the colour i, and are there -/
def Col (c : Nat → Nat) (i : Nat) (F : Nat → Prop) (w : World) : Prop := ∀ k, F k → c k = i ∧ k < w.heap.size
def paint (c : Nat → Nat) (m i : Nat) : Nat → Nat := fun k => if k < m then c k else i
theorem Col.sep {c : Nat → Nat} {i j : Nat} {F G : Nat → Prop} {w : World} (h : Col c i F w) (g : Col c j G w) (hij : i ≠ j) : Sep F G := fun k hk hg => hij ((h k hk).1.symm.trans (g k hg).1)
theorem Col.other {c : Nat → Nat} {i j : Nat} {G : Nat → Prop} {w w' : World} (g : Col c j G w) (hs : w.heap.size ≤ w'.heap.size) : Col (paint c w.heap.size i) j G w' := fun k hk => by
  obtain ⟨h1, h2⟩ := g k hk
  refine ⟨?_, by omega⟩
  unfold paint
  rw [if_pos h2, h1]
theorem Col.self {c : Nat → Nat} {i : Nat} {F F' : Nat → Prop} {w w' : World} (h : Col c i F w) (hs : Step F w F' w') (hl : ∀ k, F' k → k < w'.heap.size) : Col (paint c w.heap.size i) i F' w' := fun k hk => by
  refine ⟨?_, hl k hk⟩
  unfold paint
  by_cases hlt : k < w.heap.size
  · rw [if_pos hlt]
    rcases hs.2 k hk with h2 | h2
    · exact (h k h2).1
    · omega
  · rw [if_neg hlt]
theorem paint_old {c : Nat → Nat} {m i B : Nat} (h : ∀ k, c k ≠ 0 → B ≤ k) (hm : B ≤ m) : ∀ k, paint c m i k ≠ 0 → B ≤ k := fun k hk => by
  unfold paint at hk
  by_cases hlt : k < m
  · rw [if_pos hlt] at hk; exact h k hk
  · omega
theorem Col.ext {c : Nat → Nat} {i : Nat} {F : Nat → Prop} {w w' : World} (h : Col c i F w) (hs : w.heap.size ≤ w'.heap.size) : Col c i F w' := fun k hk => ⟨(h k hk).1, Nat.lt_of_lt_of_le (h k hk).2 hs⟩

structure WS (w wr : World) (c : Nat → Nat) (p1 : Nat) (v1 : Value) (b1 : List UInt8) (e1 : Int) (p2 : Nat) (v2 : Value) (b2 : List UInt8) (e2 : Int) (q1 : Nat) (u1 : Value) (d1 : List UInt8) (f1 : Int) (q2 : Nat) (u2 : Value) (d2 : List UInt8) (f2 : Int) (kb n : Nat) (F : Nat → Prop) : Prop where
  w1 : WAt wr p1 v1 b1 e1
  w2 : WAt wr p2 v2 b2 e2
  r1 : RWAt wr q1 u1 d1 f1
  r2 : RWAt wr q2 u2 d2 f2
  bk : Book wr kb n F
  c1 : Col c 1 (PF p1 v1) wr
  c2 : Col c 2 (PF p2 v2) wr
  c3 : Col c 3 (PF q1 u1) wr
  c4 : Col c 4 (PF q2 u2) wr
  c5 : Col c 5 (F) wr
  old : ∀ k, c k ≠ 0 → w.heap.size ≤ k
  e : Ext Nil w wr

theorem WS.ext {w wr w' : World} {c : Nat → Nat} {p1 : Nat} {v1 : Value} {b1 : List UInt8} {e1 : Int} {p2 : Nat} {v2 : Value} {b2 : List UInt8} {e2 : Int} {q1 : Nat} {u1 : Value} {d1 : List UInt8} {f1 : Int} {q2 : Nat} {u2 : Value} {d2 : List UInt8} {f2 : Int} {kb n : Nat} {F : Nat → Prop} (h : WS w wr c p1 v1 b1 e1 p2 v2 b2 e2 q1 u1 d1 f1 q2 u2 d2 f2 kb n F) (e : Ext Nil wr w') : WS w w' c p1 v1 b1 e1 p2 v2 b2 e2 q1 u1 d1 f1 q2 u2 d2 f2 kb n F :=
  ⟨h.w1.ext e fun _ _ h => h, h.w2.ext e fun _ _ h => h, h.r1.ext e fun _ _ h => h, h.r2.ext e fun _ _ h => h, h.bk.ext e fun _ _ h => h, h.c1.ext e.size, h.c2.ext e.size, h.c3.ext e.size, h.c4.ext e.size, h.c5.ext e.size, h.old, h.e.same e⟩

theorem WS.move1 {w wr w' : World} {c : Nat → Nat} {p1 : Nat} {v1 : Value} {b1 : List UInt8} {e1 : Int} {p2 : Nat} {v2 : Value} {b2 : List UInt8} {e2 : Int} {q1 : Nat} {u1 : Value} {d1 : List UInt8} {f1 : Int} {q2 : Nat} {u2 : Value} {d2 : List UInt8} {f2 : Int} {kb n : Nat} {F : Nat → Prop} {v1' : Value} {b1' : List UInt8} {e1' : Int} (h : WS w wr c p1 v1 b1 e1 p2 v2 b2 e2 q1 u1 d1 f1 q2 u2 d2 f2 kb n F) (hn : WAt w' p1 v1' b1' e1') (hs : Step (PF p1 v1) wr (PF p1 v1') w') : ∃ c', WS w w' c' p1 v1' b1' e1' p2 v2 b2 e2 q1 u1 d1 f1 q2 u2 d2 f2 kb n F :=
  ⟨paint c wr.heap.size 1, hn, h.w2.ext hs.1 (h.c2.sep h.c1 (by decide)), h.r1.ext hs.1 (h.c3.sep h.c1 (by decide)), h.r2.ext hs.1 (h.c4.sep h.c1 (by decide)), h.bk.ext hs.1 (h.c5.sep h.c1 (by decide)), h.c1.self hs hn.lt, h.c2.other hs.1.size, h.c3.other hs.1.size, h.c4.other hs.1.size, h.c5.other hs.1.size, paint_old h.old h.e.size, h.e.trans hs.1 fun k hk hF => by
    have h1 := (h.c1 k hF).1
    have h2 := h.old k (by rw [h1]; decide)
    omega⟩

theorem WS.move2 {w wr w' : World} {c : Nat → Nat} {p1 : Nat} {v1 : Value} {b1 : List UInt8} {e1 : Int} {p2 : Nat} {v2 : Value} {b2 : List UInt8} {e2 : Int} {q1 : Nat} {u1 : Value} {d1 : List UInt8} {f1 : Int} {q2 : Nat} {u2 : Value} {d2 : List UInt8} {f2 : Int} {kb n : Nat} {F : Nat → Prop} {v2' : Value} {b2' : List UInt8} {e2' : Int} (h : WS w wr c p1 v1 b1 e1 p2 v2 b2 e2 q1 u1 d1 f1 q2 u2 d2 f2 kb n F) (hn : WAt w' p2 v2' b2' e2') (hs : Step (PF p2 v2) wr (PF p2 v2') w') : ∃ c', WS w w' c' p1 v1 b1 e1 p2 v2' b2' e2' q1 u1 d1 f1 q2 u2 d2 f2 kb n F :=
  ⟨paint c wr.heap.size 2, h.w1.ext hs.1 (h.c1.sep h.c2 (by decide)), hn, h.r1.ext hs.1 (h.c3.sep h.c2 (by decide)), h.r2.ext hs.1 (h.c4.sep h.c2 (by decide)), h.bk.ext hs.1 (h.c5.sep h.c2 (by decide)), h.c1.other hs.1.size, h.c2.self hs hn.lt, h.c3.other hs.1.size, h.c4.other hs.1.size, h.c5.other hs.1.size, paint_old h.old h.e.size, h.e.trans hs.1 fun k hk hF => by
    have h1 := (h.c2 k hF).1
    have h2 := h.old k (by rw [h1]; decide)
    omega⟩

theorem WS.move3 {w wr w' : World} {c : Nat → Nat} {p1 : Nat} {v1 : Value} {b1 : List UInt8} {e1 : Int} {p2 : Nat} {v2 : Value} {b2 : List UInt8} {e2 : Int} {q1 : Nat} {u1 : Value} {d1 : List UInt8} {f1 : Int} {q2 : Nat} {u2 : Value} {d2 : List UInt8} {f2 : Int} {kb n : Nat} {F : Nat → Prop} {u1' : Value} {d1' : List UInt8} {f1' : Int} (h : WS w wr c p1 v1 b1 e1 p2 v2 b2 e2 q1 u1 d1 f1 q2 u2 d2 f2 kb n F) (hn : RWAt w' q1 u1' d1' f1') (hs : Step (PF q1 u1) wr (PF q1 u1') w') : ∃ c', WS w w' c' p1 v1 b1 e1 p2 v2 b2 e2 q1 u1' d1' f1' q2 u2 d2 f2 kb n F :=
  ⟨paint c wr.heap.size 3, h.w1.ext hs.1 (h.c1.sep h.c3 (by decide)), h.w2.ext hs.1 (h.c2.sep h.c3 (by decide)), hn, h.r2.ext hs.1 (h.c4.sep h.c3 (by decide)), h.bk.ext hs.1 (h.c5.sep h.c3 (by decide)), h.c1.other hs.1.size, h.c2.other hs.1.size, h.c3.self hs hn.lt, h.c4.other hs.1.size, h.c5.other hs.1.size, paint_old h.old h.e.size, h.e.trans hs.1 fun k hk hF => by
    have h1 := (h.c3 k hF).1
    have h2 := h.old k (by rw [h1]; decide)
    omega⟩

theorem WS.move4 {w wr w' : World} {c : Nat → Nat} {p1 : Nat} {v1 : Value} {b1 : List UInt8} {e1 : Int} {p2 : Nat} {v2 : Value} {b2 : List UInt8} {e2 : Int} {q1 : Nat} {u1 : Value} {d1 : List UInt8} {f1 : Int} {q2 : Nat} {u2 : Value} {d2 : List UInt8} {f2 : Int} {kb n : Nat} {F : Nat → Prop} {u2' : Value} {d2' : List UInt8} {f2' : Int} (h : WS w wr c p1 v1 b1 e1 p2 v2 b2 e2 q1 u1 d1 f1 q2 u2 d2 f2 kb n F) (hn : RWAt w' q2 u2' d2' f2') (hs : Step (PF q2 u2) wr (PF q2 u2') w') : ∃ c', WS w w' c' p1 v1 b1 e1 p2 v2 b2 e2 q1 u1 d1 f1 q2 u2' d2' f2' kb n F :=
  ⟨paint c wr.heap.size 4, h.w1.ext hs.1 (h.c1.sep h.c4 (by decide)), h.w2.ext hs.1 (h.c2.sep h.c4 (by decide)), h.r1.ext hs.1 (h.c3.sep h.c4 (by decide)), hn, h.bk.ext hs.1 (h.c5.sep h.c4 (by decide)), h.c1.other hs.1.size, h.c2.other hs.1.size, h.c3.other hs.1.size, h.c4.self hs hn.lt, h.c5.other hs.1.size, paint_old h.old h.e.size, h.e.trans hs.1 fun k hk hF => by
    have h1 := (h.c4 k hF).1
    have h2 := h.old k (by rw [h1]; decide)
    omega⟩

theorem WS.move5 {w wr w' : World} {c : Nat → Nat} {p1 : Nat} {v1 : Value} {b1 : List UInt8} {e1 : Int} {p2 : Nat} {v2 : Value} {b2 : List UInt8} {e2 : Int} {q1 : Nat} {u1 : Value} {d1 : List UInt8} {f1 : Int} {q2 : Nat} {u2 : Value} {d2 : List UInt8} {f2 : Int} {kb n : Nat} {F : Nat → Prop} {n' : Nat} {F' : Nat → Prop} (h : WS w wr c p1 v1 b1 e1 p2 v2 b2 e2 q1 u1 d1 f1 q2 u2 d2 f2 kb n F) (hn : Book w' kb n' F') (hs : Step (F) wr (F') w') : ∃ c', WS w w' c' p1 v1 b1 e1 p2 v2 b2 e2 q1 u1 d1 f1 q2 u2 d2 f2 kb n' F' :=
  ⟨paint c wr.heap.size 5, h.w1.ext hs.1 (h.c1.sep h.c5 (by decide)), h.w2.ext hs.1 (h.c2.sep h.c5 (by decide)), h.r1.ext hs.1 (h.c3.sep h.c5 (by decide)), h.r2.ext hs.1 (h.c4.sep h.c5 (by decide)), hn, h.c1.other hs.1.size, h.c2.other hs.1.size, h.c3.other hs.1.size, h.c4.other hs.1.size, h.c5.self hs hn.lt, paint_old h.old h.e.size, h.e.trans hs.1 fun k hk hF => by
    have h1 := (h.c5 k hF).1
    have h2 := h.old k (by rw [h1]; decide)
    omega⟩
end Go.Proofs.Ytdgagpoeefbdjaa
