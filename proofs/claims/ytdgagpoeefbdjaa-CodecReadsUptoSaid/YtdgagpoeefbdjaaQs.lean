/- Auxiliary: two readers of the program, two of the document, a book, kept apart by colours; what is new is the book's. No condition. -/
import Derived.Test.YtdgagpoeefbdjaaWs
import Derived.Test.YtdgagpoeefbdjaaStands
namespace Go.Proofs.Ytdgagpoeefbdjaa
open Go.RowKit

theorem RdAt.ltF {w : World} {p : Nat} {v : Value} {bs : List UInt8} {a : Nat} {err : Int} (h : RdAt w p v bs a err) : ∀ k, PF p v k → k < w.heap.size := fun k hk => by
  rcases hk with rfl | hk
  · exact h.cells.lt
  · exact h.lt k hk
theorem paint_new {c : Nat → Nat} {m i k : Nat} (h : m ≤ k) : paint c m i k = i := by
  unfold paint
  rw [if_neg (by omega)]
theorem paint_was {c : Nat → Nat} {m i k j : Nat} (h : c k = j) (hk : k < m) : paint c m i k = j := by
  unfold paint
  rw [if_pos hk, h]

structure RS (w wr : World) (c : Nat → Nat) (p1 : Nat) (v1 : Value) (q1 : Nat) (u1 : Value) (p2 : Nat) (v2 : Value) (q2 : Nat) (u2 : Value) (b1 b2 : List UInt8) (a1 : Nat) (e1 : Int) (d1 : Nat) (f1 : Int) (a2 : Nat) (e2 : Int) (d2 : Nat) (f2 : Int) (kb n : Nat) (F : Nat → Prop) : Prop where
  r1 : RdAt wr p1 v1 b1 a1 e1
  k1 : QAt wr q1 u1 b1 d1 f1
  r2 : RdAt wr p2 v2 b2 a2 e2
  k2 : QAt wr q2 u2 b2 d2 f2
  bk : Book wr kb n F
  c1 : Col c 1 (PF p1 v1) wr
  c2 : Col c 2 (PF q1 u1) wr
  c3 : Col c 3 (PF p2 v2) wr
  c4 : Col c 4 (PF q2 u2) wr
  c5 : Col c 5 (F) wr
  old : ∀ k, c k ≠ 0 → w.heap.size ≤ k
  e : Ext Nil w wr

theorem RS.ext {w wr w' : World} {c : Nat → Nat} {p1 : Nat} {v1 : Value} {q1 : Nat} {u1 : Value} {p2 : Nat} {v2 : Value} {q2 : Nat} {u2 : Value} {b1 b2 : List UInt8} {a1 : Nat} {e1 : Int} {d1 : Nat} {f1 : Int} {a2 : Nat} {e2 : Int} {d2 : Nat} {f2 : Int} {kb n : Nat} {F : Nat → Prop} (h : RS w wr c p1 v1 q1 u1 p2 v2 q2 u2 b1 b2 a1 e1 d1 f1 a2 e2 d2 f2 kb n F) (e : Ext Nil wr w') : RS w w' (paint c wr.heap.size 5) p1 v1 q1 u1 p2 v2 q2 u2 b1 b2 a1 e1 d1 f1 a2 e2 d2 f2 kb n F :=
  ⟨h.r1.ext e fun _ _ h => h, h.k1.ext e fun _ _ h => h, h.r2.ext e fun _ _ h => h, h.k2.ext e fun _ _ h => h, h.bk.ext e fun _ _ h => h, h.c1.other e.size, h.c2.other e.size, h.c3.other e.size, h.c4.other e.size, h.c5.other e.size, paint_old h.old h.e.size, h.e.same e⟩

theorem RS.move1 {w wr w' : World} {c : Nat → Nat} {p1 : Nat} {v1 : Value} {q1 : Nat} {u1 : Value} {p2 : Nat} {v2 : Value} {q2 : Nat} {u2 : Value} {b1 b2 : List UInt8} {a1 : Nat} {e1 : Int} {d1 : Nat} {f1 : Int} {a2 : Nat} {e2 : Int} {d2 : Nat} {f2 : Int} {kb n : Nat} {F : Nat → Prop} {x : Nat} {y : Int} (h : RS w wr c p1 v1 q1 u1 p2 v2 q2 u2 b1 b2 a1 e1 d1 f1 a2 e2 d2 f2 kb n F) (hn : RdAt w' p1 v1 b1 x y) (hx : Ext (One p1) wr w') : RS w w' (paint c wr.heap.size 5) p1 v1 q1 u1 p2 v2 q2 u2 b1 b2 x y d1 f1 a2 e2 d2 f2 kb n F :=
  ⟨hn, h.k1.ext hx fun k hk e => h.c2.sep h.c1 (by decide) k hk (.inl e), h.r2.ext hx fun k hk e => h.c3.sep h.c1 (by decide) k hk (.inl e), h.k2.ext hx fun k hk e => h.c4.sep h.c1 (by decide) k hk (.inl e), h.bk.ext hx fun k hk e => h.c5.sep h.c1 (by decide) k hk (.inl e), h.c1.other hx.size, h.c2.other hx.size, h.c3.other hx.size, h.c4.other hx.size, h.c5.other hx.size, paint_old h.old h.e.size, h.e.trans hx fun k hk e => by
    have h1 := (h.c1 k (.inl e)).1
    have h2 := h.old k (by rw [h1]; decide)
    omega⟩

theorem RS.move2 {w wr w' : World} {c : Nat → Nat} {p1 : Nat} {v1 : Value} {q1 : Nat} {u1 : Value} {p2 : Nat} {v2 : Value} {q2 : Nat} {u2 : Value} {b1 b2 : List UInt8} {a1 : Nat} {e1 : Int} {d1 : Nat} {f1 : Int} {a2 : Nat} {e2 : Int} {d2 : Nat} {f2 : Int} {kb n : Nat} {F : Nat → Prop} {x : Nat} {y : Int} (h : RS w wr c p1 v1 q1 u1 p2 v2 q2 u2 b1 b2 a1 e1 d1 f1 a2 e2 d2 f2 kb n F) (hn : QAt w' q1 u1 b1 x y) (hx : Ext (One q1) wr w') : RS w w' (paint c wr.heap.size 5) p1 v1 q1 u1 p2 v2 q2 u2 b1 b2 a1 e1 x y a2 e2 d2 f2 kb n F :=
  ⟨h.r1.ext hx fun k hk e => h.c1.sep h.c2 (by decide) k hk (.inl e), hn, h.r2.ext hx fun k hk e => h.c3.sep h.c2 (by decide) k hk (.inl e), h.k2.ext hx fun k hk e => h.c4.sep h.c2 (by decide) k hk (.inl e), h.bk.ext hx fun k hk e => h.c5.sep h.c2 (by decide) k hk (.inl e), h.c1.other hx.size, h.c2.other hx.size, h.c3.other hx.size, h.c4.other hx.size, h.c5.other hx.size, paint_old h.old h.e.size, h.e.trans hx fun k hk e => by
    have h1 := (h.c2 k (.inl e)).1
    have h2 := h.old k (by rw [h1]; decide)
    omega⟩

theorem RS.move3 {w wr w' : World} {c : Nat → Nat} {p1 : Nat} {v1 : Value} {q1 : Nat} {u1 : Value} {p2 : Nat} {v2 : Value} {q2 : Nat} {u2 : Value} {b1 b2 : List UInt8} {a1 : Nat} {e1 : Int} {d1 : Nat} {f1 : Int} {a2 : Nat} {e2 : Int} {d2 : Nat} {f2 : Int} {kb n : Nat} {F : Nat → Prop} {x : Nat} {y : Int} (h : RS w wr c p1 v1 q1 u1 p2 v2 q2 u2 b1 b2 a1 e1 d1 f1 a2 e2 d2 f2 kb n F) (hn : RdAt w' p2 v2 b2 x y) (hx : Ext (One p2) wr w') : RS w w' (paint c wr.heap.size 5) p1 v1 q1 u1 p2 v2 q2 u2 b1 b2 a1 e1 d1 f1 x y d2 f2 kb n F :=
  ⟨h.r1.ext hx fun k hk e => h.c1.sep h.c3 (by decide) k hk (.inl e), h.k1.ext hx fun k hk e => h.c2.sep h.c3 (by decide) k hk (.inl e), hn, h.k2.ext hx fun k hk e => h.c4.sep h.c3 (by decide) k hk (.inl e), h.bk.ext hx fun k hk e => h.c5.sep h.c3 (by decide) k hk (.inl e), h.c1.other hx.size, h.c2.other hx.size, h.c3.other hx.size, h.c4.other hx.size, h.c5.other hx.size, paint_old h.old h.e.size, h.e.trans hx fun k hk e => by
    have h1 := (h.c3 k (.inl e)).1
    have h2 := h.old k (by rw [h1]; decide)
    omega⟩

theorem RS.move4 {w wr w' : World} {c : Nat → Nat} {p1 : Nat} {v1 : Value} {q1 : Nat} {u1 : Value} {p2 : Nat} {v2 : Value} {q2 : Nat} {u2 : Value} {b1 b2 : List UInt8} {a1 : Nat} {e1 : Int} {d1 : Nat} {f1 : Int} {a2 : Nat} {e2 : Int} {d2 : Nat} {f2 : Int} {kb n : Nat} {F : Nat → Prop} {x : Nat} {y : Int} (h : RS w wr c p1 v1 q1 u1 p2 v2 q2 u2 b1 b2 a1 e1 d1 f1 a2 e2 d2 f2 kb n F) (hn : QAt w' q2 u2 b2 x y) (hx : Ext (One q2) wr w') : RS w w' (paint c wr.heap.size 5) p1 v1 q1 u1 p2 v2 q2 u2 b1 b2 a1 e1 d1 f1 a2 e2 x y kb n F :=
  ⟨h.r1.ext hx fun k hk e => h.c1.sep h.c4 (by decide) k hk (.inl e), h.k1.ext hx fun k hk e => h.c2.sep h.c4 (by decide) k hk (.inl e), h.r2.ext hx fun k hk e => h.c3.sep h.c4 (by decide) k hk (.inl e), hn, h.bk.ext hx fun k hk e => h.c5.sep h.c4 (by decide) k hk (.inl e), h.c1.other hx.size, h.c2.other hx.size, h.c3.other hx.size, h.c4.other hx.size, h.c5.other hx.size, paint_old h.old h.e.size, h.e.trans hx fun k hk e => by
    have h1 := (h.c4 k (.inl e)).1
    have h2 := h.old k (by rw [h1]; decide)
    omega⟩

theorem RS.move5 {w wr w' : World} {c : Nat → Nat} {p1 : Nat} {v1 : Value} {q1 : Nat} {u1 : Value} {p2 : Nat} {v2 : Value} {q2 : Nat} {u2 : Value} {b1 b2 : List UInt8} {a1 : Nat} {e1 : Int} {d1 : Nat} {f1 : Int} {a2 : Nat} {e2 : Int} {d2 : Nat} {f2 : Int} {kb n : Nat} {F : Nat → Prop} {n' : Nat} {F' G : Nat → Prop} (h : RS w wr c p1 v1 q1 u1 p2 v2 q2 u2 b1 b2 a1 e1 d1 f1 a2 e2 d2 f2 kb n F) (hn : Book w' kb n' F') (hx : Ext G wr w') (hG5 : ∀ k, G k → k < wr.heap.size → c k = 5) (hF : ∀ k, F' k → k < wr.heap.size → c k = 5) : RS w w' (paint c wr.heap.size 5) p1 v1 q1 u1 p2 v2 q2 u2 b1 b2 a1 e1 d1 f1 a2 e2 d2 f2 kb n' F' :=
  ⟨h.r1.ext hx fun k hk hG => by have h1 := (h.c1 k hk).1; have h2 := hG5 k hG (h.c1 k hk).2; omega, h.k1.ext hx fun k hk hG => by have h1 := (h.c2 k hk).1; have h2 := hG5 k hG (h.c2 k hk).2; omega, h.r2.ext hx fun k hk hG => by have h1 := (h.c3 k hk).1; have h2 := hG5 k hG (h.c3 k hk).2; omega, h.k2.ext hx fun k hk hG => by have h1 := (h.c4 k hk).1; have h2 := hG5 k hG (h.c4 k hk).2; omega, hn, h.c1.other hx.size, h.c2.other hx.size, h.c3.other hx.size, h.c4.other hx.size, fun k hk => ⟨by
    by_cases hlt : k < wr.heap.size
    · exact paint_was (hF k hk hlt) hlt
    · exact paint_new (by omega), hn.lt k hk⟩, paint_old h.old h.e.size, h.e.trans hx fun k hk hG => by
    have h1 := hG5 k hG (by have := h.e.size; omega)
    have h2 := h.old k (by rw [h1]; decide)
    omega⟩
end Go.Proofs.Ytdgagpoeefbdjaa
