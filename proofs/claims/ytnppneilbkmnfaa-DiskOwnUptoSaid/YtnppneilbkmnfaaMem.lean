/- Auxiliary: words on memory (what a call leaves alone; a slice that reads as a list; a slice that owns its row) and the laws of append over them. No condition. -/
import Derived.WalkKit
import Derived.Deep.AppendSrc
import Derived.Lib.Hide
namespace Go.Proofs.Ytnppneilbkmnfaa
open Go.RowKit

/-! ### what a call leaves alone -/

/-- Of the blocks that were there in w none has turned but for those of F. -/
structure Ext (F : Nat → Prop) (w w' : World) : Prop where
  os : w'.os = w.os
  tape : w'.tape = w.tape
  output : w'.output = w.output
  size : w.heap.size ≤ w'.heap.size
  block : ∀ k, k < w.heap.size → ¬ F k → w'.heap[k]? = w.heap[k]?

def Nil : Nat → Prop := fun _ => False
def One (b : Nat) : Nat → Prop := fun k => k = b

theorem Ext.refl (F : Nat → Prop) (w : World) : Ext F w w := ⟨rfl, rfl, rfl, Nat.le_refl _, fun _ _ _ => rfl⟩
theorem Ext.mono {F G : Nat → Prop} {w w' : World} (h : Ext F w w') (hf : ∀ k, k < w.heap.size → F k → G k) : Ext G w w' :=
  ⟨h.os, h.tape, h.output, h.size, fun k hk hg => h.block k hk fun hF => hg (hf k hk hF)⟩
theorem Ext.trans {F G : Nat → Prop} {a b c : World} (h : Ext F a b) (k : Ext G b c) (hg : ∀ i, i < a.heap.size → G i → F i) : Ext F a c :=
  ⟨k.os.trans h.os, k.tape.trans h.tape, k.output.trans h.output, Nat.le_trans h.size k.size, fun i hi hf =>
    (k.block i (Nat.lt_of_lt_of_le hi h.size) fun hG => hf (hg i hi hG)).trans (h.block i hi hf)⟩
theorem Ext.same {F : Nat → Prop} {a b c : World} (h : Ext F a b) (k : Ext F b c) : Ext F a c := h.trans k fun _ _ h => h
theorem Ext.drew {F : Nat → Prop} {a w : World} (h : Ext F a w) : Ext F a w.drew := ⟨h.os, h.tape, h.output, h.size, h.block⟩
theorem Ext.alloc {F : Nat → Prop} {a w : World} (h : Ext F a w) (o : Obj) : Ext F a (w.alloc o) :=
  h.trans (G := F) ⟨rfl, rfl, rfl, by simp, fun k hk _ => Below.heap_alloc _ _ _ hk⟩ fun _ _ h => h
theorem Ext.setCell {F : Nat → Prop} {a w : World} (h : Ext F a w) {p : Addr} (hp : p.block < a.heap.size → F p.block) (u : Value) : Ext F a (w.setCell p u) :=
  h.trans (G := One p.block) ⟨rfl, rfl, rfl, by simp [World.setCell], fun k _ hk => Below.heap_setCell _ _ _ _ hk⟩ fun i hi e => by
    have e : i = p.block := e
    subst e
    exact hp hi
theorem Ext.below {F : Nat → Prop} {w w' : World} (h : Ext F w w') {B : Nat} (hB : B ≤ w.heap.size) (hF : ∀ k, F k → B ≤ k) : Below B w w' :=
  ⟨h.os, h.tape, h.output, h.size, fun k hk => h.block k (by omega) fun hf => by have := hF k hf; omega⟩
theorem Ext.cell {F : Nat → Prop} {w w' : World} (h : Ext F w w') {p : Addr} {v : Value} (hp : w.cell? p = some v) (hf : ¬ F p.block) : w'.cell? p = some v := by
  have hlt : p.block < w.heap.size := by
    unfold World.cell? at hp
    by_cases hl : p.block < w.heap.size
    · exact hl
    · rw [Array.getElem?_eq_none (by omega)] at hp
      simp at hp
  rw [← hp]
  exact World.cell?_of_block (w := w) (h.block p.block hlt hf)

/-! ### a block, whole -/

/-- Block b holds just these cells, none of them frozen. -/
def At (w : World) (b : Nat) (t : TypeId) (cs : List Value) : Prop :=
  ∃ lo hi, w.heap[b]? = some (.cells cs.toArray t (lo, hi)) ∧ (cs.length ≤ lo ∨ hi = 0)

theorem At.mk {w : World} {b : Nat} {t : TypeId} {cs : List Value} (h : w.heap[b]? = some (.cells cs.toArray t (0, 0))) : At w b t cs := ⟨0, 0, h, .inr rfl⟩
theorem At.lt {w : World} {b : Nat} {t : TypeId} {cs : List Value} (h : At w b t cs) : b < w.heap.size := by
  obtain ⟨lo, hi, h, -⟩ := h
  by_cases hl : b < w.heap.size
  · exact hl
  · rw [Array.getElem?_eq_none (by omega)] at h
    simp at h
theorem At.cell {w : World} {b : Nat} {t : TypeId} {cs : List Value} (h : At w b t cs) (i : Nat) {v : Value} (hi : cs[i]? = some v) : w.cell? ⟨b, i, none⟩ = some v := by
  obtain ⟨lo, hi', h, -⟩ := h
  simp only [World.cell?, h]
  simpa using hi
theorem At.frozen {w : World} {b : Nat} {t : TypeId} {cs : List Value} (h : At w b t cs) (i : Nat) (hi : i < cs.length := by simp) : w.frozen? ⟨b, i, none⟩ = false := by
  obtain ⟨lo, hi', h, h2⟩ := h
  simp only [World.frozen?, h]
  rcases h2 with h2 | h2
  · simp; omega
  · simp [h2]
theorem At.ext {F : Nat → Prop} {w w' : World} {b : Nat} {t : TypeId} {cs : List Value} (h : At w b t cs) (e : Ext F w w') (hf : ¬ F b) : At w' b t cs := by
  have hl := h.lt
  obtain ⟨lo, hi, h, h2⟩ := h
  exact ⟨lo, hi, (e.block b hl hf).trans h, h2⟩
theorem At.new (w : World) (cs : List Value) (t : TypeId) : At (w.alloc (.cells cs.toArray t (0, 0))) w.heap.size t cs := by
  refine At.mk ?_
  show (w.heap.push _)[_]? = _
  simp
theorem At.set {w : World} {b : Nat} {t : TypeId} {cs : List Value} (h : At w b t cs) (i : Nat) (v : Value) : At (w.setCell ⟨b, i, none⟩ v) b t (cs.set i v) := by
  obtain ⟨lo, hi, h, h2⟩ := h
  refine ⟨lo, hi, ?_, by simpa using h2⟩
  simp only [World.setCell, Array.getElem?_modify, h, if_true]
  simp
theorem At.setOther {w : World} {b : Nat} {t : TypeId} {cs : List Value} (h : At w b t cs) (p : Addr) (v : Value) (hne : b ≠ p.block) : At (w.setCell p v) b t cs := by
  obtain ⟨lo, hi, h, h2⟩ := h
  refine ⟨lo, hi, ?_, h2⟩
  rw [Below.heap_setCell _ _ _ _ hne]
  exact h
theorem At.alloc {w : World} {b : Nat} {t : TypeId} {cs : List Value} (h : At w b t cs) (o : Obj) : At (w.alloc o) b t cs := by
  have hl := h.lt
  obtain ⟨lo, hi, h, h2⟩ := h
  refine ⟨lo, hi, ?_, h2⟩
  rw [Below.heap_alloc _ _ _ hl]
  exact h
theorem At.drew {w : World} {b : Nat} {t : TypeId} {cs : List Value} (h : At w b t cs) : At w.drew b t cs := h

/-! ### slices -/

/-- The block that a slice with capacity reaches. -/
def foot : Value → Option Nat
  | .slice (some a) _ (_ + 1) => some a.block
  | _ => none
/-- as a set -/
def inFoot (v : Value) : Nat → Prop := fun k => foot v = some k

/-- The slice v has n elements of 'size' cells; their cells are xs. -/
def Reads (w : World) (size : Nat) (v : Value) (n : Nat) (xs : List Value) : Prop :=
  xs.length = n * size ∧ ∃ ao cap, v = .slice ao n cap ∧ n ≤ cap ∧ cap ≤ maxLen ∧
    (xs ≠ [] → ∃ b off, ao = some ⟨b, off, none⟩ ∧ ∀ j u, xs[j]? = some u → w.cell? ⟨b, off + j, none⟩ = some u)

/-- The slice v has n elements, and a row of its own: the head of a block that is its capacity (or it has no capacity). -/
def Own (w : World) (t : TypeId) (size : Nat) (v : Value) (n : Nat) (xs : List Value) : Prop :=
  xs.length = n * size ∧ ((∃ ao, v = .slice ao 0 0 ∧ n = 0) ∨
    ∃ g cap cs, v = .slice (some ⟨g, 0, none⟩) n (cap + 1) ∧ At w g t cs ∧ n ≤ cap + 1 ∧ cap + 1 ≤ maxLen ∧ cs.length = (cap + 1) * size ∧ cs.take (n * size) = xs)

theorem Own.nil (w : World) (t : TypeId) (size : Nat) : Own w t size (.slice none 0 0) 0 [] := ⟨by simp, .inl ⟨none, rfl, rfl⟩⟩
theorem Own.none (w : World) (t : TypeId) (size : Nat) (ao : Option Addr) : Own w t size (.slice ao 0 0) 0 [] := ⟨by simp, .inl ⟨ao, rfl, rfl⟩⟩

theorem Own.lt {w : World} {t : TypeId} {size : Nat} {v : Value} {n : Nat} {xs : List Value} (h : Own w t size v n xs) : ∀ k, inFoot v k → k < w.heap.size := by
  intro k hk
  rcases h.2 with ⟨ao, rfl, rfl⟩ | ⟨g, cap, cs, rfl, hg, _⟩
  · cases ao <;> simp [inFoot, foot] at hk
  · simp [inFoot, foot] at hk
    subst hk
    exact hg.lt

theorem Own.ext {F : Nat → Prop} {w w' : World} {t : TypeId} {size : Nat} {v : Value} {n : Nat} {xs : List Value} (h : Own w t size v n xs) (e : Ext F w w') (hf : ∀ k, inFoot v k → ¬ F k) : Own w' t size v n xs := by
  refine ⟨h.1, ?_⟩
  rcases h.2 with h2 | ⟨g, cap, cs, rfl, hg, h3⟩
  · exact .inl h2
  · exact .inr ⟨g, cap, cs, rfl, hg.ext e (hf g rfl), h3⟩

theorem Own.reads {w : World} {t : TypeId} {size : Nat} {v : Value} {n : Nat} {xs : List Value} (h : Own w t size v n xs) : Reads w size v n xs := by
  refine ⟨h.1, ?_⟩
  rcases h.2 with ⟨ao, rfl, rfl⟩ | ⟨g, cap, cs, rfl, hg, h1, h2, h3, h4⟩
  · refine ⟨ao, 0, rfl, Nat.le_refl _, by simp [maxLen], fun hne => absurd (List.eq_nil_of_length_eq_zero (by simpa using h.1)) hne⟩
  · refine ⟨_, _, rfl, h1, h2, fun _ => ⟨g, 0, rfl, fun j u hu => ?_⟩⟩
    rw [Nat.zero_add]
    refine hg.cell j ?_
    rw [← h4, List.getElem?_take] at hu
    split at hu
    · exact hu
    · cases hu

theorem Reads.ext {F : Nat → Prop} {w w' : World} {size : Nat} {v : Value} {n : Nat} {xs : List Value} (h : Reads w size v n xs) (e : Ext F w w') (hf : ∀ k, inFoot v k → ¬ F k) : Reads w' size v n xs := by
  obtain ⟨h1, ao, cap, rfl, h2, h3, h4⟩ := h
  refine ⟨h1, ao, cap, rfl, h2, h3, fun hne => ?_⟩
  obtain ⟨b, off, rfl, hc⟩ := h4 hne
  refine ⟨b, off, rfl, fun j u hu => e.cell (hc j u hu) (hf b ?_)⟩
  have : 0 < xs.length := List.length_pos_iff.2 hne
  have hn : 0 < n := by
    rcases Nat.eq_zero_or_pos n with h0 | h0
    · subst h0; omega
    · exact h0
  obtain ⟨c, rfl⟩ : ∃ c, cap = c + 1 := ⟨cap - 1, by omega⟩
  rfl

theorem Reads.alloc {w : World} {size : Nat} {v : Value} {n : Nat} {xs : List Value} (h : Reads w size v n xs) (o : Obj) : Reads (w.alloc o) size v n xs :=
  h.ext (F := Nil) ((Ext.refl _ _).alloc o) fun _ _ h => h
theorem Own.alloc {w : World} {t : TypeId} {size : Nat} {v : Value} {n : Nat} {xs : List Value} (h : Own w t size v n xs) (o : Obj) : Own (w.alloc o) t size v n xs :=
  h.ext (F := Nil) ((Ext.refl _ _).alloc o) fun _ _ h => h

/-- the second argument of an append, out of 'Reads' -/
theorem Reads.src {P : Program} {w : World} {size : Nat} {v : Value} {n : Nat} {xs : List Value} (h : Reads w size v n xs) {tx e' : TypeId} (hk : P.underlying tx = some (.slice e')) (h1 : ∀ u ∈ xs, u.oneCell' = true) : Src P size tx v n xs w := by
  obtain ⟨h2, ao, cap, rfl, h3, h4, h5⟩ := h
  by_cases hne : xs = []
  · subst hne
    have hz : n * size = 0 := by simpa using h2.symm
    refine ⟨.inl ⟨e', hk⟩, fun _ => rfl, ?_, ?_, h2, h1⟩ <;> cases ao <;> simp [Builtin.firstCells, loadCells, loadCellsFrom, hz]
  · obtain ⟨b, off, rfl, hc⟩ := h5 hne
    refine Src.ofSlice w hk ⟨b, off, none⟩ n cap xs h2 (fun j u hu => ?_) h1
    have := hc j u hu
    unfold Addr.add
    split
    · next h0 => subst h0; simpa using this
    · exact this

theorem splice_cons {α : Type} (ds : List α) (o : Nat) (y : α) (ys : List α) (h : o + ys.length < ds.length) :
    (ds.set o y).take (o + 1) ++ ys ++ (ds.set o y).drop (o + 1 + ys.length) = ds.take o ++ (y :: ys) ++ ds.drop (o + (y :: ys).length) := by
  obtain ⟨A, d, B, rfl, rfl⟩ : ∃ A d B, ds = A ++ d :: B ∧ A.length = o :=
    ⟨ds.take o, ds[o]'(by omega), ds.drop (o + 1), by simp, by simp; omega⟩
  have e : (A ++ d :: B).set A.length y = A ++ y :: B := by simp
  rw [e]
  have e1 : A ++ y :: B = (A ++ [y]) ++ B := by simp
  have e2 : (A ++ [y]).length = A.length + 1 := by simp
  have t1 : ((A ++ [y]) ++ B).take (A.length + 1) = A ++ [y] := by rw [← e2]; exact List.take_left
  have t2 : ((A ++ [y]) ++ B).drop (A.length + 1 + ys.length) = B.drop ys.length := by
    rw [← List.drop_drop, ← e2, List.drop_left]
  have t3 : (A ++ d :: B).drop (A.length + (y :: ys).length) = B.drop ys.length := by
    rw [← List.drop_drop, List.drop_left]
    simp
  rw [e1, t1, t2, t3, List.take_left]
  simp

/-- THE LAW OF append OVER A ROW OF ONE's OWN, whatever is appended. -/
theorem run_append {P : Program} (w : World) (t tx ty e : TypeId) (i : TypeInfo) (z : Value) (size bytes : Nat) (ht : P.underlying t = some (.slice e)) (hi : P.info? e = some i) (hz : i.zero = some z)
    (hsize : i.size = size) (hby : i.bytes = bytes) (hzs : z.cells.size = size)
    (v : Value) (n : Nat) (xs : List Value) (hown : Own w e size v n xs) (x : Value) (m : Nat) (news : List Value) (hs : Src P size tx x m news w)
    (h63 : n + m ≤ maxLen) (hbytes : (n + m) * bytes ≤ 140737488355328) :
    ∃ v' w', (Builtin.append_ #[t, tx] ty #[v, x]).run P w = .ok v' w' ∧ Own w' e size v' (n + m) (xs ++ news) ∧ Ext (inFoot v) w w' ∧ (∀ k, inFoot v' k → inFoot v k ∨ w.heap.size ≤ k) := by
  subst hsize
  subst hby
  have hsmall : n + m ≤ 9223372036854775807 := by simp only [maxLen] at h63; omega
  have hlen : (xs ++ news).length = (n + m) * i.size := by rw [List.length_append, hown.1, hs.newsLen, Nat.add_mul]
  have grow : ∀ (base : Option Addr) (old : Nat), old < n + m → v = .slice base n old → (Builtin.firstCells i.size n (.slice base n old)).run P w.drew = .ok xs.toArray w.drew →
      ∃ v' w', (Builtin.append_ #[t, tx] ty #[v, x]).run P w = .ok v' w' ∧ Own w' e i.size v' (n + m) (xs ++ news) ∧ Ext (inFoot v) w w' ∧ (∀ k, inFoot v' k → inFoot v k ∨ w.heap.size ≤ k) := by
    intro base old ho hv hf
    have hr := run_append_grow_src (P := P) w t tx ty e i z ht hi hz base n old xs hf x m news hs ho (by omega) (growslice_fits (by omega) hbytes)
    have hge := grownCap_ge w (n + m) old e
    have hcm : grownCap w (n + m) old e ≤ maxLen := grownCap_le_maxLen w (n + m) old e h63
    subst hv
    obtain ⟨c, hc⟩ : ∃ c, grownCap w (n + m) old e = c + 1 := ⟨grownCap w (n + m) old e - 1, by omega⟩
    refine ⟨_, _, hr, ⟨hlen, .inr ⟨w.heap.size, c, ((xs ++ news).toArray ++ Builtin.zeroCells z.cells (grownCap w (n + m) old e - (n + m))).toList, by rw [hc], ?_, by omega, by omega, ?_, ?_⟩⟩, (Ext.refl _ _).drew.alloc _, ?_⟩
    · have := At.new w.drew ((xs ++ news).toArray ++ Builtin.zeroCells z.cells (grownCap w (n + m) old e - (n + m))).toList e
      rw [Array.toArray_toList] at this
      exact this
    · simp only [Array.toList_append, List.length_append, Array.length_toList, size_zeroCells, hzs]
      rw [List.length_append] at hlen
      rw [hlen, ← Nat.add_mul]
      congr 1
      omega
    · simp only [Array.toList_append]
      rw [← hlen]
      exact List.take_left
    · intro k hk
      simp [inFoot, hc, foot] at hk
      right
      omega
  rcases hown.2 with ⟨ao, rfl, rfl⟩ | ⟨g, cap, cs, rfl, hg, hnc, hcm, hcs, htake⟩
  · have hx : xs = [] := List.eq_nil_of_length_eq_zero (by simpa using hown.1)
    subst hx
    by_cases hm : m = 0
    · subst hm
      have hn : news = [] := List.eq_nil_of_length_eq_zero (by simpa using hs.newsLen)
      subst hn
      refine ⟨.slice ao 0 0, w, ?_, Own.none w e i.size ao, Ext.refl _ _, fun k hk => .inl hk⟩
      have hl := hs.len
      have hc := hs.cells
      rcases hs.kind with ⟨e', hk⟩ | hk <;> cases ao <;> simp [Builtin.append_, run_underlying ht, run_underlying hk, sizeOf, typeInfo, hi, hl, hc, storeCells]
    · exact grow ao 0 (by omega) rfl (by cases ao <;> simp [Builtin.firstCells, loadCells, loadCellsFrom])
  · by_cases hroom : n + m ≤ cap + 1
    · have hfit : n * i.size + news.length ≤ cs.length := by rw [hs.newsLen, hcs, ← Nat.add_mul]; exact Nat.mul_le_mul_right _ hroom
      have hr := run_append_room_src (P := P) w t tx ty e i ht hi g 0 n (cap + 1) x m news hs hroom
        (fun j hj => by
          have hlt : 0 + n * i.size + j < cs.length := by omega
          rw [hg.cell (0 + n * i.size + j) (List.getElem?_eq_getElem hlt)]
          rfl)
        (fun j hj => hg.frozen _ (by omega))
      have hset : At (w.setCells g (0 + n * i.size) news) g e (cs.take (n * i.size) ++ news ++ cs.drop (n * i.size + news.length)) ∧ Ext (One g) w (w.setCells g (0 + n * i.size) news) := by
        have gen : ∀ (news : List Value) (o : Nat) (u : World) (ds : List Value), At u g e ds → o + news.length ≤ ds.length →
            At (u.setCells g o news) g e (ds.take o ++ news ++ ds.drop (o + news.length)) ∧ Ext (One g) u (u.setCells g o news) := by
          intro news
          induction news with
          | nil =>
            intro o u ds hu _
            refine ⟨?_, ?_⟩
            · simp only [World.setCells, List.length_nil, Nat.add_zero, List.append_nil, List.take_append_drop]; exact hu
            · simp only [World.setCells]; exact Ext.refl _ _
          | cons y ys ih =>
            intro o u ds hu hle
            simp only [List.length_cons] at hle
            have hu2 := hu.set o y
            have h2 := ih (o + 1) (u.setCell ⟨g, o, none⟩ y) (ds.set o y) hu2 (by simp; omega)
            simp only [World.setCells]
            refine ⟨?_, ((Ext.refl (One g) u).setCell (p := ⟨g, o, none⟩) (fun _ => rfl) y).same h2.2⟩
            have e1 := splice_cons ds o y ys (by omega)
            rw [← e1]
            exact h2.1
        have := gen news (0 + n * i.size) w cs hg (by omega)
        simpa using this
      refine ⟨_, _, hr, ⟨hlen, .inr ⟨g, cap, _, rfl, hset.1, hroom, hcm, ?_, ?_⟩⟩, hset.2.mono (fun k _ hk => by
        have hk : k = g := hk
        subst hk
        rfl), fun k hk => .inl hk⟩
      · simp only [List.length_append, List.length_take, List.length_drop]
        omega
      · rw [htake, ← hlen]
        exact List.take_left
    · refine grow (some ⟨g, 0, none⟩) (cap + 1) (by omega) rfl ?_
      refine run_firstCells_some (P := P) w.drew i.size n ⟨g, 0, none⟩ n (cap + 1) xs hown.1 (fun j u hu => ?_)
      have : w.cell? ⟨g, j, none⟩ = some u := by
        refine hg.cell j ?_
        rw [← htake, List.getElem?_take] at hu
        split at hu
        · exact hu
        · cases hu
      unfold Addr.add
      split
      · next h0 => subst h0; exact this
      · simpa using this
end Go.Proofs.Ytnppneilbkmnfaa
