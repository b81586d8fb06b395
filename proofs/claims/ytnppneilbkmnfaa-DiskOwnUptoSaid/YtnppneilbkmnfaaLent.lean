/- Contracts of the law's small functions: kind, lent, left. Conditions: what is lent fits into memory. -/
import Derived.Test.YtnppneilbkmnfaaRefW
namespace Go.Proofs.Ytnppneilbkmnfaa
open Go.RowKit

theorem tmod_neg (k : Int) (h : k < 0) : k.tmod 9 = -((-k) % 9) := by
  have h1 : (-k).tmod 9 = (-k) % 9 := Int.tmod_eq_emod_of_nonneg (by omega)
  have h2 := Int.neg_tmod (a := -k) (b := 9)
  rw [Int.neg_neg] at h2
  rw [h2, h1]

/-- the slice that a literal of bytes lays -/
theorem Bytes.lit (w : World) (l : List UInt8) (t : TypeId) (hm : l.length ≤ maxLen) : Bytes (w.alloc (.cells (bvs l).toArray t (0, 0))) (.slice (some ⟨w.heap.size, 0, none⟩) l.length l.length) l := by
  refine ⟨by simp [bvs], _, _, rfl, Nat.le_refl _, hm, fun _ => ⟨_, _, rfl, fun j u hj => ?_⟩⟩
  rw [Nat.zero_add]
  exact (At.new w (bvs l) t).cell j hj

theorem OwnB.head {w : World} {ao : Option Addr} {n cap : Nat} {l : List UInt8} (h : OwnB w (.slice ao n cap) l) (hn : l ≠ []) : ∃ g c cs, ao = some ⟨g, 0, none⟩ ∧ cap = c + 1 ∧ n = l.length ∧ At w g 5 cs ∧ n ≤ cap ∧ cs.length = cap ∧ cs.take n = bvs l := by
  obtain ⟨h1, h2⟩ := h
  rcases h2 with ⟨ao', h3, h4⟩ | ⟨g, c, cs, h3, h4, h5, h6, h7, h8⟩
  · exact absurd (List.eq_nil_of_length_eq_zero h4) hn
  · simp only [Value.slice.injEq] at h3
    obtain ⟨rfl, rfl, rfl⟩ := h3
    exact ⟨g, c, cs, rfl, rfl, rfl, h4, h5, by simpa using h7, by simpa using h8⟩

theorem Ext.drewN {F : Nat → Prop} {a w : World} (h : Ext F a w) (n : Nat) : Ext F a (w.drewN n) := h.same ⟨rfl, rfl, rfl, Nat.le_refl _, fun _ _ _ => rfl⟩
theorem OwnB.drewN {w : World} {v : Value} {l : List UInt8} (h : OwnB w v l) (n : Nat) : OwnB (w.drewN n) v l := h.ext (F := Nil) ((Ext.refl _ _).drewN n) fun _ _ h => h
theorem Bytes.drewN {w : World} {v : Value} {l : List UInt8} (h : Bytes w v l) (n : Nat) : Bytes (w.drewN n) v l := h.ext (F := Nil) ((Ext.refl _ _).drewN n) fun _ _ h => h

/-- a byte stored into a row -/
theorem OwnB.store {w : World} {g n cap : Nat} {l : List UInt8} (h : OwnB w (.slice (some ⟨g, 0, none⟩) n cap) l) (k : Nat) (hk : k < l.length) (b : UInt8) : OwnB (w.setCell ⟨g, k, none⟩ (bv b)) (.slice (some ⟨g, 0, none⟩) n cap) (l.set k b) := by
  obtain ⟨g', c, cs, hao, rfl, rfl, hA, h1, h2, h3⟩ := h.head (by intro e; subst e; simp at hk)
  simp only [Option.some.injEq, Addr.mk.injEq, and_true] at hao
  subst hao
  obtain ⟨ao, cap', hs, hs2, hs3⟩ := Own.shape h
  simp only [Value.slice.injEq] at hs
  refine ⟨by simp [bvs], .inr ⟨g, c, cs.set k (bv b), by rw [List.length_set], hA.set k (bv b), by rw [List.length_set]; exact h1, by omega, by simpa using h2, ?_⟩⟩
  rw [List.length_set, Nat.mul_one, List.take_set, h3]
  simp [bvs, List.map_set]
theorem OwnB.at {w : World} {g n cap : Nat} {l : List UInt8} (h : OwnB w (.slice (some ⟨g, 0, none⟩) n cap) l) (k : Nat) (hk : k < l.length) :
    w.cell? ⟨g, k, none⟩ = some (.int .u8 (l[k].toNat : Int)) ∧ w.frozen? ⟨g, k, none⟩ = false := by
  obtain ⟨g', c, cs, hao, rfl, rfl, hA, h1, h2, h3⟩ := h.head (by intro e; subst e; simp at hk)
  simp only [Option.some.injEq, Addr.mk.injEq, and_true] at hao
  subst hao
  refine ⟨hA.cell k ?_, hA.frozen k (by omega)⟩
  have h4 : (cs.take l.length)[k]? = some (bv l[k]) := by rw [h3]; simp [bvs, hk]
  rw [List.getElem?_take, if_pos hk] at h4
  exact h4

theorem negs_at (L : List UInt8) (k : Nat) (h : k < L.length) {p : k < ((L.take k).map (~~~ ·) ++ L.drop k).length} : ((L.take k).map (~~~ ·) ++ L.drop k)[k] = L[k] := by
  rw [List.getElem_append_right (by simp; omega)]
  simp [Nat.min_eq_left (Nat.le_of_lt h)]
theorem negs_set (L : List UInt8) (k : Nat) (h : k < L.length) : ((L.take k).map (~~~ ·) ++ L.drop k).set k (~~~ L[k]) = (L.take (k + 1)).map (~~~ ·) ++ L.drop (k + 1) := by
  rw [List.set_append_right _ _ (by simp; omega)]
  have e : k - ((L.take k).map (~~~ ·)).length = 0 := by simp; omega
  rw [e, List.take_succ_eq_append_getElem h, List.drop_eq_getElem_cons h]
  simp only [List.set_cons_zero, List.map_append, List.map_cons, List.map_nil, List.append_assoc, List.cons_append, List.nil_append]
theorem not_byte_all : ∀ m : Fin 256, bits BinOp.xor IntKind.u8 (if IntKind.u8.signed = true then -1 else IntKind.u8.max) (m.val : Int) = ((~~~ (UInt8.ofNat m.val)).toNat : Int) := by decide +kernel
theorem not_byte (b : UInt8) : Value.int IntKind.u8 (bits BinOp.xor IntKind.u8 (if IntKind.u8.signed = true then -1 else IntKind.u8.max) (b.toNat : Int)) = bv (~~~ b) := by
  have h := not_byte_all ⟨b.toNat, b.toNat_lt⟩
  simp only [UInt8.ofNat_toNat] at h
  rw [h]
  rfl

end Go.Proofs.Ytnppneilbkmnfaa
