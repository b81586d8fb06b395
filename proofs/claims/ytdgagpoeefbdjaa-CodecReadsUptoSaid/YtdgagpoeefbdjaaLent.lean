/- Contracts of the law's small functions: kind, lent, left. Conditions: what is lent fits into memory. -/
import Derived.Test.YtdgagpoeefbdjaaRefW
namespace Go.Proofs.Ytdgagpoeefbdjaa
open Go.RowKit

theorem tmod_neg (k : Int) (h : k < 0) : k.tmod 9 = -((-k) % 9) := by
  have h1 : (-k).tmod 9 = (-k) % 9 := Int.tmod_eq_emod_of_nonneg (by omega)
  have h2 := Int.neg_tmod (a := -k) (b := 9)
  rw [Int.neg_neg] at h2
  rw [h2, h1]

theorem kind_any (w : World) (k : Int) (h0 : -9223372036854775808 ≤ k) (h1 : k ≤ 9223372036854775807) :
    Calls Try.prog 35 #[.int .i64 k] w fun e w' => e = .returned (.int .i64 (k % 9)) ∧ w = w' := by
  by_cases hk : 0 ≤ k
  · go_enter Try.func35, Try.ntmps35
    go_wp2
    go_ret
    exact ⟨rfl, rfl⟩
  · have H := Lib.hid (tmod_neg k (by omega))
    go_enter Try.func35, Try.ntmps35
    go_wp2
    · have h : k.tmod 9 < 0 := by assumption
      go_ret
      refine ⟨ret_int ?_, rfl⟩
      have := H.out
      unfold wrap64
      omega
    · have h : 0 ≤ k.tmod 9 := by assumption
      go_ret
      refine ⟨ret_int ?_, rfl⟩
      have := H.out
      omega

/-- the slice that a literal of bytes lays -/
theorem Bytes.lit (w : World) (l : List UInt8) (t : TypeId) (hm : l.length ≤ maxLen) : Bytes (w.alloc (.cells (bvs l).toArray t (0, 0))) (.slice (some ⟨w.heap.size, 0, none⟩) l.length l.length) l := by
  refine ⟨by simp [bvs], _, _, rfl, Nat.le_refl _, hm, fun _ => ⟨_, _, rfl, fun j u hj => ?_⟩⟩
  rw [Nat.zero_add]
  exact (At.new w (bvs l) t).cell j hj

theorem OwnB.head {w : World} {ao : Option Addr} {n cap : Nat} {l : List UInt8} (h : OwnB w (.slice ao n cap) l) (hn : l ≠ []) : ∃ g c cs, ao = some ⟨g, 0, none⟩ ∧ cap = c + 1 ∧ n = l.length ∧ At w g 5 cs ∧ n ≤ cap ∧ cs.length = cap ∧ cs.take n = bvs l := by
  obtain ⟨h1, h2⟩ := h
  rcases h2 with ⟨ao', h3, h4⟩ | ⟨g, c, cs, h3, h4, h5, h6, h7, h8⟩
  · exact absurd (List.eq_nil_of_length_eq_zero h4) hn
  · simp only [Value.slice.injEq] at h3
    obtain ⟨rfl, rfl, rfl⟩ := h3
    exact ⟨g, c, cs, rfl, rfl, rfl, h4, h5, by simpa using h7, by simpa using h8⟩

theorem lent_any (w : World) (x : Value) (ys : List UInt8) (hx : Bytes w x ys) (hfit : Fits (ys.length + 3)) :
    Calls Try.prog 40 #[x] w fun e w' => ∃ g cap, ys.length + 3 ≤ cap ∧ cap ≤ maxLen ∧ e = .returned (.slice (some ⟨g, 0, none⟩) ys.length cap) ∧
      OwnB w' (.slice (some ⟨g, 0, none⟩) (ys.length + 3) cap) (ys ++ [161, 162, 163]) ∧ Step Nil w (One g) w' := by
  have hfit' : ys.length + 3 ≤ 1099511627776 := hfit
  obtain ⟨ao, cap, rfl, hcap, hmax, hc⟩ := hx.open
  have hsrc := Reads.src (P := Try.prog) (hx.alloc (.cells #[] 5 (0, 0))) Try.underlying29 (bvs_one ys)
  go_enter Try.func40, Try.ntmps40
  go_wp2_with (first
    | (at_builtin; refine wpList_append_fresh hsrc (by unfold Fits at *; omega) rfl (.tmp 4) (.tmp 5) rfl rfl rfl ?_; intro ao2 cap2 w2 hc1 hc2 hown hst; have hs2 := Reads.src (P := Try.prog) (Bytes.lit w2 [161, 162, 163] 5 (by simp [maxLen])) Try.underlying29 (bvs_one _))
    | (at_builtin; refine wpList_append_bytes (OwnB.alloc hown _) hs2 (by unfold Fits at *; simp; omega) rfl (.tmp 7) (.tmp 8) rfl rfl rfl ?_; intro ao3 cap3 w3 hd1 hd2 hown3 hst3; obtain ⟨g, c, cs, hao, hcc, hnn, hA, -⟩ := hown3.head (by simp); subst hao; subst hcc; have hle : (ys.length : Int) ≤ (c : Int) + 1 := by simp at hd1; omega))
  go_ret
  refine ⟨g, c + 1, by simpa using hd1, hd2, rfl, hown3, ?_⟩
  have h := ((step_alloc Nil w _).trans hst).trans ((step_alloc _ _ _).trans hst3)
  exact ⟨h.1, fun k hk => h.2 k (by
    have hk : k = g := hk
    subst hk
    rfl)⟩

theorem Ext.drewN {F : Nat → Prop} {a w : World} (h : Ext F a w) (n : Nat) : Ext F a (w.drewN n) := h.same ⟨rfl, rfl, rfl, Nat.le_refl _, fun _ _ _ => rfl⟩
theorem OwnB.drewN {w : World} {v : Value} {l : List UInt8} (h : OwnB w v l) (n : Nat) : OwnB (w.drewN n) v l := h.ext (F := Nil) ((Ext.refl _ _).drewN n) fun _ _ h => h
theorem Bytes.drewN {w : World} {v : Value} {l : List UInt8} (h : Bytes w v l) (n : Nat) : Bytes (w.drewN n) v l := h.ext (F := Nil) ((Ext.refl _ _).drewN n) fun _ _ h => h

/-- a byte stored into a row -/
theorem OwnB.store {w : World} {g n cap : Nat} {l : List UInt8} (h : OwnB w (.slice (some ⟨g, 0, none⟩) n cap) l) (k : Nat) (hk : k < l.length) (b : UInt8) : OwnB (w.setCell ⟨g, k, none⟩ (bv b)) (.slice (some ⟨g, 0, none⟩) n cap) (l.set k b) := by
  obtain ⟨g', c, cs, hao, rfl, rfl, hA, h1, h2, h3⟩ := h.head (by intro e; subst e; simp at hk)
  simp only [Option.some.injEq, Addr.mk.injEq, and_true] at hao
  subst hao
  obtain ⟨ao, cap', hs, hs2, hs3⟩ := Own.shape h
  simp only [Value.slice.injEq] at hs
  refine ⟨by simp [bvs], .inr ⟨g, c, cs.set k (bv b), by rw [List.length_set], hA.set k (bv b), by rw [List.length_set]; exact h1, by omega, by simpa using h2, ?_⟩⟩
  rw [List.length_set, Nat.mul_one, List.take_set, h3]
  simp [bvs, List.map_set]
theorem OwnB.at {w : World} {g n cap : Nat} {l : List UInt8} (h : OwnB w (.slice (some ⟨g, 0, none⟩) n cap) l) (k : Nat) (hk : k < l.length) :
    w.cell? ⟨g, k, none⟩ = some (.int .u8 (l[k].toNat : Int)) ∧ w.frozen? ⟨g, k, none⟩ = false := by
  obtain ⟨g', c, cs, hao, rfl, rfl, hA, h1, h2, h3⟩ := h.head (by intro e; subst e; simp at hk)
  simp only [Option.some.injEq, Addr.mk.injEq, and_true] at hao
  subst hao
  refine ⟨hA.cell k ?_, hA.frozen k (by omega)⟩
  have h4 : (cs.take l.length)[k]? = some (bv l[k]) := by rw [h3]; simp [bvs, hk]
  rw [List.getElem?_take, if_pos hk] at h4
  exact h4

theorem negs_at (L : List UInt8) (k : Nat) (h : k < L.length) {p : k < ((L.take k).map (~~~ ·) ++ L.drop k).length} : ((L.take k).map (~~~ ·) ++ L.drop k)[k] = L[k] := by
  rw [List.getElem_append_right (by simp; omega)]
  simp [Nat.min_eq_left (Nat.le_of_lt h)]
theorem negs_set (L : List UInt8) (k : Nat) (h : k < L.length) : ((L.take k).map (~~~ ·) ++ L.drop k).set k (~~~ L[k]) = (L.take (k + 1)).map (~~~ ·) ++ L.drop (k + 1) := by
  rw [List.set_append_right _ _ (by simp; omega)]
  have e : k - ((L.take k).map (~~~ ·)).length = 0 := by simp; omega
  rw [e, List.take_succ_eq_append_getElem h, List.drop_eq_getElem_cons h]
  simp only [List.set_cons_zero, List.map_append, List.map_cons, List.map_nil, List.append_assoc, List.cons_append, List.nil_append]
theorem not_byte_all : ∀ m : Fin 256, bits BinOp.xor IntKind.u8 (if IntKind.u8.signed = true then -1 else IntKind.u8.max) (m.val : Int) = ((~~~ (UInt8.ofNat m.val)).toNat : Int) := by decide +kernel
theorem not_byte (b : UInt8) : Value.int IntKind.u8 (bits BinOp.xor IntKind.u8 (if IntKind.u8.signed = true then -1 else IntKind.u8.max) (b.toNat : Int)) = bv (~~~ b) := by
  have h := not_byte_all ⟨b.toNat, b.toNat_lt⟩
  simp only [UInt8.ofNat_toNat] at h
  rw [h]
  rfl

theorem left_any (w : World) (g cap : Nat) (x : Value) (ys : List UInt8) (hl : OwnB w (.slice (some ⟨g, 0, none⟩) (ys.length + 3) cap) (ys ++ [161, 162, 163])) (hx : Bytes w x ys) (hfit : Fits (ys.length + 3)) :
    Calls Try.prog 42 #[.slice (some ⟨g, 0, none⟩) ys.length cap, x] w fun e w' => e = .returned (.bool true) ∧
      OwnB w' (.slice (some ⟨g, 0, none⟩) (ys.length + 3) cap) ((ys ++ [161, 162, 163]).map (~~~ ·)) ∧ Ext (One g) w w' := by
  have hfit' : ys.length + 3 ≤ 1099511627776 := hfit
  obtain ⟨ao, capx, rfl, hcapx, hmaxx, hc⟩ := hx.open
  obtain ⟨g', c, cs, hao, hcap, hn, hA, h1, h2, h3⟩ := hl.head (by simp)
  have hcm : cap ≤ maxLen := by
    obtain ⟨_, _, e, _, h⟩ := Own.shape hl
    simp only [Value.slice.injEq] at e
    omega
  have hB : Bytes w (.slice (some ⟨g, 0, none⟩) ys.length cap) ys := by
    refine ⟨by simp [bvs], _, cap, rfl, by omega, hcm, fun _ => ⟨g, 0, rfl, fun j u hj => ?_⟩⟩
    have hj' : j < ys.length := by
      have := (List.getElem?_eq_some_iff.1 hj).1
      simpa [bvs] using this
    have h4 := (hl.at j (by simp; omega)).1
    rw [Nat.zero_add, h4, ← hj]
    simp [bvs, bv, hj', List.getElem_append_left hj']
  have hle : (ys.length : Int) + 3 ≤ (cap : Int) := by simp at hn; omega
  have a0 := (hl.at ys.length (by simp)).1
  have a1 := (hl.at (ys.length + 1) (by simp)).1
  have a2 := (hl.at (ys.length + 2) (by simp)).1
  simp at a0 a1 a2
  clear hA h1 h2 h3 hc hn hcap hao
  go_enter Try.func42, Try.ntmps42
  go_wp2_with (go_at_call 38; refine (same_any ys ys w _ _ hB hx).mono ?_; rintro e w' ⟨rfl, nn, rfl⟩)
  go_loopw [7] (fun i wr => ∃ k : Nat, k ≤ ys.length + 3 ∧ i = .int .i64 k ∧ OwnB wr (.slice (some ⟨g, 0, none⟩) (ys.length + 3) cap) (((ys ++ [161, 162, 163]).take k).map (~~~ ·) ++ (ys ++ [161, 162, 163]).drop k) ∧ Ext (One g) w wr) (fun i _ => ys.length + 3 - (intOf i).toNat)
  case atStart => exact ⟨0, Nat.zero_le _, rfl, by simpa using hl.drewN nn, ⟨rfl, rfl, rfl, Nat.le_refl _, fun _ _ _ => rfl⟩⟩
  case round =>
    obtain ⟨k, hk, rfl, hown, hS⟩ := hrel
    clear a0 a1 a2
    generalize hL : ys ++ [161, 162, 163] = L at *
    have hLl : L.length = ys.length + 3 := by rw [← hL]; simp
    by_cases hlt : k < ys.length + 3
    · have hkl : k < L.length := by omega
      have hat := hown.at k (by simp; omega)
      have c1 := hat.1
      have f1 := hat.2
      rw [negs_at L k hkl] at c1
      have HL := Lib.hid hLl
      have HL2 := Lib.hid hL
      clear hLl hL hat
      go_wp2
      rw [not_byte]
      refine ⟨⟨k + 1, by omega, by go_num, ?_, hS.setCell (p := ⟨g, k, none⟩) (fun _ => rfl) _⟩, by simp [intOf]; omega⟩
      have h := hown.store k (by simp; omega) (~~~ L[k])
      rw [negs_set L k hkl] at h
      exact h
    · go_wp2
      go_ret
      refine ⟨rfl, ?_, hS⟩
      rw [hL]
      rw [List.take_of_length_le (by omega), List.drop_of_length_le (by omega), List.append_nil] at hown
      exact hown
end Go.Proofs.Ytdgagpoeefbdjaa
