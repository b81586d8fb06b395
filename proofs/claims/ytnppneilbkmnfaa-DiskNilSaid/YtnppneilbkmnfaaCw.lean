/- The walk of the law DiskCounted: it returns true, and no older memory turns. Condition: none. -/
import Derived.Test.YtnppneilbkmnfaaCn
namespace Go.Proofs.Ytnppneilbkmnfaa
open Go.RowKit

theorem num_any (w : World) (e : Int) : Calls Try.prog 18 #[.int .i64 e] w fun r w' => r = .returned (.int .i64 e) ∧ w = w' := by
  go_enter Try.func18, Try.ntmps18
  go_wp2
  go_ret
  exact ⟨rfl, rfl⟩

theorem tmod_in (a : Int) (q : Int) (hq : 0 < q) : -q < a.tmod q ∧ a.tmod q < q := by
  refine ⟨?_, Int.tmod_lt_of_pos a hq⟩
  have h := Int.tmod_lt_of_pos (-a) hq
  rw [Int.neg_tmod] at h
  omega
theorem roll20 (a : Int) : ∃ k : Nat, 1 ≤ k ∧ k ≤ 20 ∧ wrap64 (1 + (wrap64 (a.tmod 20 + 20)).tmod 20) = (k : Int) := by
  have h1 : -20 < a.tmod 20 ∧ a.tmod 20 < 20 := tmod_in a 20 (by omega)
  rw [IntWalk.wrap64_in (a.tmod 20 + 20) (by omega)]
  have h2 : 0 ≤ (a.tmod 20 + 20).tmod 20 ∧ (a.tmod 20 + 20).tmod 20 < 20 := ⟨Int.tmod_nonneg _ (by omega), Int.tmod_lt_of_pos _ (by omega)⟩
  rw [IntWalk.wrap64_in _ (by omega)]
  exact ⟨(1 + (a.tmod 20 + 20).tmod 20).toNat, by omega, by omega, by omega⟩
theorem roll30 (a : Int) : ∃ k : Nat, k < 30 ∧ (wrap64 (a.tmod 30 + 30)).tmod 30 = (k : Int) := by
  have h1 : -30 < a.tmod 30 ∧ a.tmod 30 < 30 := tmod_in a 30 (by omega)
  rw [IntWalk.wrap64_in (a.tmod 30 + 30) (by omega)]
  have h2 : 0 ≤ (a.tmod 30 + 30).tmod 30 ∧ (a.tmod 30 + 30).tmod 30 < 30 := ⟨Int.tmod_nonneg _ (by omega), Int.tmod_lt_of_pos _ (by omega)⟩
  exact ⟨((a.tmod 30 + 30).tmod 30).toNat, by omega, by omega⟩

/-- one Append of the law -/
theorem counted_append (w0 wr : World) (d : Nat) (k : Nat) (done : Bool) (J : Nat) (h1 : 1 ≤ k) (h2 : k ≤ 20) (hJ : 1 ≤ J) (hi : J ≤ 30) (hL : Life w0 wr d (cnt k done (J - 1))) :
    Calls Try.prog 20 #[.pointer (some ⟨d, 0, none⟩), .string ⟨#[97]⟩, .slice (some ⟨wr.heap.size, 0, none⟩) 1 1] (wr.alloc (.cells #[.int .u8 (J : Int)] 5 (0, 0)))
      fun e w' => e = .returned (.int .i64 (if J < k then 0 else 63)) ∧ Life w0 w' d (cnt k done J) := by
  obtain ⟨F, hD, hF, hE⟩ := hL
  have e1 : Ext Nil wr (wr.alloc (.cells #[.int .u8 (J : Int)] 5 (0, 0))) := (Ext.refl _ _).alloc _
  have hb := OwnB.one wr (n := (J : Int)) (by omega) (by omega)
  have hc := cnt_calls k done (J - 1)
  have hA := append_m _ d _ F (hD.ext e1 fun _ _ h => h) (by omega) ⟨#[97]⟩ (by decide) _ _ hb.bytes (fun q hq hFq => by
    have := hD.lt q hFq
    simp only [inFoot, foot, Option.some.injEq] at hq
    omega) (by simp)
  have hs := cnt_step (i := J - 1) done h1 h2 (by omega)
  rw [show J - 1 + 1 = J by omega] at hs
  refine hA.mono ?_
  intro e w' h
  have h := Life.acted hF (hE.same e1) h
  have e2 : toB (J : Int) = UInt8.ofNat J := by rfl
  rw [e2] at h
  have h : e = .returned (.int .i64 ((cnt k done (J - 1)).append [97] [UInt8.ofNat J]).2) ∧ Life w0 w' d ((cnt k done (J - 1)).append [97] [UInt8.ofNat J]).1 := h
  rw [hs] at h
  exact h
theorem life_on {w0 w : World} {d : Nat} {D : Dk} (h : Life w0 w d D) : Calls Try.prog 21 #[.pointer (some ⟨d, 0, none⟩)] w fun e w' => e = .returned (.bool (!D.off)) ∧ w = w' := by
  obtain ⟨F, ⟨mb, av, fbs, h, -⟩, -⟩ := h
  exact on_at w d mb av fbs D h
theorem life_calls {w0 w : World} {d : Nat} {D : Dk} (h : Life w0 w d D) : Calls Try.prog 22 #[.pointer (some ⟨d, 0, none⟩)] w fun e w' => e = .returned (.int .i64 D.calls) ∧ w = w' := by
  obtain ⟨F, ⟨mb, av, fbs, h, -⟩, -⟩ := h
  exact calls_at w d mb av fbs D h

/-- a row of files, opened at its k-th -/
theorem OwnI.at {w : World} {v : Value} {l : List FI} (h : OwnI w v l) (k : Nat) (hk : k < l.length) : ∃ g c, v = .slice (some ⟨g, 0, none⟩) l.length (c + 1) ∧ l.length ≤ c + 1 ∧ c + 1 ≤ maxLen ∧ w.cell? ⟨g, k * 2, none⟩ = some (encS l[k].nm) ∧ w.cell? ⟨g, k * 2 + 1, none⟩ = some l[k].v ∧ g < w.heap.size := by
  have hr := Own.reads h
  rcases h.2 with ⟨ao', h1, h2⟩ | ⟨g, c, cs, h1, h2, h3, h4, h5, h6⟩
  · omega
  · subst h1
    obtain ⟨-, ao', cap', h7, -, -, h8⟩ := hr
    simp only [Value.slice.injEq, true_and] at h7
    obtain ⟨rfl, rfl⟩ := h7
    obtain ⟨b, off, h9, hc⟩ := h8 (by intro e; have := fiCells_length l; rw [e] at this; simp at this; omega)
    simp only [Option.some.injEq, Addr.mk.injEq, and_true] at h9
    obtain ⟨rfl, rfl⟩ := h9
    have c0 := hc (k * 2) (encS l[k].nm) (fiCells_at l k hk 0 (by omega))
    have c1 := hc (k * 2 + 1) l[k].v (fiCells_at l k hk 1 (by omega))
    rw [Nat.zero_add] at c0 c1
    exact ⟨g, c, rfl, h3, h4, c0, c1, h2.lt⟩
theorem counted_told {w : World} {v : Value} {l : List FI} {k m n : Nat} {done : Bool} (hI : ImgO w v l) (hp : l.map FI.pair = (cnt k done m).told [100] 0) (h1 : 1 ≤ k) (h2 : k ≤ 20) (hm : m < 30) (hn : n = cntW k done m) :
    (n = 0 → ∃ ao cap, v = .slice ao 0 cap) ∧ (n ≠ 0 → ∃ g c gb cb, v = .slice (some ⟨g, 0, none⟩) 1 (c + 1) ∧ c + 1 ≤ maxLen ∧ w.cell? ⟨g, 1, none⟩ = some (.slice (some ⟨gb, 0, none⟩) n cb) ∧ n ≤ cb ∧ cb ≤ maxLen ∧ w.cell? ⟨gb, n - 1, none⟩ = some (.int .u8 n) ∧ g < w.heap.size ∧ gb < w.heap.size) := by
  have he := cnt_end done h1 h2 hm
  unfold cntEnd at he
  simp only [← hp, ← hn] at he
  constructor
  · intro h0
    rw [if_pos h0] at he
    have hl : l = [] := by simpa using of_decide_eq_true he
    subst hl
    obtain ⟨ao, cap, h, -⟩ := Own.shape hI.row
    exact ⟨ao, cap, h⟩
  · intro h0
    rw [if_neg h0] at he
    have hn30 : n ≤ 30 := by rw [hn]; unfold cntW; split <;> (try split) <;> omega
    match l, hI, he with
    | [], _, he => simp at he
    | x :: y :: r, _, he => simp at he
    | [x], hI, he =>
      obtain ⟨hbl, hbn⟩ := of_decide_eq_true he
      obtain ⟨g, c, rfl, -, hc2, -, c1, hg⟩ := hI.row.at 0 (by simp)
      have hB := hI.bytes x (List.mem_singleton.2 rfl)
      have hx : ([x] : List FI)[0] = x := rfl
      rw [hx] at c1
      obtain ⟨ao, cap, hv, hcap, hcm⟩ := hB.shape
      rw [hv] at hB c1
      have hbl : x.b.length = n := hbl
      obtain ⟨gb, cb, cs, rfl, rfl, -⟩ := hB.head (by intro e; rw [e] at hbl; simp at hbl; omega)
      obtain ⟨a1, -⟩ := hB.at (n - 1) (by omega)
      have hbn : x.b[n - 1]? = some (UInt8.ofNat n) := hbn
      rw [List.getElem?_eq_getElem (by omega)] at hbn
      rw [Option.some.inj hbn] at a1
      have ht : (UInt8.ofNat n).toNat = n := by rw [UInt8.toNat_ofNat']; omega
      rw [ht] at a1
      rw [hbl] at c1 hcap
      exact ⟨g, c, gb, _, rfl, hc2, c1, hcap, hcm, a1, hg, (cell_spot a1).2⟩

/-- the Crash of the law -/
theorem counted_crash (w0 wr : World) (d : Nat) (D : Dk) (hL : Life w0 wr d D) (h0 : D.crash.2 = 0) :
    Calls Try.prog 23 #[.pointer (some ⟨d, 0, none⟩), .slice (some ⟨wr.heap.size, 0, none⟩) 1 1, .int .u8 0] (wr.alloc (.cells #[.int .i64 100] 3 (0, 0)))
      fun e w' => ∃ v l, e = .returned (.tuple #[.agg #[v], .int .i64 0]) ∧ ImgO w' v l ∧ l.map FI.pair = D.told [100] 0 ∧ Ext Nil w0 w' := by
  obtain ⟨F, hD, hF, hE⟩ := hL
  have e1 : Ext Nil wr (wr.alloc (.cells #[.int .i64 100] 3 (0, 0))) := (Ext.refl _ _).alloc _
  have hk : Reads (wr.alloc (.cells #[.int .i64 100] 3 (0, 0))) 1 (.slice (some ⟨wr.heap.size, 0, none⟩) 1 1) 1 (([100] : List Int).map (.int .i64 ·)) :=
    ⟨rfl, _, _, rfl, Nat.le_refl _, by simp [maxLen], fun _ => ⟨_, _, rfl, fun j u hu => by rw [Nat.zero_add]; exact (At.new wr [.int .i64 100] 3).cell j hu⟩⟩
  have hC := crash_m _ d D F (hD.ext e1 fun _ _ h => h) _ [100] hk (fun q hq hFq => by
    have := hD.lt q hFq
    simp only [inFoot, foot, Option.some.injEq] at hq
    omega) 0
  refine hC.mono ?_
  rintro e w' ⟨v, l, rfl, hC⟩
  rw [h0]
  obtain ⟨-, -, -, hx⟩ := Life.crashed (hD.ext e1 fun _ _ h => h) hF (hE.same e1) hC
  exact ⟨v, l, rfl, hC.own, hC.pairs, hx⟩

set_option maxRecDepth 20000 in
set_option maxHeartbeats 2000000 in
theorem counted_any (w : World) (at_ n : Int) (done : Bool) :
    Calls Try.prog 3 #[.int .i64 at_, .int .i64 n, .bool done] w fun e w' => e = .returned (.bool true) ∧ Ext Nil w w' := by
  have hN := new_at w 4096 (by omega) (by omega)
  have HN := Lib.hid hN
  clear hN
  obtain ⟨k, hk1, hk2, hkw⟩ := roll20 at_
  obtain ⟨m, hm2, hmw⟩ := roll30 n
  have hk0 : (1 : Int) ≤ k := by omega
  go_enter Try.func3, Try.ntmps3
  go_wp2_with (first
    | (go_at_call 17; refine (HN.out).mono ?_; rintro e w1 ⟨rfl, h1, e1⟩)
    | (go_at_call 19; refine (arm_m w1 _ _ _ ⟨_, _, _, h1, rfl⟩ (by decide) (by decide) (k : Int) 2 done).mono ?_; intro e w2 hq; have hq := Life.acted (w0 := w) (by intro q hq; simp [dbl, footL, foot] at hq; omega) e1 hq; rw [cnt_arm k hk1 hk2 done] at hq; obtain ⟨rfl, hL⟩ := hq; clear hq)
    | (go_at_call 18; refine (num_any _ _).mono ?_; rintro e w' ⟨rfl, rfl⟩))
  have HL := Lib.hid hL
  clear hL h1 e1 HN hkw hmw
  go_loopw [11] (fun i wr => ∃ (J : Nat), i = .int .i64 (J : Int) ∧ 1 ≤ J ∧ J ≤ m + 1 ∧ Life w wr (w.heap.size + 1) (cnt k done (J - 1))) (fun i _ => m + 1 - (intOf i).toNat)
  case atStart => exact ⟨1, rfl, Nat.le_refl _, by omega, HL.out⟩
  case round =>
    obtain ⟨J, rfl, hJ1, hJ, hL⟩ := hrel
    by_cases hlt : J ≤ m
    · have hu : IntKind.u8.wrap (J : Int) = (J : Int) := by rw [IntKind.wrap_u8']; omega
      have hA := counted_append w wr _ k done J hk1 hk2 hJ1 (by omega) hL
      have HA := Lib.hid hA
      have hoff := cnt_off k done J
      clear hA hL
      by_cases hJk : J < k
      · rw [if_pos hJk] at HA
        rw [decide_eq_true hJk] at hoff
        go_wp2_with (first
          | (go_at_call 20; refine (HA.out).mono ?_; rintro e w3 ⟨rfl, h3⟩)
          | (go_at_call 21; refine (life_on h3).mono ?_; rintro e w' ⟨rfl, rfl⟩; rw [hoff])
          | (go_at_call 18; refine (num_any _ _).mono ?_; rintro e w' ⟨rfl, rfl⟩))
        exact ⟨⟨J + 1, by simp, by omega, by omega, h3⟩, by simp [intOf]; omega⟩
      · rw [if_neg hJk] at HA
        rw [decide_eq_false hJk] at hoff
        have hJk2 : k ≤ J := by omega
        go_wp2_with (first
          | (go_at_call 20; refine (HA.out).mono ?_; rintro e w3 ⟨rfl, h3⟩)
          | (go_at_call 21; refine (life_on h3).mono ?_; rintro e w' ⟨rfl, rfl⟩; rw [hoff])
          | (go_at_call 18; refine (num_any _ _).mono ?_; rintro e w' ⟨rfl, rfl⟩))
        exact ⟨⟨J + 1, by simp, by omega, by omega, h3⟩, by simp [intOf]; omega⟩
    · obtain rfl : J = m + 1 := by omega
      have hL : Life w wr (w.heap.size + 1) (cnt k done m) := hL
      have hC := counted_crash w wr _ _ hL (cnt_crash k done m)
      have hA := life_calls hL
      rw [cnt_calls k done m] at hA
      have HC := Lib.hid hC; have HA := Lib.hid hA
      have hmin : min (m : Int) (k : Int) = ((min m k : Nat) : Int) := by omega
      have hnot : ¬ ((m + 1 : Nat) : Int) ≤ (m : Int) := by omega
      obtain ⟨N, hN1, hN2⟩ : ∃ N : Nat, N = min m k ∧ N ≤ 30 := ⟨_, rfl, by omega⟩
      rw [← hN1] at hmin HA
      clear hC hL hA hN1 HL hlt hJ1 hJ
      by_cases hkm : k ≤ m
      · cases done
        · obtain ⟨K, hK⟩ : ∃ K, K = k - 1 := ⟨_, rfl⟩
          have hKw : IntKind.i64.wrap ((k : Int) - 1) = (K : Int) := by rw [IntWalk.i64_in _ (by omega)]; omega
          by_cases hz : K = 0
          · have hn : K = cntW k false m := by unfold cntW; simp [show ¬ m < k by omega, hK]
            have HNN := Lib.hid hn
            clear hn
            clear hK
            go_wp2_with (first
              | (go_at_call 22; refine (HA.out).mono ?_; rintro e w' ⟨rfl, rfl⟩)
              | (go_at_call 23; refine (HC.out).mono ?_; rintro e w5 ⟨v, l, rfl, hI, hp, e5⟩; obtain ⟨T0, T1⟩ := counted_told hI hp hk1 hk2 hm2 HNN.out; obtain ⟨ao5, cap5, rfl⟩ := T0 (by omega); clear T0 T1 hI hp)
              | (go_at_call 18; refine (num_any _ _).mono ?_; rintro e w' ⟨rfl, rfl⟩))
            go_ret
            exact ⟨rfl, e5.alloc _⟩
          · have hmw : IntKind.u8.wrap (K : Int) = (K : Int) := by rw [IntKind.wrap_u8']; omega
            obtain ⟨M, hM⟩ : ∃ M, M = K - 1 := ⟨_, rfl⟩
            have hM1 : IntKind.i64.wrap ((K : Int) - 1) = (M : Int) := by rw [IntWalk.i64_in _ (by omega)]; omega
            have hMl : M < K := by omega
            have HM := Lib.hid hM
            clear hM
            have hn : K = cntW k false m := by unfold cntW; simp [show ¬ m < k by omega, hK]
            have HNN := Lib.hid hn
            clear hn
            clear hK
            go_wp2_with (first
              | (go_at_call 22; refine (HA.out).mono ?_; rintro e w' ⟨rfl, rfl⟩)
              | (go_at_call 23; refine (HC.out).mono ?_; rintro e w5 ⟨v, l, rfl, hI, hp, e5⟩; obtain ⟨T0, T1⟩ := counted_told hI hp hk1 hk2 hm2 HNN.out; obtain ⟨g5, c5, gb5, cb5, rfl, q1, q2, q3, q4, q5, q6, q7⟩ := T1 (by omega); rw [← HM.out] at q5; clear T0 T1 hI hp)
              | (go_at_call 18; refine (num_any _ _).mono ?_; rintro e w' ⟨rfl, rfl⟩))
            go_ret
            exact ⟨rfl, e5.alloc _⟩
        · have hmw : IntKind.u8.wrap (k : Int) = (k : Int) := by rw [IntKind.wrap_u8']; omega
          obtain ⟨M, hM⟩ : ∃ M, M = k - 1 := ⟨_, rfl⟩
          have hM1 : IntKind.i64.wrap ((k : Int) - 1) = (M : Int) := by rw [IntWalk.i64_in _ (by omega)]; omega
          have hMl : M < k := by omega
          have HM := Lib.hid hM
          clear hM
          have hn : k = cntW k true m := by unfold cntW; simp [show ¬ m < k by omega]
          have HNN := Lib.hid hn
          clear hn
          go_wp2_with (first
            | (go_at_call 22; refine (HA.out).mono ?_; rintro e w' ⟨rfl, rfl⟩)
            | (go_at_call 23; refine (HC.out).mono ?_; rintro e w5 ⟨v, l, rfl, hI, hp, e5⟩; obtain ⟨T0, T1⟩ := counted_told hI hp hk1 hk2 hm2 HNN.out; obtain ⟨g5, c5, gb5, cb5, rfl, q1, q2, q3, q4, q5, q6, q7⟩ := T1 (by omega); rw [← HM.out] at q5; clear T0 T1 hI hp)
            | (go_at_call 18; refine (num_any _ _).mono ?_; rintro e w' ⟨rfl, rfl⟩))
          go_ret
          exact ⟨rfl, e5.alloc _⟩
      · by_cases hz : m = 0
        · have hn : m = cntW k done m := by unfold cntW; simp [show m < k by omega]
          have HNN := Lib.hid hn
          clear hn
          go_wp2_with (first
            | (go_at_call 22; refine (HA.out).mono ?_; rintro e w' ⟨rfl, rfl⟩)
            | (go_at_call 23; refine (HC.out).mono ?_; rintro e w5 ⟨v, l, rfl, hI, hp, e5⟩; obtain ⟨T0, T1⟩ := counted_told hI hp hk1 hk2 hm2 HNN.out; obtain ⟨ao5, cap5, rfl⟩ := T0 (by omega); clear T0 T1 hI hp)
            | (go_at_call 18; refine (num_any _ _).mono ?_; rintro e w' ⟨rfl, rfl⟩))
          go_ret
          exact ⟨rfl, e5.alloc _⟩
        · have hmw : IntKind.u8.wrap (m : Int) = (m : Int) := by rw [IntKind.wrap_u8']; omega
          obtain ⟨M, hM⟩ : ∃ M, M = m - 1 := ⟨_, rfl⟩
          have hM1 : IntKind.i64.wrap ((m : Int) - 1) = (M : Int) := by rw [IntWalk.i64_in _ (by omega)]; omega
          have hMl : M < m := by omega
          have HM := Lib.hid hM
          clear hM
          have hn : m = cntW k done m := by unfold cntW; simp [show m < k by omega]
          have HNN := Lib.hid hn
          clear hn
          go_wp2_with (first
            | (go_at_call 22; refine (HA.out).mono ?_; rintro e w' ⟨rfl, rfl⟩)
            | (go_at_call 23; refine (HC.out).mono ?_; rintro e w5 ⟨v, l, rfl, hI, hp, e5⟩; obtain ⟨T0, T1⟩ := counted_told hI hp hk1 hk2 hm2 HNN.out; obtain ⟨g5, c5, gb5, cb5, rfl, q1, q2, q3, q4, q5, q6, q7⟩ := T1 (by omega); rw [← HM.out] at q5; clear T0 T1 hI hp)
            | (go_at_call 18; refine (num_any _ _).mono ?_; rintro e w' ⟨rfl, rfl⟩))
          go_ret
          exact ⟨rfl, e5.alloc _⟩
end Go.Proofs.Ytnppneilbkmnfaa
