/- Plain: the disk of the law DiskCounted, call by call (no program in sight). | The walk of the law DiskCounted: it returns true, and no older memory turns. Condition: none. | The methods at a disk that no call made: it has no map. Condition: none. | The walks of the law DiskNil: nothing, DiskNil. Condition: none. | Auxiliary: a call (Op) that can be read as data, opened. No condition. -/
import Derived.Test.YtnppneilbkmnfaaZD
import Derived.Test.YtnppneilbkmnfaaOpn
namespace Go.Proofs.Ytnppneilbkmnfaa

deriving instance DecidableEq for FileM
deriving instance DecidableEq for ArmM
deriving instance DecidableEq for Dk

def cntF (n : Nat) : List FileM := if n = 0 then [] else [⟨[97], (List.range n).map fun j => UInt8.ofNat (j + 1), 0⟩]
/-- the disk behind i calls -/
def cnt (k : Nat) (done : Bool) (i : Nat) : Dk :=
  if i < k then ⟨4096, cntF i, false, false, i, [⟨k, k, 2, done⟩]⟩ else ⟨4096, cntF (if done then k else k - 1), true, false, k, []⟩
def cntOk (k : Nat) (done : Bool) (i : Nat) : Bool := decide ((cnt k done i).append [97] [UInt8.ofNat (i + 1)] = (cnt k done (i + 1), if i + 1 < k then 0 else 63))
theorem cnt_all : ((List.range 20).all fun k => (List.range 30).all fun i => cntOk (k + 1) true i && cntOk (k + 1) false i) = true := by decide +kernel
theorem cnt_step {k i : Nat} (done : Bool) (h1 : 1 ≤ k) (h2 : k ≤ 20) (hi : i < 30) : (cnt k done i).append [97] [UInt8.ofNat (i + 1)] = (cnt k done (i + 1), if i + 1 < k then 0 else 63) := by
  have h := cnt_all
  rw [List.all_eq_true] at h
  have h := h (k - 1) (List.mem_range.2 (by omega))
  rw [List.all_eq_true] at h
  have h := h i (List.mem_range.2 hi)
  rw [show k - 1 + 1 = k by omega, Bool.and_eq_true] at h
  cases done
  · exact of_decide_eq_true h.2
  · exact of_decide_eq_true h.1
/-- how many bytes the crash tells -/
def cntW (k : Nat) (done : Bool) (m : Nat) : Nat := if m < k then m else if done then k else k - 1
def cntEnd (k : Nat) (done : Bool) (m : Nat) : Bool :=
  let im := (cnt k done m).told [100] 0
  let n := cntW k done m
  if n = 0 then decide (im = []) else match im with | [(_, b)] => decide (b.length = n ∧ b[n - 1]? = some (UInt8.ofNat n)) | _ => false
theorem cnt_ends : ((List.range 20).all fun k => (List.range 30).all fun i => cntEnd (k + 1) true i && cntEnd (k + 1) false i) = true := by decide +kernel
theorem cnt_end {k m : Nat} (done : Bool) (h1 : 1 ≤ k) (h2 : k ≤ 20) (hi : m < 30) : cntEnd k done m = true := by
  have h := cnt_ends
  rw [List.all_eq_true] at h
  have h := h (k - 1) (List.mem_range.2 (by omega))
  rw [List.all_eq_true] at h
  have h := h m (List.mem_range.2 hi)
  rw [show k - 1 + 1 = k by omega, Bool.and_eq_true] at h
  cases done
  · exact h.2
  · exact h.1
theorem cnt_crash (k : Nat) (done : Bool) (m : Nat) : (cnt k done m).crash.2 = 0 := by
  unfold Dk.crash cnt
  split <;> rfl
theorem cnt_off (k : Nat) (done : Bool) (i : Nat) : (!(cnt k done i).off) = decide (i < k) := by
  unfold cnt
  split <;> simp_all
theorem cnt_calls (k : Nat) (done : Bool) (i : Nat) : (cnt k done i).calls = min i k := by
  unfold cnt
  split <;> simp <;> omega
theorem cnt_arm (k : Nat) (h1 : 1 ≤ k) (h2 : k ≤ 20) (done : Bool) : (Dk.fresh 4096).arm k 2 done = (cnt k done 0, 0) := by
  unfold Dk.arm cnt
  rw [if_neg (by simp [Dk.fresh]), if_neg (by omega), if_pos (by omega)]
  simp [Dk.fresh, cntF]
end Go.Proofs.Ytnppneilbkmnfaa
namespace Go.Proofs.Ytnppneilbkmnfaa
open Go.RowKit

theorem num_any (w : World) (e : Int) : Calls Try.prog 18 #[.int .i64 e] w fun r w' => r = .returned (.int .i64 e) ∧ w = w' := by
  go_enter Try.func18, Try.ntmps18
  go_wp2
  go_ret
  exact ⟨rfl, rfl⟩

theorem tmod_in (a : Int) (q : Int) (hq : 0 < q) : -q < a.tmod q ∧ a.tmod q < q := by
  refine ⟨?_, Int.tmod_lt_of_pos a hq⟩
  have h := Int.tmod_lt_of_pos (-a) hq
  rw [Int.neg_tmod] at h
  omega
theorem roll20 (a : Int) : ∃ k : Nat, 1 ≤ k ∧ k ≤ 20 ∧ wrap64 (1 + (wrap64 (a.tmod 20 + 20)).tmod 20) = (k : Int) := by
  have h1 : -20 < a.tmod 20 ∧ a.tmod 20 < 20 := tmod_in a 20 (by omega)
  rw [IntWalk.wrap64_in (a.tmod 20 + 20) (by omega)]
  have h2 : 0 ≤ (a.tmod 20 + 20).tmod 20 ∧ (a.tmod 20 + 20).tmod 20 < 20 := ⟨Int.tmod_nonneg _ (by omega), Int.tmod_lt_of_pos _ (by omega)⟩
  rw [IntWalk.wrap64_in _ (by omega)]
  exact ⟨(1 + (a.tmod 20 + 20).tmod 20).toNat, by omega, by omega, by omega⟩
theorem roll30 (a : Int) : ∃ k : Nat, k < 30 ∧ (wrap64 (a.tmod 30 + 30)).tmod 30 = (k : Int) := by
  have h1 : -30 < a.tmod 30 ∧ a.tmod 30 < 30 := tmod_in a 30 (by omega)
  rw [IntWalk.wrap64_in (a.tmod 30 + 30) (by omega)]
  have h2 : 0 ≤ (a.tmod 30 + 30).tmod 30 ∧ (a.tmod 30 + 30).tmod 30 < 30 := ⟨Int.tmod_nonneg _ (by omega), Int.tmod_lt_of_pos _ (by omega)⟩
  exact ⟨((a.tmod 30 + 30).tmod 30).toNat, by omega, by omega⟩

/-- one Append of the law -/
theorem counted_append (w0 wr : World) (d : Nat) (k : Nat) (done : Bool) (J : Nat) (h1 : 1 ≤ k) (h2 : k ≤ 20) (hJ : 1 ≤ J) (hi : J ≤ 30) (hL : Life w0 wr d (cnt k done (J - 1))) :
    Calls Try.prog 20 #[.pointer (some ⟨d, 0, none⟩), .string ⟨#[97]⟩, .slice (some ⟨wr.heap.size, 0, none⟩) 1 1] (wr.alloc (.cells #[.int .u8 (J : Int)] 5 (0, 0)))
      fun e w' => e = .returned (.int .i64 (if J < k then 0 else 63)) ∧ Life w0 w' d (cnt k done J) := by
  obtain ⟨F, hD, hF, hE⟩ := hL
  have e1 : Ext Nil wr (wr.alloc (.cells #[.int .u8 (J : Int)] 5 (0, 0))) := (Ext.refl _ _).alloc _
  have hb := OwnB.one wr (n := (J : Int)) (by omega) (by omega)
  have hc := cnt_calls k done (J - 1)
  have hA := append_m _ d _ F (hD.ext e1 fun _ _ h => h) (by omega) ⟨#[97]⟩ (by decide) _ _ hb.bytes (fun q hq hFq => by
    have := hD.lt q hFq
    simp only [inFoot, foot, Option.some.injEq] at hq
    omega) (by simp)
  have hs := cnt_step (i := J - 1) done h1 h2 (by omega)
  rw [show J - 1 + 1 = J by omega] at hs
  refine hA.mono ?_
  intro e w' h
  have h := Life.acted hF (hE.same e1) h
  have e2 : toB (J : Int) = UInt8.ofNat J := by rfl
  rw [e2] at h
  have h : e = .returned (.int .i64 ((cnt k done (J - 1)).append [97] [UInt8.ofNat J]).2) ∧ Life w0 w' d ((cnt k done (J - 1)).append [97] [UInt8.ofNat J]).1 := h
  rw [hs] at h
  exact h
theorem life_on {w0 w : World} {d : Nat} {D : Dk} (h : Life w0 w d D) : Calls Try.prog 21 #[.pointer (some ⟨d, 0, none⟩)] w fun e w' => e = .returned (.bool (!D.off)) ∧ w = w' := by
  obtain ⟨F, ⟨mb, av, fbs, h, -⟩, -⟩ := h
  exact on_at w d mb av fbs D h
theorem life_calls {w0 w : World} {d : Nat} {D : Dk} (h : Life w0 w d D) : Calls Try.prog 22 #[.pointer (some ⟨d, 0, none⟩)] w fun e w' => e = .returned (.int .i64 D.calls) ∧ w = w' := by
  obtain ⟨F, ⟨mb, av, fbs, h, -⟩, -⟩ := h
  exact calls_at w d mb av fbs D h

/-- a row of files, opened at its k-th -/
theorem OwnI.at {w : World} {v : Value} {l : List FI} (h : OwnI w v l) (k : Nat) (hk : k < l.length) : ∃ g c, v = .slice (some ⟨g, 0, none⟩) l.length (c + 1) ∧ l.length ≤ c + 1 ∧ c + 1 ≤ maxLen ∧ w.cell? ⟨g, k * 2, none⟩ = some (encS l[k].nm) ∧ w.cell? ⟨g, k * 2 + 1, none⟩ = some l[k].v ∧ g < w.heap.size := by
  have hr := Own.reads h
  rcases h.2 with ⟨ao', h1, h2⟩ | ⟨g, c, cs, h1, h2, h3, h4, h5, h6⟩
  · omega
  · subst h1
    obtain ⟨-, ao', cap', h7, -, -, h8⟩ := hr
    simp only [Value.slice.injEq, true_and] at h7
    obtain ⟨rfl, rfl⟩ := h7
    obtain ⟨b, off, h9, hc⟩ := h8 (by intro e; have := fiCells_length l; rw [e] at this; simp at this; omega)
    simp only [Option.some.injEq, Addr.mk.injEq, and_true] at h9
    obtain ⟨rfl, rfl⟩ := h9
    have c0 := hc (k * 2) (encS l[k].nm) (fiCells_at l k hk 0 (by omega))
    have c1 := hc (k * 2 + 1) l[k].v (fiCells_at l k hk 1 (by omega))
    rw [Nat.zero_add] at c0 c1
    exact ⟨g, c, rfl, h3, h4, c0, c1, h2.lt⟩
theorem counted_told {w : World} {v : Value} {l : List FI} {k m n : Nat} {done : Bool} (hI : ImgO w v l) (hp : l.map FI.pair = (cnt k done m).told [100] 0) (h1 : 1 ≤ k) (h2 : k ≤ 20) (hm : m < 30) (hn : n = cntW k done m) :
    (n = 0 → ∃ ao cap, v = .slice ao 0 cap) ∧ (n ≠ 0 → ∃ g c gb cb, v = .slice (some ⟨g, 0, none⟩) 1 (c + 1) ∧ c + 1 ≤ maxLen ∧ w.cell? ⟨g, 1, none⟩ = some (.slice (some ⟨gb, 0, none⟩) n cb) ∧ n ≤ cb ∧ cb ≤ maxLen ∧ w.cell? ⟨gb, n - 1, none⟩ = some (.int .u8 n) ∧ g < w.heap.size ∧ gb < w.heap.size) := by
  have he := cnt_end done h1 h2 hm
  unfold cntEnd at he
  simp only [← hp, ← hn] at he
  constructor
  · intro h0
    rw [if_pos h0] at he
    have hl : l = [] := by simpa using of_decide_eq_true he
    subst hl
    obtain ⟨ao, cap, h, -⟩ := Own.shape hI.row
    exact ⟨ao, cap, h⟩
  · intro h0
    rw [if_neg h0] at he
    have hn30 : n ≤ 30 := by rw [hn]; unfold cntW; split <;> (try split) <;> omega
    match l, hI, he with
    | [], _, he => simp at he
    | x :: y :: r, _, he => simp at he
    | [x], hI, he =>
      obtain ⟨hbl, hbn⟩ := of_decide_eq_true he
      obtain ⟨g, c, rfl, -, hc2, -, c1, hg⟩ := hI.row.at 0 (by simp)
      have hB := hI.bytes x (List.mem_singleton.2 rfl)
      have hx : ([x] : List FI)[0] = x := rfl
      rw [hx] at c1
      obtain ⟨ao, cap, hv, hcap, hcm⟩ := hB.shape
      rw [hv] at hB c1
      have hbl : x.b.length = n := hbl
      obtain ⟨gb, cb, cs, rfl, rfl, -⟩ := hB.head (by intro e; rw [e] at hbl; simp at hbl; omega)
      obtain ⟨a1, -⟩ := hB.at (n - 1) (by omega)
      have hbn : x.b[n - 1]? = some (UInt8.ofNat n) := hbn
      rw [List.getElem?_eq_getElem (by omega)] at hbn
      rw [Option.some.inj hbn] at a1
      have ht : (UInt8.ofNat n).toNat = n := by rw [UInt8.toNat_ofNat']; omega
      rw [ht] at a1
      rw [hbl] at c1 hcap
      exact ⟨g, c, gb, _, rfl, hc2, c1, hcap, hcm, a1, hg, (cell_spot a1).2⟩

/-- the Crash of the law -/
theorem counted_crash (w0 wr : World) (d : Nat) (D : Dk) (hL : Life w0 wr d D) (h0 : D.crash.2 = 0) :
    Calls Try.prog 23 #[.pointer (some ⟨d, 0, none⟩), .slice (some ⟨wr.heap.size, 0, none⟩) 1 1, .int .u8 0] (wr.alloc (.cells #[.int .i64 100] 3 (0, 0)))
      fun e w' => ∃ v l, e = .returned (.tuple #[.agg #[v], .int .i64 0]) ∧ ImgO w' v l ∧ l.map FI.pair = D.told [100] 0 ∧ Ext Nil w0 w' := by
  obtain ⟨F, hD, hF, hE⟩ := hL
  have e1 : Ext Nil wr (wr.alloc (.cells #[.int .i64 100] 3 (0, 0))) := (Ext.refl _ _).alloc _
  have hk : Reads (wr.alloc (.cells #[.int .i64 100] 3 (0, 0))) 1 (.slice (some ⟨wr.heap.size, 0, none⟩) 1 1) 1 (([100] : List Int).map (.int .i64 ·)) :=
    ⟨rfl, _, _, rfl, Nat.le_refl _, by simp [maxLen], fun _ => ⟨_, _, rfl, fun j u hu => by rw [Nat.zero_add]; exact (At.new wr [.int .i64 100] 3).cell j hu⟩⟩
  have hC := crash_m _ d D F (hD.ext e1 fun _ _ h => h) _ [100] hk (fun q hq hFq => by
    have := hD.lt q hFq
    simp only [inFoot, foot, Option.some.injEq] at hq
    omega) 0
  refine hC.mono ?_
  rintro e w' ⟨v, l, rfl, hC⟩
  rw [h0]
  obtain ⟨-, -, -, hx⟩ := Life.crashed (hD.ext e1 fun _ _ h => h) hF (hE.same e1) hC
  exact ⟨v, l, rfl, hC.own, hC.pairs, hx⟩

set_option maxRecDepth 20000 in
set_option maxHeartbeats 2000000 in
theorem counted_any (w : World) (at_ n : Int) (done : Bool) :
    Calls Try.prog 3 #[.int .i64 at_, .int .i64 n, .bool done] w fun e w' => e = .returned (.bool true) ∧ Ext Nil w w' := by
  have hN := new_at w 4096 (by omega) (by omega)
  have HN := Lib.hid hN
  clear hN
  obtain ⟨k, hk1, hk2, hkw⟩ := roll20 at_
  obtain ⟨m, hm2, hmw⟩ := roll30 n
  have hk0 : (1 : Int) ≤ k := by omega
  go_enter Try.func3, Try.ntmps3
  go_wp2_with (first
    | (go_at_call 17; refine (HN.out).mono ?_; rintro e w1 ⟨rfl, h1, e1⟩)
    | (go_at_call 19; refine (arm_m w1 _ _ _ ⟨_, _, _, h1, rfl⟩ (by decide) (by decide) (k : Int) 2 done).mono ?_; intro e w2 hq; have hq := Life.acted (w0 := w) (by intro q hq; simp [dbl, footL, foot] at hq; omega) e1 hq; rw [cnt_arm k hk1 hk2 done] at hq; obtain ⟨rfl, hL⟩ := hq; clear hq)
    | (go_at_call 18; refine (num_any _ _).mono ?_; rintro e w' ⟨rfl, rfl⟩))
  have HL := Lib.hid hL
  clear hL h1 e1 HN hkw hmw
  go_loopw [11] (fun i wr => ∃ (J : Nat), i = .int .i64 (J : Int) ∧ 1 ≤ J ∧ J ≤ m + 1 ∧ Life w wr (w.heap.size + 1) (cnt k done (J - 1))) (fun i _ => m + 1 - (intOf i).toNat)
  case atStart => exact ⟨1, rfl, Nat.le_refl _, by omega, HL.out⟩
  case round =>
    obtain ⟨J, rfl, hJ1, hJ, hL⟩ := hrel
    by_cases hlt : J ≤ m
    · have hu : IntKind.u8.wrap (J : Int) = (J : Int) := by rw [IntKind.wrap_u8']; omega
      have hA := counted_append w wr _ k done J hk1 hk2 hJ1 (by omega) hL
      have HA := Lib.hid hA
      have hoff := cnt_off k done J
      clear hA hL
      by_cases hJk : J < k
      · rw [if_pos hJk] at HA
        rw [decide_eq_true hJk] at hoff
        go_wp2_with (first
          | (go_at_call 20; refine (HA.out).mono ?_; rintro e w3 ⟨rfl, h3⟩)
          | (go_at_call 21; refine (life_on h3).mono ?_; rintro e w' ⟨rfl, rfl⟩; rw [hoff])
          | (go_at_call 18; refine (num_any _ _).mono ?_; rintro e w' ⟨rfl, rfl⟩))
        exact ⟨⟨J + 1, by simp, by omega, by omega, h3⟩, by simp [intOf]; omega⟩
      · rw [if_neg hJk] at HA
        rw [decide_eq_false hJk] at hoff
        have hJk2 : k ≤ J := by omega
        go_wp2_with (first
          | (go_at_call 20; refine (HA.out).mono ?_; rintro e w3 ⟨rfl, h3⟩)
          | (go_at_call 21; refine (life_on h3).mono ?_; rintro e w' ⟨rfl, rfl⟩; rw [hoff])
          | (go_at_call 18; refine (num_any _ _).mono ?_; rintro e w' ⟨rfl, rfl⟩))
        exact ⟨⟨J + 1, by simp, by omega, by omega, h3⟩, by simp [intOf]; omega⟩
    · obtain rfl : J = m + 1 := by omega
      have hL : Life w wr (w.heap.size + 1) (cnt k done m) := hL
      have hC := counted_crash w wr _ _ hL (cnt_crash k done m)
      have hA := life_calls hL
      rw [cnt_calls k done m] at hA
      have HC := Lib.hid hC; have HA := Lib.hid hA
      have hmin : min (m : Int) (k : Int) = ((min m k : Nat) : Int) := by omega
      have hnot : ¬ ((m + 1 : Nat) : Int) ≤ (m : Int) := by omega
      obtain ⟨N, hN1, hN2⟩ : ∃ N : Nat, N = min m k ∧ N ≤ 30 := ⟨_, rfl, by omega⟩
      rw [← hN1] at hmin HA
      clear hC hL hA hN1 HL hlt hJ1 hJ
      by_cases hkm : k ≤ m
      · cases done
        · obtain ⟨K, hK⟩ : ∃ K, K = k - 1 := ⟨_, rfl⟩
          have hKw : IntKind.i64.wrap ((k : Int) - 1) = (K : Int) := by rw [IntWalk.i64_in _ (by omega)]; omega
          by_cases hz : K = 0
          · have hn : K = cntW k false m := by unfold cntW; simp [show ¬ m < k by omega, hK]
            have HNN := Lib.hid hn
            clear hn
            clear hK
            go_wp2_with (first
              | (go_at_call 22; refine (HA.out).mono ?_; rintro e w' ⟨rfl, rfl⟩)
              | (go_at_call 23; refine (HC.out).mono ?_; rintro e w5 ⟨v, l, rfl, hI, hp, e5⟩; obtain ⟨T0, T1⟩ := counted_told hI hp hk1 hk2 hm2 HNN.out; obtain ⟨ao5, cap5, rfl⟩ := T0 (by omega); clear T0 T1 hI hp)
              | (go_at_call 18; refine (num_any _ _).mono ?_; rintro e w' ⟨rfl, rfl⟩))
            go_ret
            exact ⟨rfl, e5.alloc _⟩
          · have hmw : IntKind.u8.wrap (K : Int) = (K : Int) := by rw [IntKind.wrap_u8']; omega
            obtain ⟨M, hM⟩ : ∃ M, M = K - 1 := ⟨_, rfl⟩
            have hM1 : IntKind.i64.wrap ((K : Int) - 1) = (M : Int) := by rw [IntWalk.i64_in _ (by omega)]; omega
            have hMl : M < K := by omega
            have HM := Lib.hid hM
            clear hM
            have hn : K = cntW k false m := by unfold cntW; simp [show ¬ m < k by omega, hK]
            have HNN := Lib.hid hn
            clear hn
            clear hK
            go_wp2_with (first
              | (go_at_call 22; refine (HA.out).mono ?_; rintro e w' ⟨rfl, rfl⟩)
              | (go_at_call 23; refine (HC.out).mono ?_; rintro e w5 ⟨v, l, rfl, hI, hp, e5⟩; obtain ⟨T0, T1⟩ := counted_told hI hp hk1 hk2 hm2 HNN.out; obtain ⟨g5, c5, gb5, cb5, rfl, q1, q2, q3, q4, q5, q6, q7⟩ := T1 (by omega); rw [← HM.out] at q5; clear T0 T1 hI hp)
              | (go_at_call 18; refine (num_any _ _).mono ?_; rintro e w' ⟨rfl, rfl⟩))
            go_ret
            exact ⟨rfl, e5.alloc _⟩
        · have hmw : IntKind.u8.wrap (k : Int) = (k : Int) := by rw [IntKind.wrap_u8']; omega
          obtain ⟨M, hM⟩ : ∃ M, M = k - 1 := ⟨_, rfl⟩
          have hM1 : IntKind.i64.wrap ((k : Int) - 1) = (M : Int) := by rw [IntWalk.i64_in _ (by omega)]; omega
          have hMl : M < k := by omega
          have HM := Lib.hid hM
          clear hM
          have hn : k = cntW k true m := by unfold cntW; simp [show ¬ m < k by omega]
          have HNN := Lib.hid hn
          clear hn
          go_wp2_with (first
            | (go_at_call 22; refine (HA.out).mono ?_; rintro e w' ⟨rfl, rfl⟩)
            | (go_at_call 23; refine (HC.out).mono ?_; rintro e w5 ⟨v, l, rfl, hI, hp, e5⟩; obtain ⟨T0, T1⟩ := counted_told hI hp hk1 hk2 hm2 HNN.out; obtain ⟨g5, c5, gb5, cb5, rfl, q1, q2, q3, q4, q5, q6, q7⟩ := T1 (by omega); rw [← HM.out] at q5; clear T0 T1 hI hp)
            | (go_at_call 18; refine (num_any _ _).mono ?_; rintro e w' ⟨rfl, rfl⟩))
          go_ret
          exact ⟨rfl, e5.alloc _⟩
      · by_cases hz : m = 0
        · have hn : m = cntW k done m := by unfold cntW; simp [show m < k by omega]
          have HNN := Lib.hid hn
          clear hn
          go_wp2_with (first
            | (go_at_call 22; refine (HA.out).mono ?_; rintro e w' ⟨rfl, rfl⟩)
            | (go_at_call 23; refine (HC.out).mono ?_; rintro e w5 ⟨v, l, rfl, hI, hp, e5⟩; obtain ⟨T0, T1⟩ := counted_told hI hp hk1 hk2 hm2 HNN.out; obtain ⟨ao5, cap5, rfl⟩ := T0 (by omega); clear T0 T1 hI hp)
            | (go_at_call 18; refine (num_any _ _).mono ?_; rintro e w' ⟨rfl, rfl⟩))
          go_ret
          exact ⟨rfl, e5.alloc _⟩
        · have hmw : IntKind.u8.wrap (m : Int) = (m : Int) := by rw [IntKind.wrap_u8']; omega
          obtain ⟨M, hM⟩ : ∃ M, M = m - 1 := ⟨_, rfl⟩
          have hM1 : IntKind.i64.wrap ((m : Int) - 1) = (M : Int) := by rw [IntWalk.i64_in _ (by omega)]; omega
          have hMl : M < m := by omega
          have HM := Lib.hid hM
          clear hM
          have hn : m = cntW k done m := by unfold cntW; simp [show m < k by omega]
          have HNN := Lib.hid hn
          clear hn
          go_wp2_with (first
            | (go_at_call 22; refine (HA.out).mono ?_; rintro e w' ⟨rfl, rfl⟩)
            | (go_at_call 23; refine (HC.out).mono ?_; rintro e w5 ⟨v, l, rfl, hI, hp, e5⟩; obtain ⟨T0, T1⟩ := counted_told hI hp hk1 hk2 hm2 HNN.out; obtain ⟨g5, c5, gb5, cb5, rfl, q1, q2, q3, q4, q5, q6, q7⟩ := T1 (by omega); rw [← HM.out] at q5; clear T0 T1 hI hp)
            | (go_at_call 18; refine (num_any _ _).mono ?_; rintro e w' ⟨rfl, rfl⟩))
          go_ret
          exact ⟨rfl, e5.alloc _⟩
end Go.Proofs.Ytnppneilbkmnfaa
namespace Go.Proofs.Ytnppneilbkmnfaa
open Go.RowKit

/-- a disk that no call made -/
def Zd (w : World) (z : Nat) : Prop := w.cell? ⟨z, 2, none⟩ = some (.map none) ∧ z < w.heap.size
theorem Zd.ext {w w' : World} {z : Nat} (h : Zd w z) (e : Ext Nil w w') : Zd w' z := ⟨e.cell h.1 fun h => h, Nat.lt_of_lt_of_le h.2 e.size⟩
theorem Zd.al {w : World} {z : Nat} (h : Zd w z) (o : Obj) : Zd (w.alloc o) z := h.ext ((Ext.refl _ _).alloc o)
theorem missing_zd (w : World) (z : Nat) (hz : Zd w z) : Calls Try.prog 56 #[.pointer (some ⟨z, 0, none⟩)] w fun e w' => e = .returned (.bool true) ∧ w = w' := by
  have c2 := hz.1
  have hr := run_eql_map_nil (P := Try.prog) w 54 _ _ none Try.underlying54
  go_enter Try.func56, Try.ntmps56
  go_wp2
  go_ret
  exact ⟨rfl, rfl⟩
theorem refuses_zd (w : World) (z : Nat) (hz : Zd w z) (s : ByteArray) : Calls Try.prog 57 #[.pointer (some ⟨z, 0, none⟩), .string s] w fun e w' => e = .returned (.int .i64 1) ∧ w = w' := by
  go_enter Try.func57, Try.ntmps57
  go_wp2_with (go_at_call 56; refine (missing_zd _ z (by first | exact hz | exact hz.al _ | exact (hz.al _).al _ | exact ((hz.al _).al _).al _ | exact (((hz.al _).al _).al _).al _)).mono ?_; rintro e w' ⟨rfl, rfl⟩)
  go_ret
  exact ⟨rfl, rfl⟩
theorem find_zd (w : World) (z : Nat) (hz : Zd w z) (s : ByteArray) : Calls Try.prog 69 #[.pointer (some ⟨z, 0, none⟩), .string s] w fun e w' => e = .returned (.tuple #[.pointer none, .int .i64 1]) ∧ w = w' := by
  go_enter Try.func69, Try.ntmps69
  go_wp2_with (go_at_call 57; refine (refuses_zd _ z (by first | exact hz | exact hz.al _ | exact (hz.al _).al _ | exact ((hz.al _).al _).al _ | exact (((hz.al _).al _).al _).al _) s).mono ?_; rintro e w' ⟨rfl, rfl⟩)
  go_ret2
  exact ⟨rfl, rfl⟩
theorem on_zd (w : World) (z : Nat) (hz : Zd w z) : Calls Try.prog 21 #[.pointer (some ⟨z, 0, none⟩)] w fun e w' => e = .returned (.bool false) ∧ w = w' := by
  go_enter Try.func21, Try.ntmps21
  go_wp2_with (go_at_call 56; refine (missing_zd _ z (by first | exact hz | exact hz.al _ | exact (hz.al _).al _ | exact ((hz.al _).al _).al _ | exact (((hz.al _).al _).al _).al _)).mono ?_; rintro e w' ⟨rfl, rfl⟩)
  go_ret
  exact ⟨rfl, rfl⟩
theorem calls_zd (w : World) (z : Nat) (hz : Zd w z) : Calls Try.prog 22 #[.pointer (some ⟨z, 0, none⟩)] w fun e w' => e = .returned (.int .i64 0) ∧ w = w' := by
  go_enter Try.func22, Try.ntmps22
  go_wp2_with (go_at_call 56; refine (missing_zd _ z (by first | exact hz | exact hz.al _ | exact (hz.al _).al _ | exact ((hz.al _).al _).al _ | exact (((hz.al _).al _).al _).al _)).mono ?_; rintro e w' ⟨rfl, rfl⟩)
  go_ret
  exact ⟨rfl, rfl⟩
theorem append_zd_m (w : World) (z : Nat) (hz : Zd w z) (s : ByteArray) (ax : Option Addr) (n c : Nat) : Calls Try.prog 20 #[.pointer (some ⟨z, 0, none⟩), .string s, .slice ax n c] w fun e w' => e = .returned (.int .i64 1) ∧ Ext Nil w w' := by
  go_enter Try.func20, Try.ntmps20
  go_wp2_with (go_at_call 57; refine (refuses_zd _ z (by first | exact hz | exact hz.al _ | exact (hz.al _).al _ | exact ((hz.al _).al _).al _ | exact (((hz.al _).al _).al _).al _) s).mono ?_; rintro e w' ⟨rfl, rfl⟩)
  go_ret
  exact ⟨rfl, (((Ext.refl _ _).alloc _).alloc _).alloc _⟩

theorem replace_zd_m (w : World) (z : Nat) (hz : Zd w z) (s : ByteArray) (ax : Option Addr) (n c : Nat) : Calls Try.prog 52 #[.pointer (some ⟨z, 0, none⟩), .string s, .slice ax n c] w fun e w' => e = .returned (.int .i64 1) ∧ Ext Nil w w' := by
  go_enter Try.func52, Try.ntmps52
  go_wp2_with (go_at_call 57; refine (refuses_zd _ z (by first | exact hz | exact hz.al _ | exact (hz.al _).al _ | exact ((hz.al _).al _).al _ | exact (((hz.al _).al _).al _).al _) s).mono ?_; rintro e w' ⟨rfl, rfl⟩)
  go_ret
  exact ⟨rfl, (((Ext.refl _ _).alloc _).alloc _).alloc _⟩

theorem sync_zd_m (w : World) (z : Nat) (hz : Zd w z) (s : ByteArray) : Calls Try.prog 65 #[.pointer (some ⟨z, 0, none⟩), .string s] w fun e w' => e = .returned (.int .i64 1) ∧ Ext Nil w w' := by
  go_enter Try.func65, Try.ntmps65
  go_wp2_with (go_at_call 69; refine (find_zd _ z (by first | exact hz | exact hz.al _ | exact (hz.al _).al _ | exact ((hz.al _).al _).al _ | exact (((hz.al _).al _).al _).al _) s).mono ?_; rintro e w' ⟨rfl, rfl⟩)
  go_ret
  exact ⟨rfl, (Ext.refl _ _).alloc _⟩

theorem remove_zd_m (w : World) (z : Nat) (hz : Zd w z) (s : ByteArray) : Calls Try.prog 67 #[.pointer (some ⟨z, 0, none⟩), .string s] w fun e w' => e = .returned (.int .i64 1) ∧ Ext Nil w w' := by
  go_enter Try.func67, Try.ntmps67
  go_wp2_with (go_at_call 69; refine (find_zd _ z (by first | exact hz | exact hz.al _ | exact (hz.al _).al _ | exact ((hz.al _).al _).al _ | exact (((hz.al _).al _).al _).al _) s).mono ?_; rintro e w' ⟨rfl, rfl⟩)
  go_ret
  exact ⟨rfl, ((Ext.refl _ _).alloc _).alloc _⟩
theorem cut_zd_m (w : World) (z : Nat) (hz : Zd w z) (s : ByteArray) (n : Int) : Calls Try.prog 66 #[.pointer (some ⟨z, 0, none⟩), .string s, .int .i64 n] w fun e w' => e = .returned (.int .i64 1) ∧ Ext Nil w w' := by
  go_enter Try.func66, Try.ntmps66
  go_wp2_with (go_at_call 69; refine (find_zd _ z (by first | exact hz | exact hz.al _ | exact (hz.al _).al _ | exact ((hz.al _).al _).al _ | exact (((hz.al _).al _).al _).al _) s).mono ?_; rintro e w' ⟨rfl, rfl⟩)
  go_ret
  exact ⟨rfl, ((((Ext.refl _ _).alloc _).alloc _).alloc _).alloc _⟩
theorem read_zd_m (w : World) (z : Nat) (hz : Zd w z) (s : ByteArray) : Calls Try.prog 29 #[.pointer (some ⟨z, 0, none⟩), .string s] w fun e w' => e = .returned (.tuple #[.slice none 0 0, .int .i64 1]) ∧ w = w' := by
  go_enter Try.func29, Try.ntmps29
  go_wp2_with (go_at_call 69; refine (find_zd _ z (by first | exact hz | exact hz.al _ | exact (hz.al _).al _ | exact ((hz.al _).al _).al _ | exact (((hz.al _).al _).al _).al _) s).mono ?_; rintro e w' ⟨rfl, rfl⟩)
  go_ret2
  exact ⟨rfl, rfl⟩
theorem size_zd_m (w : World) (z : Nat) (hz : Zd w z) (s : ByteArray) : Calls Try.prog 68 #[.pointer (some ⟨z, 0, none⟩), .string s] w fun e w' => e = .returned (.tuple #[.int .i64 0, .int .i64 0, .int .i64 1]) ∧ w = w' := by
  go_enter Try.func68, Try.ntmps68
  go_wp2_with (go_at_call 69; refine (find_zd _ z (by first | exact hz | exact hz.al _ | exact (hz.al _).al _ | exact ((hz.al _).al _).al _ | exact (((hz.al _).al _).al _).al _) s).mono ?_; rintro e w' ⟨rfl, rfl⟩)
  go_ret3
  exact ⟨rfl, rfl⟩
theorem arm_zd_m (w : World) (z : Nat) (hz : Zd w z) (a k : Int) (b : Bool) : Calls Try.prog 19 #[.pointer (some ⟨z, 0, none⟩), .agg #[.int .i64 a, .int .i64 k, .bool b]] w fun e w' => e = .returned (.int .i64 1) ∧ Ext Nil w w' := by
  go_enter Try.func19, Try.ntmps19
  go_wp2_with (go_at_call 56; refine (missing_zd _ z (by first | exact hz | exact hz.al _ | exact (hz.al _).al _ | exact ((hz.al _).al _).al _ | exact (((hz.al _).al _).al _).al _)).mono ?_; rintro e w' ⟨rfl, rfl⟩)
  go_ret
  exact ⟨rfl, (Ext.refl _ _).alloc _⟩

theorem names_zd_m (w : World) (z : Nat) (hz : Zd w z) : Calls Try.prog 37 #[.pointer (some ⟨z, 0, none⟩)] w fun e w' => e = .returned (.slice none 0 0) ∧ w = w' := by
  go_enter Try.func37, Try.ntmps37
  go_wp2_with (go_at_call 56; refine (missing_zd _ z (by first | exact hz | exact hz.al _ | exact (hz.al _).al _ | exact ((hz.al _).al _).al _ | exact (((hz.al _).al _).al _).al _)).mono ?_; rintro e w' ⟨rfl, rfl⟩)
  go_ret
  exact ⟨rfl, rfl⟩
theorem crash_zd_m (w : World) (z : Nat) (hz : Zd w z) (kv : Value) (junk : Int) : Calls Try.prog 23 #[.pointer (some ⟨z, 0, none⟩), kv, .int .u8 junk] w fun e w' => e = .returned (.tuple #[.agg #[.slice none 0 0], .int .i64 1]) ∧ Ext Nil w w' := by
  go_enter Try.func23, Try.ntmps23
  go_wp2_with (go_at_call 56; refine (missing_zd _ z (by first | exact hz | exact hz.al _ | exact (hz.al _).al _ | exact ((hz.al _).al _).al _ | exact (((hz.al _).al _).al _).al _)).mono ?_; rintro e w' ⟨rfl, rfl⟩)
  refine bodyPost_ret (results_image rfl _ (b := w.heap.size) (v := .slice none 0 0) rfl (At.new w [.slice none 0 0] 36 |>.cell 0 rfl) (agg_image _) (size_image _)) rfl ?_
  exact ⟨rfl, (Ext.refl _ _).alloc _⟩
end Go.Proofs.Ytnppneilbkmnfaa
namespace Go.Proofs.Ytnppneilbkmnfaa
open Go.RowKit

/-- no disk, or one that no call made -/
def Gone (w : World) (p : Value) : Prop := p = .pointer none ∨ ∃ z, p = .pointer (some ⟨z, 0, none⟩) ∧ Zd w z
theorem Gone.ext {w w' : World} {p : Value} (h : Gone w p) (e : Ext Nil w w') : Gone w' p := h.imp id fun ⟨z, h1, h2⟩ => ⟨z, h1, h2.ext e⟩
theorem append_gone (w : World) (p : Value) (h : Gone w p) (s : ByteArray) (ax : Option Addr) (n c : Nat) : Calls Try.prog 20 #[p, .string s, .slice ax n c] w fun e w' => e = .returned (.int .i64 1) ∧ Ext Nil w w' := by
  rcases h with rfl | ⟨z, rfl, hz⟩
  · exact append_nil_m w s ax n c
  · exact append_zd_m w z hz s ax n c
theorem replace_gone (w : World) (p : Value) (h : Gone w p) (s : ByteArray) (ax : Option Addr) (n c : Nat) : Calls Try.prog 52 #[p, .string s, .slice ax n c] w fun e w' => e = .returned (.int .i64 1) ∧ Ext Nil w w' := by
  rcases h with rfl | ⟨z, rfl, hz⟩
  · exact replace_nil_m w s ax n c
  · exact replace_zd_m w z hz s ax n c
theorem sync_gone (w : World) (p : Value) (h : Gone w p) (s : ByteArray) : Calls Try.prog 65 #[p, .string s] w fun e w' => e = .returned (.int .i64 1) ∧ Ext Nil w w' := by
  rcases h with rfl | ⟨z, rfl, hz⟩
  · exact sync_nil_m w s
  · exact sync_zd_m w z hz s
theorem remove_gone (w : World) (p : Value) (h : Gone w p) (s : ByteArray) : Calls Try.prog 67 #[p, .string s] w fun e w' => e = .returned (.int .i64 1) ∧ Ext Nil w w' := by
  rcases h with rfl | ⟨z, rfl, hz⟩
  · exact remove_nil_m w s
  · exact remove_zd_m w z hz s
theorem cut_gone (w : World) (p : Value) (h : Gone w p) (s : ByteArray) (n : Int) : Calls Try.prog 66 #[p, .string s, .int .i64 n] w fun e w' => e = .returned (.int .i64 1) ∧ Ext Nil w w' := by
  rcases h with rfl | ⟨z, rfl, hz⟩
  · exact cut_nil_m w s n
  · exact cut_zd_m w z hz s n
theorem read_gone (w : World) (p : Value) (h : Gone w p) (s : ByteArray) : Calls Try.prog 29 #[p, .string s] w fun e w' => e = .returned (.tuple #[.slice none 0 0, .int .i64 1]) ∧ w = w' := by
  rcases h with rfl | ⟨z, rfl, hz⟩
  · exact read_nil_m w s
  · exact read_zd_m w z hz s
theorem size_gone (w : World) (p : Value) (h : Gone w p) (s : ByteArray) : Calls Try.prog 68 #[p, .string s] w fun e w' => e = .returned (.tuple #[.int .i64 0, .int .i64 0, .int .i64 1]) ∧ w = w' := by
  rcases h with rfl | ⟨z, rfl, hz⟩
  · exact size_nil_m w s
  · exact size_zd_m w z hz s
theorem arm_gone (w : World) (p : Value) (h : Gone w p) (a k : Int) (b : Bool) : Calls Try.prog 19 #[p, .agg #[.int .i64 a, .int .i64 k, .bool b]] w fun e w' => e = .returned (.int .i64 1) ∧ Ext Nil w w' := by
  rcases h with rfl | ⟨z, rfl, hz⟩
  · exact arm_nil_m w a k b
  · exact arm_zd_m w z hz a k b
theorem names_gone (w : World) (p : Value) (h : Gone w p)  : Calls Try.prog 37 #[p] w fun e w' => e = .returned (.slice none 0 0) ∧ w = w' := by
  rcases h with rfl | ⟨z, rfl, hz⟩
  · exact names_nil_m w
  · exact names_zd_m w z hz
theorem crash_gone (w : World) (p : Value) (h : Gone w p) (kv : Value) (junk : Int) : Calls Try.prog 23 #[p, kv, .int .u8 junk] w fun e w' => e = .returned (.tuple #[.agg #[.slice none 0 0], .int .i64 1]) ∧ Ext Nil w w' := by
  rcases h with rfl | ⟨z, rfl, hz⟩
  · exact crash_nil_m w kv junk
  · exact crash_zd_m w z hz kv junk
theorem on_gone (w : World) (p : Value) (h : Gone w p)  : Calls Try.prog 21 #[p] w fun e w' => e = .returned (.bool false) ∧ w = w' := by
  rcases h with rfl | ⟨z, rfl, hz⟩
  · exact on_nil w
  · exact on_zd w z hz
theorem calls_gone (w : World) (p : Value) (h : Gone w p)  : Calls Try.prog 22 #[p] w fun e w' => e = .returned (.int .i64 0) ∧ w = w' := by
  rcases h with rfl | ⟨z, rfl, hz⟩
  · exact calls_nil w
  · exact calls_zd w z hz

/-- a call, as it lies in cells -/
structure OpD where
  K : Int
  who : Int
  s : ByteArray
  dx : Option Addr
  dn : Nat
  dc : Nat
  N : Int
  t0 : Int
  t1 : Int
  t2 : Bool
  kx : Option Addr
  kn : Nat
  kc : Nat
  junk : Int
def OpD.cells (o : OpD) : List Value := [.int .i64 o.K, .int .i64 o.who, .string o.s, .slice o.dx o.dn o.dc, .int .i64 o.N, .int .i64 o.t0, .int .i64 o.t1, .bool o.t2, .slice o.kx o.kn o.kc, .int .u8 o.junk]

set_option maxRecDepth 20000 in
theorem does_gone (w : World) (p : Value) (h : Gone w p) (o : OpD) (hk : o.K = 1 ∨ o.K = 2 ∨ o.K = 3 ∨ o.K = 4 ∨ o.K = 5) :
    Calls Try.prog 25 #[p, .agg o.cells.toArray] w fun e w' => e = .returned (.int .i64 1) ∧ Ext Nil w w' := by
  obtain ⟨K, who, s, dx, dn, dc, N, t0, t1, t2, kx, kn, kc, junk⟩ := o
  unfold OpD.cells
  simp only [] at hk ⊢
  have eW : Ext Nil w (w.alloc (.cells (OpD.cells ⟨K, who, s, dx, dn, dc, N, t0, t1, t2, kx, kn, kc, junk⟩).toArray 47 (0, 0))) := (Ext.refl _ _).alloc _
  have hg := h.ext eW
  unfold OpD.cells at eW hg
  simp only [] at eW hg
  have HG := Lib.hid hg; have EW := Lib.hid eW
  clear hg eW h
  rcases hk with rfl | rfl | rfl | rfl | rfl
  · go_enter Try.func25, Try.ntmps25
    go_wp2_with (go_at_call 20; refine (append_gone _ p HG.out s dx dn dc).mono ?_; rintro e w' ⟨rfl, e1⟩)
    go_ret
    exact ⟨rfl, EW.out.same e1⟩
  · go_enter Try.func25, Try.ntmps25
    go_wp2_with (go_at_call 65; refine (sync_gone _ p HG.out s).mono ?_; rintro e w' ⟨rfl, e1⟩)
    go_ret
    exact ⟨rfl, EW.out.same e1⟩
  · go_enter Try.func25, Try.ntmps25
    go_wp2_with (go_at_call 52; refine (replace_gone _ p HG.out s dx dn dc).mono ?_; rintro e w' ⟨rfl, e1⟩)
    go_ret
    exact ⟨rfl, EW.out.same e1⟩
  · go_enter Try.func25, Try.ntmps25
    go_wp2_with (go_at_call 66; refine (cut_gone _ p HG.out s N).mono ?_; rintro e w' ⟨rfl, e1⟩)
    go_ret
    exact ⟨rfl, EW.out.same e1⟩
  · go_enter Try.func25, Try.ntmps25
    go_wp2_with (go_at_call 67; refine (remove_gone _ p HG.out s).mono ?_; rintro e w' ⟨rfl, e1⟩)
    go_ret
    exact ⟨rfl, EW.out.same e1⟩

def OpD.at (o : OpD) (k : Int) : OpD := { o with K := k }
set_option maxRecDepth 20000 in
set_option maxHeartbeats 1000000 in
theorem nothing_gone (w : World) (p : Value) (h : Gone w p) (o : OpD) :
    Calls Try.prog 27 #[p, .agg o.cells.toArray] w fun e w' => e = .returned (.bool true) ∧ Ext Nil w w' := by
  obtain ⟨K, who, s, dx, dn, dc, N, t0, t1, t2, kx, kn, kc, junk⟩ := o
  unfold OpD.cells
  simp only []
  have hg := fun (w' : World) (e : Ext Nil w w') => h.ext e
  have HG := Lib.hid hg
  clear hg h
  have hA := At.new w [.int .i64 K, .int .i64 who, .string s, .slice dx dn dc, .int .i64 N, .int .i64 t0, .int .i64 t1, .bool t2, .slice kx kn kc, .int .u8 junk] 47
  have eA : Ext Nil w (w.alloc (.cells #[.int .i64 K, .int .i64 who, .string s, .slice dx dn dc, .int .i64 N, .int .i64 t0, .int .i64 t1, .bool t2, .slice kx kn kc, .int .u8 junk] 47 (0, 0))) := (Ext.refl _ _).alloc _
  have HA := Lib.hid hA; have EA := Lib.hid eA
  clear hA eA
  go_enter Try.func27, Try.ntmps27
  go_wp2_with fail
  go_loopw [5] (fun i wr => ∃ (j : Nat) (K : Int), i = .int .i64 (j : Int) ∧ 1 ≤ j ∧ j ≤ 6 ∧ At wr w.heap.size 47 [.int .i64 K, .int .i64 who, .string s, .slice dx dn dc, .int .i64 N, .int .i64 t0, .int .i64 t1, .bool t2, .slice kx kn kc, .int .u8 junk] ∧ Ext Nil w wr) (fun i _ => 6 - (intOf i).toNat)
  case atStart => exact ⟨1, K, rfl, by omega, by omega, HA.out, EA.out⟩
  case round =>
    obtain ⟨j, K2, rfl, h1, h2, hA, hE⟩ := hrel
    have c1 := hA.cell 1 rfl
    have c2 := hA.cell 2 rfl
    have c3 := hA.cell 3 rfl
    have c4 := hA.cell 4 rfl
    have c5 := hA.cell 5 rfl
    have c6 := hA.cell 6 rfl
    have c7 := hA.cell 7 rfl
    have c8 := hA.cell 8 rfl
    have c9 := hA.cell 9 rfl
    by_cases hj : j ≤ 5
    · have c0 := hA.cell 0 rfl
      have z0 := hA.frozen 0
      have hS := hA.set 0 (.int .i64 (j : Int))
      have eS : Ext Nil w (wr.setCell ⟨w.heap.size, 0, none⟩ (.int .i64 (j : Int))) := hE.setCell (p := ⟨w.heap.size, 0, none⟩) (fun h => by have h : w.heap.size < w.heap.size := h; omega) _
      have hD := does_gone _ p (HG.out _ eS) ⟨j, who, s, dx, dn, dc, N, t0, t1, t2, kx, kn, kc, junk⟩ (by show (j : Int) = 1 ∨ (j : Int) = 2 ∨ (j : Int) = 3 ∨ (j : Int) = 4 ∨ (j : Int) = 5; omega)
      unfold OpD.cells at hD
      simp only [] at hD
      have HD := Lib.hid hD; have HS := Lib.hid hS; have ES := Lib.hid eS
      clear hD hS eS hA hE
      go_wp2_with (first
        | (go_at_call 25; refine (HD.out).mono ?_; rintro e w3 ⟨rfl, e3⟩)
        | (go_at_call 18; refine (num_any _ _).mono ?_; rintro e w' ⟨rfl, rfl⟩))
      exact ⟨⟨j + 1, j, by simp, by omega, by omega, HS.out.ext e3 fun h => h, ES.out.same e3⟩, by simp [intOf]; omega⟩
    · obtain rfl : j = 6 := by omega
      have hR := read_gone wr p (HG.out _ hE) s
      have hZ := size_gone wr p (HG.out _ hE) s
      have hC := crash_gone wr p (HG.out _ hE) (.slice kx kn kc) junk
      have hlt := hA.lt
      have HR := Lib.hid hR; have HZ := Lib.hid hZ; have HC := Lib.hid hC; have HE := Lib.hid hE; have HA := Lib.hid hA
      clear hR hZ hC hE hA
      go_wp2_with (first
        | (go_at_call 29; refine (HR.out).mono ?_; rintro e w' ⟨rfl, rfl⟩)
        | (go_at_call 68; refine (HZ.out).mono ?_; rintro e w' ⟨rfl, rfl⟩)
        | (go_at_call 23; refine (HC.out).mono ?_; rintro e w2 ⟨rfl, e2⟩; have d5 := e2.cell c5 fun h => h; have d6 := e2.cell c6 fun h => h; have d7 := e2.cell c7 fun h => h; have hl2 := Nat.lt_of_lt_of_le hlt e2.size; have hi := At.new w2 [.slice none 0 0] 36; have eY := (HE.out.same e2).alloc (.cells #[.slice none 0 0] 36 (0, 0)); have HI := Lib.hid hi; have EY := Lib.hid eY; clear hi eY)
        | (go_at_call 19; refine (arm_gone _ p (HG.out _ EY.out) t0 t1 t2).mono ?_; rintro e w4 ⟨rfl, e4⟩; have i0 := (HI.out.ext e4 fun h => h).cell 0 rfl; have eZ := EY.out.same e4; have EZ := Lib.hid eZ; clear eZ)
        | (go_at_call 37; refine (names_gone _ p (HG.out _ EZ.out)).mono ?_; rintro e w' ⟨rfl, rfl⟩)
        | (go_at_call 22; refine (calls_gone _ p (HG.out _ EZ.out)).mono ?_; rintro e w' ⟨rfl, rfl⟩)
        | (go_at_call 21; refine (on_gone _ p (HG.out _ EZ.out)).mono ?_; rintro e w' ⟨rfl, rfl⟩)
        | (go_at_call 18; refine (num_any _ _).mono ?_; rintro e w' ⟨rfl, rfl⟩))
      go_ret
      exact ⟨rfl, EZ.out⟩

theorem fresh_append (n : Nat) : (Dk.fresh n).append [97] [] = (⟨n, [⟨[97], [], 0⟩], false, false, 1, []⟩, 0) := by
  have h1 : (Dk.fresh n).refuse [97] = 0 := by rfl
  have h2 : (Dk.fresh n).room [97] ((Dk.fresh n).size [97] + ([] : List UInt8).length) = true := Dk.room_spec.2 ⟨by simp [Dk.fresh, Dk.size, Dk.used, sumF, Dk.find, findK], .inr (by simp [Dk.fresh])⟩
  unfold Dk.append
  rw [if_neg (by rw [h1]; simp), if_pos h2]
  rfl
theorem life_append0 {w0 w : World} {d : Nat} (n : Nat) (hL : Life w0 w d (Dk.fresh n)) :
    Calls Try.prog 20 #[.pointer (some ⟨d, 0, none⟩), .string ⟨#[97]⟩, .slice none 0 0] w fun e w' => e = .returned (.int .i64 0) ∧ Life w0 w' d ⟨n, [⟨[97], [], 0⟩], false, false, 1, []⟩ := by
  obtain ⟨F, hD, hF, hE⟩ := hL
  have hA := append_m w d _ F hD (by simp [Dk.fresh]) ⟨#[97]⟩ (by decide) (.slice none 0 0) [] (OwnB.bytes (Own.nil _ _ _)) (fun q hq => by simp [inFoot, foot] at hq) (by simp)
  refine hA.mono ?_
  intro e w' h2
  have h2 := Life.acted hF hE h2
  have h2 : e = .returned (.int .i64 ((Dk.fresh n).append [97] []).2) ∧ Life w0 w' d ((Dk.fresh n).append [97] []).1 := h2
  rw [fresh_append n] at h2
  exact h2
set_option maxRecDepth 20000 in
set_option maxHeartbeats 1000000 in
theorem disknil_any (w : World) (o : OpD) (lim : Int) :
    Calls Try.prog 5 #[.agg o.cells.toArray, .int .i64 lim] w fun e w' => e = .returned (.bool true) ∧ Ext Nil w w' := by
  obtain ⟨K, who, s, dx, dn, dc, N, t0, t1, t2, kx, kn, kc, junk⟩ := o
  unfold OpD.cells
  simp only []
  have hn := fun (w' : World) (p : Value) (h : Gone w' p) => nothing_gone w' p h ⟨K, who, s, dx, dn, dc, N, t0, t1, t2, kx, kn, kc, junk⟩
  unfold OpD.cells at hn
  simp only [] at hn
  have hA := At.new w [.int .i64 K, .int .i64 who, .string s, .slice dx dn dc, .int .i64 N, .int .i64 t0, .int .i64 t1, .bool t2, .slice kx kn kc, .int .u8 junk] 47
  have eA : Ext Nil w (w.alloc (.cells #[.int .i64 K, .int .i64 who, .string s, .slice dx dn dc, .int .i64 N, .int .i64 t0, .int .i64 t1, .bool t2, .slice kx kn kc, .int .u8 junk] 47 (0, 0))) := (Ext.refl _ _).alloc _
  have HA := Lib.hid hA; have EA := Lib.hid eA; have HN := Lib.hid hn
  clear hA eA hn
  by_cases hb1 : lim < 1
  · have hb : lim < 1 ∨ 1073741824 < lim := .inl hb1
    have HB := Lib.hid hb
    clear hb
    go_enter Try.func5, Try.ntmps5
    go_wp2_with (first
      | (have hx1 := e1; go_at_call 27; clear hx1; refine (HN.out _ _ (.inr ⟨_, rfl, (At.new w1 [.int .i64 0, .int .i64 0, .map none, .bool false, .bool false, .int .i64 0, .slice none 0 0] 57).cell 2 rfl, by simp⟩)).mono ?_; rintro e w2 ⟨rfl, e2⟩; have ez := ((EA.out.same e1).alloc _).same e2; have EZ := Lib.hid ez; clear ez q0 q1 q2 q3 q4 q5 q6 q7 q8 q9 l1)
      | (go_at_call 27; refine (HN.out _ _ (.inl rfl)).mono ?_; rintro e w1 ⟨rfl, e1⟩; have a1 := HA.out.ext e1 fun h => h; have l1 := a1.lt; have q0 := a1.cell 0 rfl; have q1 := a1.cell 1 rfl; have q2 := a1.cell 2 rfl; have q3 := a1.cell 3 rfl; have q4 := a1.cell 4 rfl; have q5 := a1.cell 5 rfl; have q6 := a1.cell 6 rfl; have q7 := a1.cell 7 rfl; have q8 := a1.cell 8 rfl; have q9 := a1.cell 9 rfl; clear a1)
      | (go_at_call 17; refine (new_bad _ lim HB.out).mono ?_; rintro e w' ⟨rfl, rfl⟩)
      | (go_at_call 18; refine (num_any _ _).mono ?_; rintro e w' ⟨rfl, rfl⟩))
    go_ret
    exact ⟨rfl, EZ.out⟩
  by_cases hb2 : 1073741824 < lim
  · have hb : lim < 1 ∨ 1073741824 < lim := .inr hb2
    have hb3 : 1 ≤ lim := by omega
    clear hb1
    have HB := Lib.hid hb
    clear hb
    go_enter Try.func5, Try.ntmps5
    go_wp2_with (first
      | (have hx1 := e1; go_at_call 27; clear hx1; refine (HN.out _ _ (.inr ⟨_, rfl, (At.new w1 [.int .i64 0, .int .i64 0, .map none, .bool false, .bool false, .int .i64 0, .slice none 0 0] 57).cell 2 rfl, by simp⟩)).mono ?_; rintro e w2 ⟨rfl, e2⟩; have ez := ((EA.out.same e1).alloc _).same e2; have EZ := Lib.hid ez; clear ez q0 q1 q2 q3 q4 q5 q6 q7 q8 q9 l1)
      | (go_at_call 27; refine (HN.out _ _ (.inl rfl)).mono ?_; rintro e w1 ⟨rfl, e1⟩; have a1 := HA.out.ext e1 fun h => h; have l1 := a1.lt; have q0 := a1.cell 0 rfl; have q1 := a1.cell 1 rfl; have q2 := a1.cell 2 rfl; have q3 := a1.cell 3 rfl; have q4 := a1.cell 4 rfl; have q5 := a1.cell 5 rfl; have q6 := a1.cell 6 rfl; have q7 := a1.cell 7 rfl; have q8 := a1.cell 8 rfl; have q9 := a1.cell 9 rfl; clear a1)
      | (go_at_call 17; refine (new_bad _ lim HB.out).mono ?_; rintro e w' ⟨rfl, rfl⟩)
      | (go_at_call 18; refine (num_any _ _).mono ?_; rintro e w' ⟨rfl, rfl⟩))
    go_ret
    exact ⟨rfl, EZ.out⟩
  · obtain ⟨n, rfl⟩ := Int.eq_ofNat_of_zero_le (show 0 ≤ lim by omega)
    have g1 : 1 ≤ n := by omega
    have g2 : n ≤ 1073741824 := by omega
    have g3 : (1 : Int) ≤ (n : Int) := by omega
    have g4 : (n : Int) ≤ 1073741824 := by omega
    clear hb1 hb2
    go_enter Try.func5, Try.ntmps5
    go_wp2_with (first
      | (have hx1 := e1; go_at_call 27; clear hx1; refine (HN.out _ _ (.inr ⟨_, rfl, (At.new w1 [.int .i64 0, .int .i64 0, .map none, .bool false, .bool false, .int .i64 0, .slice none 0 0] 57).cell 2 rfl, by simp⟩)).mono ?_; rintro e w2 ⟨rfl, e2⟩; have ez := ((EA.out.same e1).alloc _).same e2; have EZ := Lib.hid ez; clear ez q0 q1 q2 q3 q4 q5 q6 q7 q8 q9 l1)
      | (go_at_call 27; refine (HN.out _ _ (.inl rfl)).mono ?_; rintro e w1 ⟨rfl, e1⟩; have a1 := HA.out.ext e1 fun h => h; have l1 := a1.lt; have q0 := a1.cell 0 rfl; have q1 := a1.cell 1 rfl; have q2 := a1.cell 2 rfl; have q3 := a1.cell 3 rfl; have q4 := a1.cell 4 rfl; have q5 := a1.cell 5 rfl; have q6 := a1.cell 6 rfl; have q7 := a1.cell 7 rfl; have q8 := a1.cell 8 rfl; have q9 := a1.cell 9 rfl; clear a1)
      | (go_at_call 17; refine (new_at _ n g1 g2).mono ?_; rintro e w3 ⟨rfl, h3, e3⟩; have L3 := Life.of_new (w0 := w) h3 (by intro q hq; have := EZ.out.size; simp [dbl, footL, foot] at hq; omega) (EZ.out.same e3); have HL3 := Lib.hid L3; clear L3 h3)
      | (go_at_call 21; refine (life_on HL3.out).mono ?_; rintro e w' ⟨rfl, rfl⟩)
      | (go_at_call 20; refine (life_append0 n HL3.out).mono ?_; rintro e w5 ⟨rfl, h5⟩)
      | (go_at_call 22; refine (life_calls h5).mono ?_; rintro e w' ⟨rfl, rfl⟩)
      | (go_at_call 18; refine (num_any _ _).mono ?_; rintro e w' ⟨rfl, rfl⟩))
    go_ret
    obtain ⟨F5, -, -, e5⟩ := h5
    exact ⟨rfl, e5⟩
end Go.Proofs.Ytnppneilbkmnfaa
namespace Go.Proofs.Ytnppneilbkmnfaa
open Go.RowKit Go.ChangeShapes
section
variable {H : Type} {enc : TypeId × Value → H} {w : World}
theorem cells9 : Try.prog.cellsOf 9 = 1 := by kernel_rfl
theorem cells4 : Try.prog.cellsOf 4 = 1 := by kernel_rfl
theorem cellsT : Try.prog.cellsOf 29 = 3 := by kernel_rfl
theorem cellsK : Try.prog.cellsOf 39 = 1 := by kernel_rfl
theorem cellsOp : Try.prog.cellsOf 47 = 10 := by kernel_rfl

theorem El.string {t : TypeId} {cs : List Value} {d : DataW H} (ht : Try.prog.underlying t = some .string) (h : El enc Try.prog w t cs d) : ∃ s, cs = [.string s] ∧ s.size ≤ maxLen := by
  obtain ⟨f, ps, h⟩ := h
  obtain ⟨s, h1, -, h2⟩ := DataW.trod_string ht h
  exact ⟨s, h1, h2⟩
theorem El.bool {t : TypeId} {cs : List Value} {d : DataW H} (ht : Try.prog.underlying t = some .bool) (h : El enc Try.prog w t cs d) : ∃ b, cs = [.bool b] := by
  obtain ⟨f, ps, h⟩ := h
  obtain ⟨b, h1, -⟩ := DataW.trod_bool ht h
  exact ⟨b, h1⟩
set_option maxRecDepth 100000 in
theorem El.trouble {cs : List Value} {d : DataW H} (h : El enc Try.prog w 29 cs d) : ∃ a k b, cs = [.int .i64 a, .int .i64 k, .bool b] := by
  obtain ⟨f, ps, h⟩ := h
  obtain ⟨xs, n, _, _, hl, hlen, hf⟩ := DataW.trod_struct Try.underlying29 h
  rw [cellsT] at hl
  match xs, hlen, cs, hl with
  | [y0, y1, y2], _, [c0, c1, c2], _ =>
    have f0 := hf 0 _ rfl
    have f1 := hf 1 _ rfl
    have f2 := hf 2 _ rfl
    simp [cells3, cells4] at f0 f1 f2
    obtain ⟨K, e0, -⟩ := El.int Try.underlying3 ⟨n, y0.2, f0⟩
    obtain ⟨A, e1, -⟩ := El.int Try.underlying3 ⟨n, y1.2, f1⟩
    obtain ⟨B, e2⟩ := El.bool Try.underlying4 ⟨n, y2.2, f2⟩
    simp only [List.cons.injEq, and_true] at e0 e1 e2
    subst e0 e1 e2
    exact ⟨K, A, B, rfl⟩
/-- a slice of ints, opened -/
theorem El.ints {v : Value} {d : DataW H} (h : El enc Try.prog w 39 [v] d) : ∃ l : List Int, Reads w 1 v l.length (l.map (.int .i64 ·)) ∧ (∀ k, inFoot v k → k < w.heap.size) ∧ l.length + 1 ≤ Rows.uptoBulk d := by
  obtain ⟨ces, h1, h2, h3, h4⟩ := open_row Try.underlying39 cells3 (by omega) h
  have h6 : ∃ l : List Int, l.length = ces.length ∧ ces.flatMap (·.1) = l.map (.int .i64 ·) := by
    clear h1 h3 h4 h
    induction ces with
    | nil => exact ⟨[], rfl, rfl⟩
    | cons c ces ih =>
      obtain ⟨n, e, -⟩ := (h2 c (List.mem_cons_self ..)).2.int Try.underlying3
      obtain ⟨l, hl, he⟩ := ih fun c hc => h2 c (List.mem_cons_of_mem _ hc)
      exact ⟨n :: l, by simp [hl], by rw [List.flatMap_cons, e, he]; rfl⟩
  obtain ⟨l, hl, he⟩ := h6
  refine ⟨l, ?_, h4, ?_⟩
  · rw [hl, ← he]
    exact h1
  · rcases h3 with ⟨rfl, rfl⟩ | ⟨sp, rfl⟩
    · simp [hl, Rows.uptoBulk]
    · have := bulk_length (ces.map (·.2))
      rw [List.length_map] at this
      simp only [Rows.uptoBulk]
      omega

/-- what lies behind a call's cells -/
structure OpOk (w : World) (o : OpD) (B : List UInt8) (ks : List Int) : Prop where
  name : o.s.size ≤ maxLen
  dn : o.dn = B.length
  data : Bytes w (.slice o.dx o.dn o.dc) B
  dlt : ∀ k, inFoot (.slice o.dx o.dn o.dc) k → k < w.heap.size
  kn : o.kn = ks.length
  keep : Reads w 1 (.slice o.kx o.kn o.kc) ks.length (ks.map (.int .i64 ·))
  klt : ∀ k, inFoot (.slice o.kx o.kn o.kc) k → k < w.heap.size
  junk : 0 ≤ o.junk ∧ o.junk < 256
set_option maxRecDepth 100000 in
theorem El.op {cs : List Value} {d : DataW H} (h : El enc Try.prog w 47 cs d) : ∃ (o : OpD) (B : List UInt8) (ks : List Int), cs = o.cells ∧ OpOk w o B ks ∧ B.length + ks.length + 2 ≤ Rows.uptoBulk d := by
  obtain ⟨f, ps, h⟩ := h
  obtain ⟨xs, n, _, hx, hl, hlen, hf⟩ := DataW.trod_struct Try.underlying47 h
  rw [cellsOp] at hl
  match xs, hlen, cs, hl with
  | [y0, y1, y2, y3, y4, y5, y6, y7], _, [c0, c1, c2, c3, c4, c5, c6, c7, c8, c9], _ =>
    have f0 := hf 0 _ rfl
    have f1 := hf 1 _ rfl
    have f2 := hf 2 _ rfl
    have f3 := hf 3 _ rfl
    have f4 := hf 4 _ rfl
    have f5 := hf 5 _ rfl
    have f6 := hf 6 _ rfl
    have f7 := hf 7 _ rfl
    simp [cells3, cells9, cells29, cellsT, cellsK, cells5] at f0 f1 f2 f3 f4 f5 f6 f7
    obtain ⟨K, e0, -⟩ := El.int Try.underlying3 ⟨n, y0.2, f0⟩
    obtain ⟨who, e1, -⟩ := El.int Try.underlying3 ⟨n, y1.2, f1⟩
    obtain ⟨s, e2, hs⟩ := El.string Try.underlying9 ⟨n, y2.2, f2⟩
    obtain ⟨B, hB, hBl, hBk⟩ := El.bytes ⟨n, y3.2, f3⟩
    obtain ⟨N, e4, -⟩ := El.int Try.underlying3 ⟨n, y4.2, f4⟩
    obtain ⟨t0, t1, t2, e5⟩ := El.trouble ⟨n, y5.2, f5⟩
    obtain ⟨ks, hK, hKl, hKk⟩ := El.ints ⟨n, y6.2, f6⟩
    obtain ⟨J, e7, hJ⟩ := El.int Try.underlying5 ⟨n, y7.2, f7⟩
    simp only [List.cons.injEq, and_true] at e0 e1 e2 e4 e5 e7
    obtain ⟨e5, e6, e8⟩ := e5
    subst e0 e1 e2 e4 e5 e6 e8 e7
    obtain ⟨dx, dc, rfl, -⟩ := hB.open
    obtain ⟨kx, kc, rfl, -⟩ := hK.ints
    have hJ2 : 0 ≤ J ∧ J ≤ 255 := by simpa [Lit.wf, IntKind.min, IntKind.max, IntKind.signed, IntKind.bits] using hJ
    refine ⟨⟨K, who, s, dx, B.length, dc, N, t0, t1, t2, kx, ks.length, kc, J⟩, B, ks, rfl, ⟨hs, rfl, hB, hBl, rfl, hK, hKl, hJ2.1, by show J < 256; omega⟩, ?_⟩
    have hd : d = .agg [y0.1, y1.1, y2.1, y3.1, y4.1, y5.1, y6.1, y7.1] := by simpa using congrArg Prod.fst hx
    rw [hd]
    simp only [Rows.uptoBulk, Rows.uptoBulkAll]
    omega
end
end Go.Proofs.Ytnppneilbkmnfaa
