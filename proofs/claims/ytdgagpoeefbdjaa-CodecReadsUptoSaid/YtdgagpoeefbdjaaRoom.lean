/- The call of the law CodecRoom. Conditions: the reads can be read; the bytes fit into memory. -/
import Derived.Test.YtdgagpoeefbdjaaRs
namespace Go.Proofs.Ytdgagpoeefbdjaa
open Go.RowKit

structure GetD where
  K : Int
  A : Int
  B : Int
def GetD.cells (g : GetD) : List Value := [.int .i64 g.K, .int .i64 g.A, .int .i64 g.B]
/-- a slice of reads -/
structure Gets (w : World) (v : Value) (l : List GetD) : Prop where
  reads : Reads w 3 v l.length (l.flatMap GetD.cells)
  each : ∀ g ∈ l, IsInt64 g.K ∧ IsInt64 g.A ∧ IsInt64 g.B
theorem Gets.ext {F : Nat → Prop} {w w' : World} {v : Value} {l : List GetD} (h : Gets w v l) (e : Ext F w w') (hv : ∀ k, inFoot v k → ¬ F k) : Gets w' v l := ⟨h.reads.ext e hv, h.each⟩
theorem Gets.open {w : World} {v : Value} {l : List GetD} (h : Gets w v l) : ∃ ao cap, v = .slice ao l.length cap ∧ l.length ≤ cap ∧ cap ≤ maxLen ∧
    (l ≠ [] → ∃ b off, ao = some ⟨b, off, none⟩ ∧ ∀ (k : Nat) (hk : k < l.length), w.cell? ⟨b, off + k * 3, none⟩ = some (.int .i64 l[k].K) ∧ w.cell? ⟨b, off + k * 3 + 1, none⟩ = some (.int .i64 l[k].A) ∧ w.cell? ⟨b, off + k * 3 + 2, none⟩ = some (.int .i64 l[k].B)) := by
  obtain ⟨h1, ao, cap, rfl, h2, h3, h4⟩ := h.reads
  refine ⟨ao, cap, rfl, h2, h3, fun hne => ?_⟩
  obtain ⟨b, off, e, hc⟩ := h4 (by
    cases l with
    | nil => exact absurd rfl hne
    | cons d l => simp [GetD.cells])
  have hf := flat_at GetD.cells 3 (fun _ => rfl) l
  refine ⟨b, off, e, fun k hk => ⟨?_, ?_, ?_⟩⟩
  · exact hc (k * 3) _ (by have := hf k hk 0 (by omega); rw [Nat.add_zero] at this; rw [this]; rfl)
  · rw [Nat.add_assoc]
    exact hc (k * 3 + 1) _ (by rw [hf k hk 1 (by omega)]; rfl)
  · rw [Nat.add_assoc]
    exact hc (k * 3 + 2) _ (by rw [hf k hk 2 (by omega)]; rfl)

theorem rdD_bounds (K A B : Int) (rest : List UInt8) (hA : A ≤ 9223372036854775807) : (rdD K A B rest).2.1 ≤ rest.length ∧ (rdD K A B rest).2.2.2.length ≤ rest.length ∧ ((rdD K A B rest).1 ≠ 0 → (rdD K A B rest).2 = (0, 0, [])) ∧ (rdD K A B rest).2.2.1 < 18446744073709551616 ∧ 0 ≤ (rdD K A B rest).1 ∧ (rdD K A B rest).1 ≤ 12 := by
  obtain ⟨h1, h2, h3⟩ := numL_front rest
  have h8 := rd8_lt A B rest hA
  unfold rdD
  split
  · unfold rd0
    split
    · simp
    · next x t => have := x.toNat_lt; simp; omega
  split
  · unfold rd1
    split
    · simp
    · next x t =>
      have := x.toNat_lt
      split <;> simp
      omega
  split
  · have := rdF_lt 4 rest
    unfold rdF at this ⊢
    split
    · next h => rw [if_pos h] at this; simp only at this ⊢; simp; omega
    · simp
  split
  · have := rdF_lt 8 rest
    unfold rdF at this ⊢
    split
    · next h => rw [if_pos h] at this; simp only at this ⊢; simp; omega
    · simp
  split
  · have := rd4_lt rest
    unfold rd4 at this ⊢
    simp only at this ⊢
    refine ⟨?_, by simp, fun h => by rw [h2 h], by omega, by omega, by omega⟩
    by_cases h : (numL rest 0 0).1 = 0
    · exact (h1 h).2.2.1
    · rw [h2 h]; simp
  split
  · unfold rd5
    split
    · simp
    split
    · simp
    · simp; omega
  split
  · unfold rd6
    split
    · simp
    split
    · next h => simp only; simp; omega
    split
    · simp
    split
    · simp
    · next h _ h4 =>
      have := h1 (by simpa using h)
      simp only
      simp
      omega
  · unfold rd8 at h8 ⊢
    split
    · simp
    split
    · next h => simp only; simp; omega
    split
    · simp
    split
    · simp
    · next h h5 h6 =>
      have := h1 (by simpa using h)
      simp only
      simp
      omega

theorem rdE_bounds (err K A B : Int) (rest : List UInt8) (hA : A ≤ 9223372036854775807) : (rdE err K A B rest).2.1 ≤ rest.length ∧ (rdE err K A B rest).2.2.2.length ≤ rest.length ∧ (rdE err K A B rest).2.2.1 < 18446744073709551616 ∧ ((rdE err K A B rest).1 ≠ 0 → (rdE err K A B rest).2 = (0, 0, [])) := by
  have h := rdD_bounds K A B rest hA
  unfold rdE
  split
  · exact ⟨h.1, h.2.1, h.2.2.2.1, h.2.2.1⟩
  · simp
theorem rdE_count (err A B : Int) (rest : List UInt8) (hB : 0 < B) : (rdE err 8 A B rest).2.2.1 ≤ rest.length - (rdE err 8 A B rest).2.1 := by
  unfold rdE
  split
  · show (rd8 A B rest).2.2.1 ≤ rest.length - (rd8 A B rest).2.1
    unfold rd8
    repeat' split
    all_goals simp only [Nat.zero_le]
    next h =>
      obtain ⟨b, rfl⟩ := Int.eq_ofNat_of_zero_le (show 0 ≤ B by omega)
      have : (numL rest 0 0).2.1 * 1 ≤ (numL rest 0 0).2.1 * b := Nat.mul_le_mul (Nat.le_refl _) (by omega)
      simp only [Int.toNat_natCast] at h
      omega
  · simp

/-- what stands behind k reads -/
def RoomRel (w wr : World) (bs : List UInt8) (pv : Value) : Prop := ∃ p v a err, pv = .pointer (some ⟨p, 0, none⟩) ∧ RdAt wr p v bs a err ∧ Ext Nil w wr ∧ (∀ k, PF p v k → w.heap.size ≤ k)

/-- the numbers of a round -/
structure RoomN (a kk m m2 n N : Nat) (q B : Int) : Prop where
  hkm : kk ≤ m
  hm2 : m2 + kk = m
  am : a + m = n
  w1 : wrap64 ((a : Int) + (m : Int)) = (n : Int)
  w2 : wrap64 (((a + kk : Nat) : Int) + (m2 : Int)) = (n : Int)
  w3 : wrap64 (((a : Int) + (kk : Int)) + (m2 : Int)) = (n : Int)
  w4 : IntKind.u64.wrap (m2 : Int) = (m2 : Int)
  guard : (((q == 8) = true ∧ decide (0 < B) = true) ∧ (N : Int) ≤ (m2 : Int)) ∨ ((q == 8) = true ∧ decide (0 < B) = false) ∨ (q == 8) = false
theorem wrap64_id (n : Int) (h : -9223372036854775808 ≤ n ∧ n ≤ 9223372036854775807) : wrap64 n = n := by unfold wrap64; omega
theorem room_facts (a kk n N : Nat) (q B : Int) (here : a ≤ n) (hn : n ≤ 1099511627776) (hkm : kk ≤ n - a) (hc : q = 8 → 0 < B → N ≤ n - a - kk) : RoomN a kk (n - a) (n - a - kk) n N q B := by
  refine ⟨hkm, by omega, by omega, ?_, ?_, ?_, u64_wrap _ (by omega), ?_⟩
  · rw [wrap64_id _ (by omega)]; omega
  · rw [wrap64_id _ (by omega)]; omega
  · rw [wrap64_id _ (by omega)]; omega
  · by_cases h8 : q = 8
    · by_cases hB0 : 0 < B
      · have := hc h8 hB0
        exact .inl ⟨⟨by simp [h8], by simp [hB0]⟩, by omega⟩
      · exact .inr (.inl ⟨by simp [h8], by simp; omega⟩)
    · exact .inr (.inr (by simp [h8]))

set_option maxHeartbeats 4000000 in
set_option maxRecDepth 20000 in
theorem room_any (w : World) (xv lv : Value) (bs : List UInt8) (l : List GetD) (hb : Bytes w xv bs) (hl : Gets w lv l) (hfit : Fits bs.length) :
    Calls Try.prog 9 #[xv, lv] w fun e w' => e = .returned (.bool true) ∧ Ext Nil w w' := by
  obtain ⟨aol, capl, rfl, hlc, hlm, -⟩ := hl.open
  unfold maxLen at hlm
  obtain ⟨aox, capx, rfl, hxc, hxm, -⟩ := hb.open
  have hfit' : bs.length ≤ 1099511627776 := hfit
  go_enter Try.func9, Try.ntmps9
  go_wp2_with fail
  refine (newReader_any w _ bs hb hfit).mono ?_
  rintro e w0 ⟨p, v, rfl, hR0, hS0⟩
  have hp : w.heap.size ≤ p := (hS0.2 p (.inl rfl)).resolve_left fun h => h
  clear hb
  go_wp2_with fail
  go_loopw [6] (fun i wr => ∃ k : Nat, k ≤ l.length ∧ i = .int .i64 k ∧ ∃ a err, RdAt wr p v bs a err ∧ Ext Nil w wr) (fun i _ => l.length - (intOf i).toNat)
  case atStart => exact ⟨0, Nat.zero_le _, rfl, 0, 0, hR0, hS0.1⟩
  case round =>
    obtain ⟨k, hk, rfl, a, err, hR, hX⟩ := hrel
    clear hR0 hS0
    by_cases hlt : k < l.length
    · obtain ⟨aol', capl', e, _, _, hcl⟩ := (hl.ext hX fun _ _ h => h).open
      simp only [Value.slice.injEq, true_and] at e
      obtain ⟨rfl, rfl⟩ := e
      obtain ⟨b, off, rfl, hcm⟩ := hcl (by intro e; subst e; simp at hlt)
      obtain ⟨g0, g1, g2⟩ := hcm k hlt
      have hgg := hl.each l[k] (List.getElem_mem hlt)
      have hbw : b < w.heap.size := by
        obtain ⟨_, _, e, _, _, hcw⟩ := hl.open
        simp only [Value.slice.injEq, true_and] at e
        obtain ⟨rfl, rfl⟩ := e
        obtain ⟨b', off', e, hcw⟩ := hcw (by intro e; subst e; simp at hlt)
        simp only [Option.some.injEq, Addr.mk.injEq, and_true] at e
        obtain ⟨rfl, rfl⟩ := e
        have hc := (hcw k hlt).1
        unfold World.cell? at hc
        by_cases hl : b < w.heap.size
        · exact hl
        · rw [Array.getElem?_eq_none (by show w.heap.size ≤ b; omega)] at hc
          simp at hc
      clear hcm hcl
      generalize l[k] = g at *
      obtain ⟨K, A, B⟩ := g
      obtain ⟨hK, hA, hB⟩ := hgg
      simp only at g0 g1 g2 hK hA hB
      have hbd := rdE_bounds err (K % 9) A B (bs.drop a) hA.2
      have hcnt : K % 9 = 8 → 0 < B → (rdE err (K % 9) A B (bs.drop a)).2.2.1 ≤ (bs.drop a).length - (rdE err (K % 9) A B (bs.drop a)).2.1 := fun h8 hB => by rw [h8]; exact rdE_count err A B _ hB
      have hlaw := fun (w' : World) (h : RdAt w' p v bs a err) => law_any h K A B hK hA hB
      have hoff : err ≠ 0 → rdE err (K % 9) A B (bs.drop a) = (err, 0, 0, []) := fun he => if_neg he
      generalize rdE err (K % 9) A B (bs.drop a) = r at hbd hlaw hcnt hoff
      obtain ⟨er, kk, N, X⟩ := r
      simp only [drop_len] at hbd hlaw hcnt
      have here := hR.here
      have hkk : ∀ w, Calls Try.prog 35 #[.int .i64 K] w fun e w' => e = .returned (.int .i64 (K % 9)) ∧ w = w' := fun w => kind_any w K hK.1 hK.2
      have hN := room_facts a kk bs.length N (K % 9) B here hfit' hbd.1 hcnt
      have hleft := fun (w' : World) (h : RdAt w' p v bs a err) => left_rd h
      have hend := fun (w' : World) (h : RdAt w' p v bs a err) => end_any h
      have hleft2 : ∀ (w' : World) (h : RdAt w' p v bs (a + kk) er), Calls Try.prog 52 #[.pointer (some ⟨p, 0, none⟩)] w' fun e w'' => e = .returned (.int .i64 ((bs.length - a - kk : Nat) : Int)) ∧ ∃ n, w'' = w'.drewN n := fun w' h => by
        have := left_rd h
        rwa [← Nat.sub_sub] at this
      have hXm := hbd.2.1
      have hbe := hbd.2.2.2
      clear hcnt hbd here
      generalize bs.length - a - kk = m2 at hN hleft2
      generalize bs.length - a = m at hN hleft hend hXm
      generalize K % 9 = q at hkk hN
      obtain ⟨hkm, HM2, HM, hw1, hw2, hw3, hw4, hguard⟩ := hN
      have HM := Lib.hid HM
      have HM2 := Lib.hid HM2
      have HKK := Lib.hid hkk
      have hkq : ∀ w, Calls Try.prog 35 #[.int .i64 K] w fun e w' => e = .returned (.int .i64 q) ∧ ∃ n, w' = w.drewN n := fun w => (hkk w).mono fun e w' h => ⟨h.1, 0, h.2.symm⟩
      have HKQ := Lib.hid hkq
      clear hkq
      have HLeft := Lib.hid hleft
      have HLeft2 := Lib.hid hleft2
      have HEnd := Lib.hid hend
      have HLaw := Lib.hid hlaw
      have HBE := Lib.hid hbe
      have HOff := Lib.hid hoff
      have HL := Lib.hid hl
      have HW2 := Lib.hid hw2
      have HW3 := Lib.hid hw3
      have HW4 := Lib.hid hw4
      have HXM := Lib.hid hXm
      have HKM := Lib.hid hkm
      have HW1 := Lib.hid hw1
      clear hkk hleft hleft2 hend hlaw hbe hoff hl hw1 hw2 hw3 hw4 hXm hkm
      by_cases he : err = 0
      · subst he
        have hend := HEnd.out
        generalize endD 0 m = ed at hend
        clear HEnd
        have HEnd := Lib.hid hend
        clear hend
        rcases hguard with ⟨⟨hg1, hg2⟩, hg3⟩ | ⟨hg1, hg2⟩ | hg1
        all_goals
          go_wp2_with (first
            | (go_at_call 49; refine (err_any hR).mono ?_; rintro e w' ⟨rfl, rfl⟩)
            | (go_at_call 27; refine (num_any _ _).mono ?_; rintro e w' ⟨rfl, rfl⟩)
            | (go_at_call 50; refine (at_any hR).mono ?_; rintro e w' ⟨rfl, rfl⟩)
            | (go_at_call 51; refine (HEnd.out _ hR).mono ?_; rintro e w' ⟨rfl, n1, rfl⟩)
            | (go_at_call 52; refine (HLeft.out _ (hR.drewN _)).mono ?_; rintro e w' ⟨rfl, n2, rfl⟩))
          refine (HLaw.out _ (hR.drewN _)).mono ?_
          rintro e w3 ⟨x, rfl, hx, hR3, hX3⟩
          have hbp : ¬ One p b := fun e => by have e : b = p := e; omega
          have hX4 := fun o => (hX3.alloc o)
          have G0 := fun o => (hX4 o).cell g0 hbp
          have G2 := fun o => (hX4 o).cell g2 hbp
          have HG0 := Lib.hid G0
          have HG2 := Lib.hid G2
          clear G0 G2 hX4
          have hfin : ∀ o n, RdAt ((w3.alloc o).drewN n) p v bs (a + kk) er ∧ Ext Nil w ((w3.alloc o).drewN n) := fun o n =>
            ⟨(hR3.alloc o).drewN n, (((hX.drewN _).trans hX3 fun i hi e => by have e : i = p := e; omega).alloc o).drewN n⟩
          have HF := Lib.hid hfin
          clear hfin
          obtain ⟨ao, cap, h1, h2, rfl, ho, hf⟩ := hx
          simp only at hR3 h1 h2 ho hf ⊢
          go_wp2_with (first
            | (go_at_call 50; refine (at_any (hR3.alloc _)).mono ?_; rintro e w' ⟨rfl, rfl⟩)
            | (go_at_call 52; refine (HLeft2.out _ (hR3.alloc _)).mono ?_; rintro e w' ⟨rfl, n3, rfl⟩))
          all_goals first
            | (exfalso; rename_i h; exact h HW1.out)
            | (exfalso; rename_i h; exact h HW2.out)
            | (exfalso; rename_i h; exact h HW3.out)
            | (exfalso; rename_i h; have := HXM.out; omega)
            | skip
          have G0 := HG0.out (.cells #[.int .u64 N, .slice ao X.length cap] 49)
          have G2 := HG2.out (.cells #[.int .u64 N, .slice ao X.length cap] 49)
          have hw4 := HW4.out
          go_quiet (first
            | (go_at_call 35; exact (HKK.out _).mono fun e w' h => ⟨h.1, _, h.2.symm⟩)
            | (go_at_call 52; exact (HLeft2.out _ ((hR3.alloc _).drewN _)).mono fun e w' ⟨h1, n, h2⟩ => ⟨h1, _, h2.trans ((World.drewN_drewN _ _ _).trans (congrArg _ (Nat.add_assoc _ _ _)))⟩))
          go_wp2
          refine ⟨⟨k + 1, by omega, by go_num, a + kk, er, (HF.out _ _).1, (HF.out _ _).2⟩, by simp [intOf]; omega⟩
      · have ho := HOff.out he
        simp only [Prod.mk.injEq] at ho
        obtain ⟨rfl, rfl, rfl, rfl⟩ := ho
        have e2 : m2 = m := by have := HM2.out; omega
        subst e2
        have hend := HEnd.out
        rw [show endD er m2 = er from if_pos he] at hend
        have HEnd2 := Lib.hid hend
        clear hend HEnd HLeft2
        have hne : (er != 0) = true := by rw [bne_iff_ne]; exact he
        have HE := Lib.hid he
        clear he
        rcases hguard with ⟨⟨hg1, hg2⟩, hg3⟩ | ⟨hg1, hg2⟩ | hg1
        all_goals
          go_wp2_with (first
            | (go_at_call 49; refine (err_any hR).mono ?_; rintro e w' ⟨rfl, rfl⟩)
            | (go_at_call 27; refine (num_any _ _).mono ?_; rintro e w' ⟨rfl, rfl⟩)
            | (go_at_call 50; refine (at_any hR).mono ?_; rintro e w' ⟨rfl, rfl⟩)
            | (go_at_call 51; refine (HEnd2.out _ hR).mono ?_; rintro e w' ⟨rfl, n1, rfl⟩)
            | (go_at_call 52; refine (HLeft.out _ (hR.drewN _)).mono ?_; rintro e w' ⟨rfl, n2, rfl⟩))
          refine (HLaw.out _ (hR.drewN _)).mono ?_
          rintro e w3 ⟨x, rfl, hx, hR3, hX3⟩
          have hbp : ¬ One p b := fun e => by have e : b = p := e; omega
          have hX4 := fun o => (hX3.alloc o)
          have G0 := fun o => (hX4 o).cell g0 hbp
          have G2 := fun o => (hX4 o).cell g2 hbp
          have HG0 := Lib.hid G0
          have HG2 := Lib.hid G2
          clear G0 G2 hX4
          simp only [Nat.add_zero] at hR3
          have hfin : ∀ o n, RdAt ((w3.alloc o).drewN n) p v bs a er ∧ Ext Nil w ((w3.alloc o).drewN n) := fun o n =>
            ⟨(hR3.alloc o).drewN n, (((hX.drewN _).trans hX3 fun i hi e => by have e : i = p := e; omega).alloc o).drewN n⟩
          have HF := Lib.hid hfin
          clear hfin
          obtain ⟨ao, cap, h1, h2, rfl, ho, hf⟩ := hx
          simp only [List.length_nil] at h1 h2 ho hf ⊢
          go_wp2_with (first
            | (go_at_call 49; refine (err_any (by first | exact hR3.alloc _ | exact (hR3.alloc _).drewN _)).mono ?_; rintro e w' ⟨rfl, rfl⟩)
            | (go_at_call 27; refine (num_any _ _).mono ?_; rintro e w' ⟨rfl, rfl⟩)
            | (go_at_call 50; refine (at_any (by first | exact hR3.alloc _ | exact (hR3.alloc _).drewN _)).mono ?_; rintro e w' ⟨rfl, rfl⟩)
            | (go_at_call 51; refine (HEnd2.out _ (by first | exact hR3.alloc _ | exact (hR3.alloc _).drewN _)).mono ?_; rintro e w' ⟨rfl, n4, rfl⟩)
            | (go_at_call 52; refine (HLeft.out _ (by first | exact hR3.alloc _ | exact (hR3.alloc _).drewN _)).mono ?_; rintro e w' ⟨rfl, n3, rfl⟩))
          all_goals first
            | (exfalso; rename_i h; exact h HW1.out)
            | skip
          have G0 := HG0.out (.cells #[.int .u64 0, .slice ao 0 cap] 49)
          have G2 := HG2.out (.cells #[.int .u64 0, .slice ao 0 cap] 49)
          have hw4 := HW4.out
          go_quiet (first
            | (go_at_call 35; exact (HKK.out _).mono fun e w' h => ⟨h.1, _, h.2.symm⟩)
            | (go_at_call 52; exact (HLeft.out _ ((hR3.alloc _).drewN _)).mono fun e w' ⟨h1, n, h2⟩ => ⟨h1, _, h2.trans ((World.drewN_drewN _ _ _).trans (congrArg _ (Nat.add_assoc _ _ _)))⟩))
          go_wp2
          refine ⟨⟨k + 1, by omega, by go_num, a, er, (HF.out _ _).1, (HF.out _ _).2⟩, by simp [intOf]; omega⟩
    · go_wp2_with fail
      go_ret
      exact ⟨rfl, hX⟩
end Go.Proofs.Ytdgagpoeefbdjaa
