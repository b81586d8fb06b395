/- The walk of DiskTurns: it returns true, and no older memory turns. Condition: the argument can be read. -/
import Derived.Test.YtnppneilbkmnfaaZYi
namespace Go.Proofs.Ytnppneilbkmnfaa
open Go.RowKit

/-- what a round of the first loop finds -/
structure Trn (W wr : World) (d q : Nat) (D : Dk) (K : Nat → Prop) (g n cap kb : Nat) (cut : Int) (c : List UInt8) : Prop where
  pq : PQ wr d q D D K
  new : ∀ k, K k → W.heap.size ≤ k ∧ k ≠ g ∧ k ≠ kb
  ext : Ext Nil W wr
  buf : OwnB wr (.slice (some ⟨g, 0, none⟩) n (cap + 1)) c
  kp : At wr kb 3 [.int .i64 n, .int .i64 cut]
  apart : g ≠ kb
  gw : W.heap.size ≤ g
  len : c.length = n
theorem Trn.ext0 {W wr w' : World} {d q : Nat} {D : Dk} {K : Nat → Prop} {g n cap kb : Nat} {cut : Int} {c : List UInt8} (h : Trn W wr d q D K g n cap kb cut c) (e : Ext Nil wr w') : Trn W w' d q D K g n cap kb cut c :=
  ⟨h.pq.ext0 e, h.new, h.ext.same e, h.buf.ext e fun _ _ h => h, h.kp.ext e fun h => h, h.apart, h.gw, h.len⟩
theorem foot_g {g n c : Nat} {i : Nat} (h : inFoot (.slice (some ⟨g, 0, none⟩) n (c + 1)) i) : i = g := (Option.some.inj (show some g = some i from h)).symm
/-- behind a round -/
theorem Trn.next {W wr w2 w8 w9 : World} {d q : Nat} {D D' : Dk} {K K8 : Nat → Prop} {g n cap kb : Nat} {cut : Int} {c c' : List UInt8} (h : Trn W wr d q D K g n cap kb cut c) (e : Ext Nil wr w2) (hS : Step K w2 K8 w8) (hP : PQ w8 d q D' D' K8) (hO : OwnB w9 (.slice (some ⟨g, 0, none⟩) n (cap + 1)) c') (hl : c'.length = n) (e9 : Ext (inFoot (.slice (some ⟨g, 0, none⟩) n (cap + 1))) w8 w9) : Trn W w9 d q D' K8 g n cap kb cut c' := by
  have hg := h.buf.lt g rfl
  have hk := h.kp.lt
  have z1 := e.size
  have hws := h.ext.size
  have n1 : ¬ K8 g := step_not hS (fun hk => (h.new g hk).2.1 rfl) (by omega)
  have n2 : ¬ K8 kb := step_not hS (fun hk => (h.new kb hk).2.2 rfl) (by omega)
  refine ⟨hP.ext e9 fun k hk hf => n1 (by rw [← foot_g hf]; exact hk), fun k hk => ⟨?_, fun e => n1 (by rw [← e]; exact hk), fun e => n2 (by rw [← e]; exact hk)⟩, ?_, hO, ?_, h.apart, h.gw, hl⟩
  · rcases hS.2 k hk with h1 | h1
    · exact (h.new k h1).1
    · omega
  · refine ((h.ext.same e).trans hS.1 fun i hi hk => ?_).trans e9 fun i hi hf => ?_
    · have := (h.new i hk).1
      omega
    · have := foot_g hf
      have := h.gw
      omega
  · exact ((h.kp.ext e fun h => h).ext hS.1 fun hk => (h.new kb hk).2.2 rfl).ext e9 fun hf => h.apart (foot_g hf).symm
theorem keep_reads {w : World} {kb : Nat} {a b : Int} (h : At w kb 3 [.int .i64 a, .int .i64 b]) : Reads w 1 (.slice (some ⟨kb, 0, none⟩) 2 2) ([a, b] : List Int).length (([a, b] : List Int).map (.int .i64 ·)) :=
  ⟨rfl, _, _, rfl, Nat.le_refl _, by simp [maxLen], fun _ => ⟨_, _, rfl, fun j u hj => by rw [Nat.zero_add]; exact h.cell j hj⟩⟩

set_option maxRecDepth 20000 in
set_option maxHeartbeats 8000000 in
theorem turns_any (w : World) (v : Value) (data : List UInt8) (hx : Bytes w v data) (cut : Int) :
    Calls Try.prog 15 #[v, .int .i64 cut] w fun e w' => e = .returned (.bool true) ∧ Ext Nil w w' := by
  obtain ⟨va, vc, rfl, hv1, hv2, -⟩ := hx.open
  unfold maxLen at hv2
  by_cases hbig : 5000 < data.length
  · have h1 : (5000 : Int) < (data.length : Int) := by omega
    clear hx
    go_enter Try.func15, Try.ntmps15
    go_wp2_with fail
    go_ret
    exact ⟨rfl, Ext.refl _ _⟩
  have h1 : ¬ (5000 : Int) < (data.length : Int) := by omega
  have hn : data.length ≤ 5000 := by omega
  obtain ⟨n, hnn⟩ : ∃ n, n = data.length := ⟨_, rfl⟩
  rw [← hnn] at hn h1 hv1 ⊢
  have HX := Lib.hid hx; have HL := Lib.hid hnn
  clear hx hbig hnn
  go_enter Try.func15, Try.ntmps15
  go_wp2_with (first
    | (go_at_call 17; refine (new_at _ 1048576 (by omega) (by omega)).mono ?_; rintro e w1 ⟨rfl, h3, e3⟩; have HL1 := Lib.hid (life_new h3 e3); clear h3 e3)
    | (go_at_call 49; refine (qnew_at _ 1048576 (by omega) (by omega)).mono ?_; rintro e w2 ⟨rfl, h4, e4⟩; have HL2 := Lib.hid (qlife_new h4 e4); clear h4 e4; obtain ⟨K0, hK1, hK2, hK3⟩ := PQ.make HL1.out HL2.out; have HP2 := Lib.hid hK1; have HK2 := Lib.hid hK2; have HE2 := Lib.hid hK3; clear hK1 hK2 hK3; have HRM := Lib.hid (room_m w2 _ data (HX.out.ext HE2.out fun _ _ h => h) (by have := HL.out; unfold Fits; omega)))
    | (go_at_call 18; refine (num_any _ _).mono ?_; rintro e w' ⟨rfl, rfl⟩)
    | (go_at_call 50; have hrm := HRM.out; rw [← HL.out] at hrm; refine hrm.mono ?_; clear hrm; rintro e w3 ⟨g, cap0, hg1, hg2, rfl, O3, S3⟩; obtain ⟨cap, rfl⟩ : ∃ cap, cap0 = cap + 1 := ⟨cap0 - 1, by omega⟩; have HO3 := Lib.hid O3; have HS3 := Lib.hid S3; clear O3 S3))
  have HTS := Lib.hid (show Trn w (w3.alloc (.cells #[.int .i64 n, .int .i64 cut] 3 (0, 0))) (w.heap.size + 1) w1.heap.size (Dk.fresh 1048576) K0 g n cap w3.heap.size cut data from by
    have eA : Ext Nil w3 (w3.alloc (.cells #[.int .i64 n, .int .i64 cut] 3 (0, 0))) := (Ext.refl _ _).alloc _
    have hgl : g < w3.heap.size := HO3.out.lt g rfl
    have hgn := (HS3.out.2 g rfl).resolve_left fun h => h
    have h2s := HE2.out.size
    have hK2l := HP2.out.lt
    have hO : OwnB w3 (.slice (some ⟨g, 0, none⟩) n (cap + 1)) data := by
      have h9 := HO3.out
      rcases h9.2 with ⟨ao', h1, h2⟩ | ⟨g', c, cs, h1, h2, h3, h4, h5, h6⟩
      · simp only [List.length_append, List.length_cons, List.length_nil] at h2
        omega
      · simp only [Value.slice.injEq, Option.some.injEq, Addr.mk.injEq, and_true, Nat.add_right_cancel_iff] at h1
        obtain ⟨rfl, h1, rfl⟩ := h1
        have hl := HL.out
        refine ⟨by rw [bvs_length, Nat.mul_one], .inr ⟨g, cap, cs, by rw [← hl], h2, by omega, h4, h5, ?_⟩⟩
        have h7 : (cs.take ((data ++ [201, 202, 203]).length * 1)).take data.length = (bvs (data ++ [201, 202, 203])).take data.length := by rw [h6]
        rw [Nat.mul_one, List.take_take, bvs_append, List.take_left' (bvs_length data)] at h7
        rw [Nat.mul_one]
        rw [← h7]
        congr 1
        rw [List.length_append]
        omega
    refine ⟨(HP2.out.ext0 HS3.out.1).ext0 eA, fun k hk => ⟨HK2.out k hk, fun e => by have := hK2l k hk; omega, fun e => by have := hK2l k hk; have := HS3.out.1.size; omega⟩, (HE2.out.same HS3.out.1).same eA, hO.ext eA fun _ _ h => h, At.new w3 [.int .i64 n, .int .i64 cut] 3, by omega, by omega, HL.out.symm⟩)
  clear HP2 HK2 HE2 HO3 HS3 HRM HL1 HL2 HX
  generalize hWN : w3.alloc (.cells #[.int .i64 n, .int .i64 cut] 3 (0, 0)) = wn at *
  clear hWN
  generalize w3.heap.size = kb at *
  generalize w1.heap.size = q at *
  generalize w.heap.size + 1 = d at *
  have HEF := Lib.hid (show Ease (Dk.fresh 1048576) 0 0 0 from ⟨rfl, rfl, rfl, rfl, Nat.le_refl _, Nat.le_refl _, Nat.le_refl _⟩)
  go_loopw [11] (fun i wr => ∃ (k : Nat) (D : Dk) (K : Nat → Prop) (c : List UInt8), i = .int .i64 (k : Int) ∧ k ≤ 2 ∧ Trn w wr d q D K g n cap kb cut c ∧ Ease D (2 * k) (10000 * k) (2 * k)) (fun i _ => 2 - (intOf i).toNat)
  case atStart => exact ⟨0, _, K0, data, rfl, Nat.zero_le _, HTS.out, HEF.out⟩
  case round =>
    obtain ⟨k, D, K, c, rfl, hk, hT, hE⟩ := hrel
    by_cases hlt : k < 2
    · have hlt2 : (k : Int) < 2 := by omega
      have hcl := hT.len
      have eP : Ext Nil wr (wr.alloc (.cells #[.pointer (some ⟨d, 0, none⟩), .pointer (some ⟨q, 0, none⟩)] 82 (0, 0))) := (Ext.refl _ _).alloc _
      have aP := At.new wr [.pointer (some ⟨d, 0, none⟩), .pointer (some ⟨q, 0, none⟩)] 82
      have hB1 := (hT.buf.ext eP fun _ _ h => h).bytes
      obtain ⟨ao2, cap2, w2, hrun, q1, q2, O2, S2⟩ := run_appendB (v := .slice none 0 0) (l := []) (Own.nil _ _ _) hB1 (by unfold Fits; simp; omega) 31
      simp only [List.length_nil, Nat.zero_add, hcl, List.nil_append] at hrun O2 S2 q1
      have S2 : Step Nil _ (inFoot (.slice ao2 n cap2)) w2 := ⟨S2.1.mono (fun i _ h => by simp [inFoot, foot] at h), fun i hi => (S2.2 i hi).imp (fun h => by simp [inFoot, foot] at h) id⟩
      have e2 : Ext Nil wr w2 := eP.same S2.1
      have hT2 := hT.ext0 e2
      have hA2 := aP.ext S2.1 fun h => h
      have hp1 : wr.heap.size < w2.heap.size := by have := hA2.lt; exact this
      have hnp : ¬ K wr.heap.size := fun h => Nat.lt_irrefl _ (hT.pq.lt _ h)
      have hng : ¬ K g := fun h => (hT.new g h).2.1 rfl
      have hgl : g < w2.heap.size := hT2.buf.lt g rfl
      have hnn : ∀ i, inFoot (.slice ao2 n cap2) i → ¬ K i ∧ i < w2.heap.size := fun i hi => ⟨fun hk => by have := hT.pq.lt i hk; have := (S2.2 i hi).resolve_left fun h => h; have h9 := eP.size; omega, O2.lt i hi⟩
      have hcb : c.length ≤ 5000 := by rw [hcl]; exact hn
      have hu : 10000 * k + c.length + c.length ≤ 1048576 := by omega
      have hEa := ease_append hT.pq.wf.1 hE (s := [97]) (by decide) c (by omega) (by omega)
      have HEA := Lib.hid hEa; have HT := Lib.hid hT; have HT2 := Lib.hid hT2; have HA2 := Lib.hid hA2; have HO2 := Lib.hid O2; have HX2 := Lib.hid e2; have HNN := Lib.hid hnn; have HNG := Lib.hid hng; have HNP := Lib.hid hnp; have HGL := Lib.hid hgl; have HP1 := Lib.hid hp1; have HCB := Lib.hid hcb; have HE := Lib.hid hE; have HU := Lib.hid hu; have HCL := Lib.hid hcl
      have HC1 := Lib.hid (show D.calls ≤ 1099511627776 by have := hE.calls; omega)
      have HC2 := Lib.hid (show (D.append [97] c).1.calls ≤ 1099511627776 by have := hEa.2.calls; omega)
      clear hEa hT hT2 hA2 O2 e2 hnn hng hnp hgl hp1 S2 eP aP hB1 hcb hE hu hcl
      go_wp2_with (first
        | (at_builtin; refine wpList_append_run rfl (.tmp 62) (.tmp 63) 31 31 rfl _ _ _ rfl rfl hrun ?_; clear hrun)
        | (go_at_call 20; refine (pq_append HT2.out.pq HC1.out ⟨#[97]⟩ (by decide) (.slice (some ⟨g, 0, none⟩) n (cap + 1)) c HT2.out.buf.bytes (fun i hi => by rw [foot_g hi]; exact HNG.out) (by have := HCB.out; omega)).mono ?_; rintro e w3 ⟨rfl, K3, hP3, hS3⟩; rw [show ((⟨#[97]⟩ : ByteArray).data.toList) = [97] from rfl] at hP3 ⊢; rw [HEA.out.1]; have HP3 := Lib.hid hP3; have HS3 := Lib.hid hS3; clear hP3 hS3)
        | (go_at_call 51; refine (qq_append HP3.out HC1.out (by rw [HE.out.arms]; exact Nat.zero_le _) ⟨#[97]⟩ (by decide) (.slice ao2 n cap2) c (by have := (HO2.out.ext HS3.out.1 fun i hi => (HNN.out i hi).1).bytes; exact this) (fun i hi => step_not HS3.out (HNN.out i hi).1 (HNN.out i hi).2) (by have := HCB.out; omega)).mono ?_; rintro e w4 ⟨rfl, K4, hP4, hS4⟩; rw [show ((⟨#[97]⟩ : ByteArray).data.toList) = [97] from rfl] at hP4 ⊢; rw [HEA.out.1]; have HP4 := Lib.hid hP4; have HS4 := Lib.hid (HS3.out.trans hS4); have HER := Lib.hid (ease_replace hP4.wf.1 HEA.out.2 (s := [98]) (by decide) c (by have := HU.out; omega) (by omega)); clear hP4 hS4)
        | (go_at_call 52; refine (pq_replace HP4.out HC2.out ⟨#[98]⟩ (by decide) (.slice (some ⟨g, 0, none⟩) n (cap + 1)) c (HT2.out.buf.ext HS4.out.1 fun i hi => by rw [foot_g hi]; exact HNG.out).bytes (fun i hi => by rw [foot_g hi]; exact step_not HS4.out HNG.out HGL.out) (by have := HCB.out; omega)).mono ?_; rintro e w5 ⟨rfl, K5, hP5, hS5⟩; rw [show ((⟨#[98]⟩ : ByteArray).data.toList) = [98] from rfl] at hP5 ⊢; rw [HER.out.1]; have HP5 := Lib.hid hP5; have HS5 := Lib.hid (HS4.out.trans hS5); clear hP5 hS5)
        | (go_at_call 53; refine (qq_replace HP5.out HC2.out (by rw [HEA.out.2.arms]; exact Nat.zero_le _) ⟨#[98]⟩ (by decide) (.slice ao2 n cap2) c (by have := (HO2.out.ext HS5.out.1 fun i hi => (HNN.out i hi).1).bytes; exact this) (fun i hi => step_not HS5.out (HNN.out i hi).1 (HNN.out i hi).2) (by have := HCB.out; omega)).mono ?_; rintro e w6 ⟨rfl, K6, hP6, hS6⟩; rw [show ((⟨#[98]⟩ : ByteArray).data.toList) = [98] from rfl] at hP6 ⊢; have HP6 := Lib.hid hP6; have HS6 := Lib.hid (HS5.out.trans hS6); have HA6 := Lib.hid (HA2.out.ext (HS5.out.trans hS6).1 HNP.out); have r0 := HA6.out.cell 0 rfl; have r1 := HA6.out.cell 1 rfl; clear hP6 hS6)
        | (have hy := mk; go_at_call 41; clear hy mk; refine (pq_ask HP7.out ⟨#[98]⟩ (by decide) (by have := HER.out.2.calls; omega) (by rw [HER.out.2.arms]; exact Nat.zero_le _)).mono ?_; rintro e w8 ⟨rfl, K8, hP8, hS8⟩; have HP8 := Lib.hid hP8; have HS8 := Lib.hid (HS7.out.trans hS8); clear hP8 hS8 r0 r1)
        | (go_at_call 41; refine (pq_ask HP6.out ⟨#[97]⟩ (by decide) (by have := HER.out.2.calls; omega) (by rw [HER.out.2.arms]; exact Nat.zero_le _)).mono ?_; rintro e w7 ⟨rfl, K7, hP7, hS7⟩; have HP7 := Lib.hid hP7; have HS7 := Lib.hid (HS6.out.trans hS7); have HA7 := Lib.hid (HA2.out.ext (HS6.out.trans hS7).1 HNP.out); clear r0 r1; have r0 := HA7.out.cell 0 rfl; have r1 := HA7.out.cell 1 rfl; clear hP7 hS7; have mk : True := trivial)
        | (go_at_call 54; refine (spoil_any _ (.slice (some ⟨g, 0, none⟩) n (cap + 1)) c (HT2.out.buf.ext HS8.out.1 fun i hi => by rw [foot_g hi]; exact HNG.out) (by have := HCB.out; unfold Fits; omega)).mono ?_; rintro e w9 ⟨rfl, ⟨c', hc', hO'⟩, e9⟩; have HN := Lib.hid (HT.out.next HX2.out HS8.out HP8.out hO' (by rw [hc']; exact HCL.out) e9); clear hc' hO' e9)
        | (go_at_call 18; refine (num_any _ _).mono ?_; rintro e w' ⟨rfl, rfl⟩))
      exact ⟨⟨k + 1, _, K8, c', by first | rfl | go_num, by omega, HN.out, ⟨HER.out.2.off, HER.out.2.out, HER.out.2.arms, HER.out.2.lim, by have := HER.out.2.calls; omega, by have := HER.out.2.used; have := HCB.out; omega, by have := HER.out.2.count; omega⟩⟩, by simp [intOf]; omega⟩
    · have hk2 : k = 2 := by omega
      have hnot : ¬ (k : Int) < 2 := by omega
      subst hk2
      have hkr := keep_reads hT.kp
      have hnk : ∀ i, inFoot (.slice (some ⟨kb, 0, none⟩) 2 2) i → ¬ K i := fun i hi => by rw [foot_g hi]; exact fun h => (hT.new _ h).2.2 rfl
      have hc0 : D.crash.2 = 0 := by rw [crash_in hE.out]
      have htd : D.told [(n : Int), cut] 0 = imgOf D.fs [(n : Int), cut] 0 := told_in hE.out _ _
      have HPC := Lib.hid (pq_crash hT.pq (.slice (some ⟨kb, 0, none⟩) 2 2) [(n : Int), cut] hkr hnk 0)
      have HT := Lib.hid hT; have HE := Lib.hid hE; have HC0 := Lib.hid hc0; have HTD := Lib.hid htd; have HNK := Lib.hid hnk; have HKR := Lib.hid hkr
      clear hT hE hkr hnk hc0 htd hlt HEF HTS
      go_wp2_with (first
        | (go_at_call 23; refine (HPC.out).mono ?_; rintro e w5 ⟨v1, l1, rfl, c1, c2, c3, c4, c5⟩; rw [HC0.out]; obtain ⟨va1, vc1, rfl, hl1, hl2⟩ := c2.see.shape; have hbx := box_late (w4 := wr) c4 c2 c5; have HPR := Lib.hid (by rw [HTD.out] at c1; exact c1); have HO6 := Lib.hid (c2.ext ((Ext.refl Nil w5).alloc (.cells #[.slice va1 l1.length vc1] 36 (0, 0))) fun _ _ h => h); have HN1 := Lib.hid c3; have HB6 := Lib.hid hbx; have HLT5 := Lib.hid c2.lt; have HC1 := Lib.hid c1; have x17 := hbx.1.cell 0 rfl; have HQC := Lib.hid (qq_crash hbx.2.2.1 (.slice (some ⟨kb, 0, none⟩) 2 2) [(n : Int), cut] (HKR.out.ext hbx.2.2.2.1 HNK.out) HNK.out 0); clear c1 c2 c3 c4 c5 hbx)
        | (go_at_call 44; refine (HQC.out).mono ?_; rintro e w7 ⟨v2, l2, rfl, c1, c2, c3, c4, c5⟩; obtain ⟨va2, vc2, rfl, -, -⟩ := c2.see.shape; have HB8 := Lib.hid (box_late c4 c2 c5); have hA6 := HB6.out.1.ext HB8.out.2.2.2.1 (fun hk => by have := HT.out.pq.lt _ hk; have := HB6.out.2.2.2.2.1; omega); have HA8 := Lib.hid hA6; have hO8 := HO6.out.ext HB8.out.2.2.2.1 (fun i hi hk => by have := HT.out.pq.lt _ hk; have := HN1.out i hi; omega); have HO8 := Lib.hid hO8; clear x17; have x17 := hA6.cell 0 rfl; have x19 := HB8.out.1.cell 0 rfl; have HSM := Lib.hid (sameImage_m _ _ _ l1 l2 hO8.see HB8.out.2.1); have HEQ := Lib.hid (show decide (l1.map FI.pair = l2.map FI.pair) = true from decide_eq_true (by rw [c1, HC1.out])); clear c1 c2 c3 c4 c5 hA6 hO8)
        | (go_at_call 35; refine (HSM.out).mono ?_; rintro e w9 ⟨rfl, e9⟩; rw [HEQ.out]; have HO9 := Lib.hid (HO8.out.ext e9 fun _ _ h => h); have HA9 := Lib.hid (HA8.out.ext e9 fun h => h); have HE9 := Lib.hid e9; clear e9 x17 x19)
        | (go_at_call 18; refine (num_any _ _).mono ?_; rintro e w' ⟨rfl, rfl⟩))
      have hX9 : Ext Nil w w9 := (((HT.out.ext.trans HB6.out.2.2.2.1 fun i hi hk => by have := (HT.out.new i hk).1; omega).trans HB8.out.2.2.2.1 fun i hi hk => by have := (HT.out.new i hk).1; omega).same HE9.out)
      have hmt : mountE 1048576 l1 = 0 := mount_ease HT.out.pq.wf.1 HE.out.lim HPR.out
      have hmi := mount_img HT.out.pq.wf.1 HPR.out
      have hnames := mountE_names hmt
      have hwr := HT.out.ext.size
      have HX9 := Lib.hid hX9; have HMT := Lib.hid hmt; have HMI := Lib.hid hmi; have HNS := Lib.hid hnames
      have HIB := Lib.hid (show ∀ k ∈ ibl (.slice va1 l1.length vc1) l1, w.heap.size ≤ k ∧ k < w5.heap.size from fun k hk => ⟨by have := HN1.out k hk; omega, HLT5.out k hk⟩)
      clear hX9 hmt hmi hnames HPC HQC HSM HB6 HB8 HO6 HA8 HO8 HE9 HT HE HC0 HTD HNK HKR HN1 HLT5 HC1 HPR hwr
      generalize w5.heap.size = A1 at *
      generalize hN : l1.length = N at *
      have HLN := Lib.hid hN
      have hNf : N ≤ 65536 := HMI.out.2.1
      clear hN
      go_loopw [21] (fun i wr => ∃ (r : Nat) (lj : List FI), i = .int .i64 (r : Int) ∧ r ≤ 2 ∧ ImgO wr (.slice va1 N vc1) lj ∧ Alike lj l1 ∧ ibl (.slice va1 N vc1) lj = ibl (.slice va1 N vc1) l1 ∧ At wr A1 36 [.slice va1 N vc1] ∧ Ext Nil w wr ∧ A1 < wr.heap.size) (fun i _ => 2 - (intOf i).toNat)
      case atStart => exact ⟨0, l1, rfl, Nat.zero_le _, HO9.out, rfl, rfl, HA9.out, HX9.out, HA9.out.lt⟩
      case round =>
        obtain ⟨r, lj, rfl, hr, hO, hAl, hib, hA, hX, hAlt⟩ := hrel
        have hlj : lj.length = N := by have h1 := hAl.len; have h2 := HLN.out; omega
        by_cases hr2 : r < 2
        · have hr3 : (r : Int) < 2 := by omega
          have x17 := hA.cell 0 rfl
          have hbyt : ∀ x ∈ lj, x.b.length ≤ 1073741824 := fun x hx => by
            obtain ⟨i, hi, rfl⟩ := List.mem_iff_getElem.1 hx
            obtain ⟨y, hy, -, e2⟩ := hAl.get (List.getElem?_eq_getElem hi)
            rw [← e2]
            exact HMI.out.2.2.1 y (List.mem_of_getElem? hy)
          have hnml : ∀ x ∈ lj, x.nm.length ≤ maxLen := fun x hx => by
            obtain ⟨i, hi, rfl⟩ := List.mem_iff_getElem.1 hx
            obtain ⟨y, hy, e1, -⟩ := hAl.get (List.getElem?_eq_getElem hi)
            rw [← e1]
            exact HMI.out.2.2.2 y (List.mem_of_getElem? hy)
          have HCP := Lib.hid (copied_m wr (.slice va1 N vc1) lj hO.see hO.lt (by omega) hbyt)
          have hmj : mountE 1048576 lj = 0 := mountE_alike hAl HMT.out (by rw [HLN.out]; exact HNS.out)
          have HO := Lib.hid hO; have HAL := Lib.hid hAl; have HIBJ := Lib.hid hib; have HA := Lib.hid hA; have HX := Lib.hid hX; have HBY := Lib.hid hbyt; have HNL := Lib.hid hnml; have HMJ := Lib.hid hmj; have HLJ := Lib.hid hlj
          clear hO hAl hib hA hX hbyt hnml hmj hlj
          go_wp2_with (first
            | (go_at_call 32; refine (HCP.out).mono ?_; rintro e w2 ⟨v2, rfl, l2, hp2, O2, n2, e2⟩; obtain ⟨va2, vc2, rfl, -, -⟩ := O2.see.shape; have e3 : Ext Nil w2 (w2.alloc (.cells #[.slice va2 l2.length vc2] 36 (0, 0))) := (Ext.refl _ _).alloc _; have HV3 := Lib.hid (O2.see.ext0 e3); have HA23 := Lib.hid (At.new w2 [.slice va2 l2.length vc2] 36); have HO3 := Lib.hid ((HO.out.ext e2 fun _ _ h => h).ext e3 fun _ _ h => h); have HA13 := Lib.hid ((HA.out.ext e2 fun h => h).ext e3 fun h => h); have HX3 := Lib.hid ((HX.out.same e2).same e3); have HP2 := Lib.hid hp2; have HN2 := Lib.hid n2; have HL2 := Lib.hid O2.lt; have HS2 := Lib.hid e2.size; clear x17; have x17 := HA13.out.cell 0 rfl; clear hp2 O2 n2 e2 e3)
            | (go_at_call 33; refine (mounted_ok (l := lj) (HO3.out.reads HNL.out) rfl HMJ.out).mono ?_; rintro e w4 ⟨d2, rfl, hL4⟩; have e4 := hL4.world; have HV4 := Lib.hid (HV3.out.ext0 e4); have HA24 := Lib.hid (HA23.out.ext e4 fun h => h); have HO4 := Lib.hid (HO3.out.ext e4 fun _ _ h => h); have HA14 := Lib.hid (HA13.out.ext e4 fun h => h); have HX4 := Lib.hid (HX3.out.same e4); have HL4 := Lib.hid hL4; clear hL4 e4 x17)
            | (go_at_call 18; refine (num_any _ _).mono ?_; rintro e w' ⟨rfl, rfl⟩))
          obtain ⟨F, hD4, hF4, -⟩ := HL4.out
          have hs3 : (w2.alloc (.cells #[.slice va2 l2.length vc2] 36 (0, 0))).heap.size = w2.heap.size + 1 := by simp
          rw [hs3] at hF4
          have hl2 : l2.length = N := by have := congrArg List.length HP2.out; simp only [List.length_map] at this; have := HLJ.out; omega
          have HF4 := Lib.hid hF4; have HD4 := Lib.hid hD4; have HLL2 := Lib.hid hl2
          have HIW := Lib.hid (show ∀ k ∈ ibl (.slice va1 N vc1) l1, k < wr.heap.size from fun k hk => HO.out.lt k (by rw [HIBJ.out]; exact hk))
          have HIN2 := Lib.hid (show ∀ k ∈ ibl (.slice va2 l2.length vc2) l2, wr.heap.size ≤ k from HN2.out)
          have HSW := Lib.hid (show wr.heap.size ≤ w2.heap.size from HS2.out)
          have HAW := Lib.hid hAlt
          clear hF4 hD4 hs3 HL4 HO HO3 HV3 HA23 HA13 HX3 HCP HL2 HN2 HS2 hAlt HA HX
          rw [hl2] at HV4 HA24 HIN2
          rw [hl2]
          clear hl2
          generalize wr.heap.size = S0 at *
          generalize w2.heap.size = A2 at *
          go_loopw [25] (fun i wr => ∃ (j : Nat) (lk : List FI), i = .int .i64 (j : Int) ∧ j ≤ N ∧ ImgO wr (.slice va1 N vc1) lk ∧ Alike lk l1 ∧ ibl (.slice va1 N vc1) lk = ibl (.slice va1 N vc1) l1 ∧ At wr A1 36 [.slice va1 N vc1] ∧ At wr A2 36 [.slice va2 N vc2] ∧ ImgV wr (.slice va2 N vc2) l2 ∧ Disk wr d2 (mntD (1048576 : Int).toNat lj) F ∧ Ext Nil w wr) (fun i _ => N - (intOf i).toNat)
          case atStart => exact ⟨0, lj, rfl, Nat.zero_le _, HO4.out, HAL.out, HIBJ.out, HA14.out, HA24.out, HV4.out, HD4.out, HX4.out⟩
          case round =>
            obtain ⟨j, lk, rfl, hj, hO, hAk, hib, hA1, hA2, hV2, hD, hX⟩ := hrel
            have hlk : lk.length = N := by have h1 := hAk.len; have h2 := HLN.out; omega
            have y1 := hA1.cell 0 rfl
            by_cases hjN : j < N
            · have hj3 : (j : Int) < (N : Int) := by omega
              obtain ⟨x, hx⟩ : ∃ x, lk[j]? = some x := ⟨_, List.getElem?_eq_getElem (by omega)⟩
              obtain ⟨y, hy⟩ : ∃ y, l2[j]? = some y := ⟨_, List.getElem?_eq_getElem (by have := HLL2.out; omega)⟩
              obtain ⟨z, hz⟩ : ∃ z, lj[j]? = some z := ⟨_, List.getElem?_eq_getElem (by have := HLJ.out; omega)⟩
              obtain ⟨x0, hx0, e1, e2⟩ := hAk.get hx
              obtain ⟨z0, hz0, e3, e4⟩ := HAL.out.get hz
              rw [hx0] at hz0
              obtain rfl := Option.some.inj hz0
              have hxz : x.nm = z.nm := by rw [← e1, e3]
              have hzy : y.b = z.b := by
                obtain ⟨y', hy', -, e6⟩ := pair_get HP2.out.symm hz
                rw [hy] at hy'
                rw [Option.some.inj hy', e6]
              obtain ⟨bi, oi, bx, cx, rfl, hxv, i0, i1, hbi, hxB⟩ := hO.see.at hx
              obtain ⟨b2, o2, by_, cy, rfl, -, n0, n1, hb2, hyB⟩ := hV2.at hy
              rw [hzy] at n1 hyB
              rw [hxz] at i0
              have hzl := HBY.out z (List.mem_of_getElem? hz)
              have hzn := HNL.out z (List.mem_of_getElem? hz)
              have hxl : x.b.length = z.b.length := by rw [← e2, e4]
              have HRD := Lib.hid (fun W' (h : Disk W' d2 (mntD (1048576 : Int).toNat lj) F) => mnt_read_m W' d2 F h hz hzn)
              have hOx := hO.bytes x (List.mem_of_getElem? hx)
              rw [hxv] at hOx
              have hfx : ∀ k, inFoot (.slice bx x.b.length cx) k → k ∈ ibl (.slice (some ⟨bi, oi, none⟩) N vc1) l1 := fun k hk => by
                rw [← hib]; unfold ibl; exact List.mem_append_right _ (List.mem_flatMap.2 ⟨x, List.mem_of_getElem? hx, mem_footL.2 (by rw [hxv]; exact hk)⟩)
              have hbb : (z.b == z.b) = true := by simp
              have HO := Lib.hid hO; have HAK := Lib.hid hAk; have HIBK := Lib.hid hib; have HA1 := Lib.hid hA1; have HA2 := Lib.hid hA2; have HV2 := Lib.hid hV2; have HD := Lib.hid hD; have HX := Lib.hid hX; have HXX := Lib.hid hx; have HYB := Lib.hid hyB; have HOX := Lib.hid hOx; have HFX := Lib.hid hfx; have HXL := Lib.hid hxl; have HZL := Lib.hid hzl; have HXV := Lib.hid hxv; have HI1 := Lib.hid i1; have HI0 := Lib.hid i0; have HN1 := Lib.hid n1; have HYY := Lib.hid hy; have HZY := Lib.hid hzy; have HXZ := Lib.hid hxz
              clear hO hAk hib hA1 hA2 hV2 hD hX hx hyB hOx hfx hxl hzl hzn hxv hy hz hx0 e1 e2 e3 e4 hxz hzy hxB hlk i1 n0 n1
              go_wp2_with (go_at_call 29; refine (HRD.out _ HD.out).mono ?_; rintro e w6 ⟨ao6, cap6, rfl, O6, S6⟩; have e6 := S6.1; have HO6 := Lib.hid O6; have HE6 := Lib.hid e6; clear O6 S6 e6 y1 i0)
              have hA26 := HA2.out.ext HE6.out fun h => h
              have t2 := hA26.cell 0 rfl
              have n16 := HE6.out.cell HN1.out fun h => h
              have c1 := fun n => to_str (w6.drewN n) _ _ (HO6.out.bytes.drewN n)
              have c2 := fun n => to_str (w6.drewN n) _ _ ((HYB.out.ext HE6.out fun _ _ h => h).drewN n)
              have hq1 := fun (W : World) (n : Int) => ((num_any W n).mono fun e w' h => (⟨h.1, h.2.symm⟩ : e = _ ∧ w' = _))
              have HQ1 := Lib.hid hq1
              clear hA26 hq1
              go_quiet ((go_at_call 18; exact Calls.quiet_of_same (HQ1.out _ _)))
              clear c1 c2 t2 n16
              have hE7 : Ext Nil wr (w6.drewN nq) := HE6.out.drewN nq
              have HE7 := Lib.hid hE7
              have t1 := (HA1.out.ext hE7 fun h => h).cell 0 rfl
              have i17 := hE7.cell HI1.out fun h => h
              clear hE7
              generalize w6.drewN nq = w7 at *
              have HSP := Lib.hid (spoil_any w7 (.slice bx x.b.length cx) x.b (HOX.out.ext HE7.out fun _ _ h => h) (by have := HXL.out; have := HZL.out; unfold Fits; omega))
              have HFK := Lib.hid (show ∀ k, inFoot (.slice bx x.b.length cx) k → w.heap.size ≤ k ∧ k < A1 ∧ k < S0 ∧ k < A2 from fun k hk => by have h1 := HIB.out k (HFX.out k hk); have h2 := HIW.out k (HFX.out k hk); have h3 := HSW.out; exact ⟨h1.1, h1.2, h2, Nat.lt_of_lt_of_le h2 h3⟩)
              go_wp2_with (first
                | (go_at_call 54; refine (HSP.out).mono ?_; rintro e w8 ⟨rfl, ⟨B, hB, hOB⟩, e8⟩; have hO8 := (HO.out.ext HE7.out fun _ _ h => h).spoil HXX.out (show Ext (inFoot x.v) w7 w8 from by rw [HXV.out]; exact e8) (B := B) (by rw [HXV.out]; exact hOB); have HO8 := Lib.hid hO8; have HD8 := Lib.hid ((HD.out.ext HE7.out fun _ _ h => h).ext e8 fun k hk hf => by have := HF4.out k hk; have := (HFK.out k hf).2.2.2; omega); have HA18 := Lib.hid ((HA1.out.ext HE7.out fun h => h).ext e8 fun hf => Nat.lt_irrefl _ (HFK.out _ hf).2.1); have HA28 := Lib.hid ((HA2.out.ext HE7.out fun h => h).ext e8 fun hf => Nat.lt_irrefl _ (HFK.out _ hf).2.2.2); have HV28 := Lib.hid ((HV2.out.ext0 HE7.out).ext e8 fun k hk hf => by have := HIN2.out k hk; have := (HFK.out k hf).2.2.1; omega); have HX8 := Lib.hid ((HX.out.same HE7.out).trans e8 fun i hi hf => by have := (HFK.out i hf).1; omega); have HAL8 := Lib.hid (show Alike (lk.set j ⟨x.nm, B, x.v⟩) l1 from (Alike.set (y := ⟨x.nm, B, x.v⟩) HXX.out rfl hB).trans HAK.out); obtain ⟨bi', oi', bx', cx', hao, hxv', i0, i1', -, -⟩ := hO8.see.at (k := j) (x := ⟨x.nm, B, x.v⟩) (by rw [List.getElem?_set_self (List.getElem?_eq_some_iff.1 HXX.out).1]); simp only [Option.some.injEq, Addr.mk.injEq, and_true] at hao; obtain ⟨rfl, rfl⟩ := hao; replace i0 : w8.cell? ⟨bi, oi + j * 2, none⟩ = some (.string ⟨z.nm.toArray⟩) := (by rw [← HXZ.out]; exact i0); clear t1 i17; have t1 := HA18.out.cell 0 rfl; clear hB hOB e8 hO8 i1' hxv')
                | (go_at_call 29; refine (HRD.out _ HD8.out).mono ?_; rintro e w9 ⟨ao9, cap9, rfl, O9, S9⟩; have HO9 := Lib.hid O9; have HE9 := Lib.hid S9.1; clear O9 S9 t1 i0))
              obtain ⟨b2', o2', by', cy', hao2, -, -, n1, -, hyB⟩ := HV28.out.at HYY.out
              simp only [Option.some.injEq, Addr.mk.injEq, and_true] at hao2
              obtain ⟨rfl, rfl⟩ := hao2
              rw [HZY.out] at n1 hyB
              have hA29 := HA28.out.ext HE9.out fun h => h
              have t2 := hA29.cell 0 rfl
              have n19 := HE9.out.cell n1 fun h => h
              have c1 := fun n => to_str (w9.drewN n) _ _ (HO9.out.bytes.drewN n)
              have c2 := fun n => to_str (w9.drewN n) _ _ ((hyB.ext HE9.out fun _ _ h => h).drewN n)
              clear hA29 hyB n1
              go_quiet ((go_at_call 18; exact Calls.quiet_of_same (HQ1.out _ _)))
              clear c1 c2 t2 n19
              have hE10 : Ext Nil w8 (w9.drewN nq) := HE9.out.drewN nq
              have HE10 := Lib.hid hE10
              clear hE10
              generalize w9.drewN nq = w10 at *
              go_wp2_with fail
              exact ⟨⟨j + 1, lk.set j ⟨x.nm, B, x.v⟩, by first | rfl | go_num, by omega, HO8.out.ext HE10.out fun _ _ h => h, HAL8.out, by rw [ibl_set HXX.out]; exact HIBK.out, HA18.out.ext HE10.out fun h => h, HA28.out.ext HE10.out fun h => h, HV28.out.ext0 HE10.out, HD8.out.ext HE10.out fun _ _ h => h, HX8.out.same HE10.out⟩, by simp [intOf]; omega⟩
            · have hnot2 : ¬ (j : Int) < (N : Int) := by omega
              have HFIN := Lib.hid (And.intro hO (And.intro hAk (And.intro hib (And.intro hA1 (And.intro hX hA1.lt)))))
              clear hO hAk hib hA1 hA2 hV2 hD hX
              go_wp2_with fail
              exact ⟨⟨r + 1, lk, by first | rfl | go_num, by omega, HFIN.out.1, HFIN.out.2.1, HFIN.out.2.2.1, HFIN.out.2.2.2.1, HFIN.out.2.2.2.2.1, HFIN.out.2.2.2.2.2⟩, by simp [intOf]; omega⟩
        · have hnot3 : ¬ (r : Int) < 2 := by omega
          have HX := Lib.hid hX
          clear hO hAl hib hA hX
          go_wp2_with fail
          go_ret
          exact ⟨rfl, HX.out⟩
end Go.Proofs.Ytnppneilbkmnfaa
