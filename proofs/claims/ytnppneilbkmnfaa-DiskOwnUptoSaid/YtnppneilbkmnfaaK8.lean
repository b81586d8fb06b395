/- The document's disk: the contract of Crash. Condition: the disk stands, and what its numbers lie in is none of its blocks. | The document's Mount, where it is refused for a name, for its limit or for too many files. Condition: the image can be read. | The document's Mount, where names and limit are as they may be; Mount whole. Condition: the image can be read. | Auxiliary: an image that can be read as data, opened, with a bound on each file's bytes. No condition. -/
import Derived.Test.YtnppneilbkmnfaaK7
import Derived.Test.YtnppneilbkmnfaaK3
namespace Go.Proofs.Ytnppneilbkmnfaa
open Go.RowKit

theorem drew_at {w : World} {p : Addr} {v : Value} (h : w.cell? p = some v) (n : Nat) : (w.drewN n).cell? p = some v := ((Ext.refl Nil w).drewN n).cell h fun h => h
set_option maxRecDepth 20000 in
set_option maxHeartbeats 2000000 in
theorem qcrash_in_m (w : World) (q : Nat) (D : Dk) (G : Nat → Prop) (hQ : QDisk w q D G) (kv : Value) (keep : List Int) (hk : Reads w 1 kv keep.length (keep.map (.int .i64 ·))) (hkG : ∀ k, inFoot kv k → ¬ G k) (junk : UInt8) (ho : D.out = false) :
    Calls Try.prog 44 #[.pointer (some ⟨q, 0, none⟩), kv, .int .u8 junk.toNat] w fun e w' => ∃ v l, e = .returned (.tuple #[.agg #[v], .int .i64 0]) ∧ l.map FI.pair = D.image keep junk ∧ ImgO w' v l ∧ (∀ k ∈ ibl v l, w.heap.size ≤ k) ∧ QDisk w' q D.shut G ∧ Ext (One q) w w' := by
  obtain ⟨fv, av, fl, h, rfl⟩ := hQ
  obtain ⟨fa, fc, rfl, hf1, hf2⟩ := h.files.shape
  obtain ⟨ka, kcap, rfl, hkc, hkm, -⟩ := hk.ints
  obtain ⟨W0, hW0⟩ : ∃ W0, W0 = w.alloc (.cells #[.slice none 0 0] 36 (0, 0)) := ⟨_, rfl⟩
  have e0 : Ext Nil w W0 := by rw [hW0]; exact (Ext.refl _ _).alloc _
  have h0 := h.ext0 e0
  have hr0 : At W0 w.heap.size 36 [.slice none 0 0] := by rw [hW0]; exact At.new w [.slice none 0 0] 36
  obtain ⟨h1, e1⟩ := h0.shut
  obtain ⟨W1, hW1⟩ : ∃ W1, W1 = (W0.setCell ⟨q, 4, none⟩ (.bool true)).setCell ⟨q, 5, none⟩ (.bool true) := ⟨_, rfl⟩
  rw [← hW1] at h1 e1
  have hql := h.cells.lt
  have s0 : W0.heap.size = w.heap.size + 1 := by rw [hW0]; simp
  have s1 : W1.heap.size = w.heap.size + 1 := by rw [hW1]; simpa [World.setCell] using s0
  have hr1 := hr0.ext e1 (by show ¬ w.heap.size = q; omega)
  have hk1 := (hk.ext e0 fun _ _ h => h).ext e1 fun k hkk e => hkG k hkk (by have e : k = q := e; rw [e]; exact .inl rfl)
  have e2 : Ext Nil W1 (W1.alloc (.cells #[.slice none 0 0] 36 (0, 0))) := (Ext.refl _ _).alloc _
  have h2 := h1.ext0 e2
  have hr2 := hr1.ext e2 fun h => h
  have hi2 : At (W1.alloc (.cells #[.slice none 0 0] 36 (0, 0))) W1.heap.size 36 [.slice none 0 0] := At.new W1 [.slice none 0 0] 36
  rw [s1] at hi2
  have hk2 := hk1.ext e2 fun _ _ h => h
  have eN : Ext (One q) w (W1.alloc (.cells #[.slice none 0 0] 36 (0, 0))) := ((e0.mono fun _ _ h => h.elim).same e1).trans e2 fun _ _ h => h.elim
  have sN : (W1.alloc (.cells #[.slice none 0 0] 36 (0, 0))).heap.size = w.heap.size + 2 := by simp [s1]
  have c5 := h0.cells.cell 5 rfl
  have c4 := h0.cells.cell 4 rfl
  rw [ho] at c5
  have z4 := h0.cells.frozen 4
  have z5 := h0.cells.frozen 5
  obtain ⟨WN, hWN⟩ : ∃ WN, WN = W1.alloc (.cells #[.slice none 0 0] 36 (0, 0)) := ⟨_, rfl⟩
  rw [← hWN] at h2 hr2 hi2 hk2 eN sN
  have HQ := Lib.hid h2; have HRN := Lib.hid hr2; have HIN := Lib.hid hi2; have HKN := Lib.hid hk2; have HKW := Lib.hid hk; have HEN := Lib.hid eN; have HWN := Lib.hid sN; have HLT := Lib.hid h.lt; have HSAME := Lib.hid h.same; have HWF := Lib.hid h.wf
  have HW := Lib.hid hWN; have HQLT := Lib.hid hql
  have hfew := h.wf.count
  rw [← h.len] at hfew
  clear e0 e2 h2 hr2 hi2 hk2 eN sN hr0 hr1 hk1 h1 hk hkG s0 s1 e1 hWN h hql
  subst hW1 hW0
  go_enter Try.func44, Try.ntmps44
  go_wp2_with (go_at_call 74; refine (good_m _ q _ av fl D h0).mono ?_; rintro e w' ⟨rfl, rfl⟩)
  have hW := HW.out
  rw [← hW]
  clear hW HW h0 c4 c5 z4 z5
  unfold maxLen at hf2 hkm
  go_loopw [9] (fun i wr => ∃ (l : List FI) (v : Value), i = .int .i64 l.length ∧ l.length ≤ fl.length ∧ CrR (w.heap.size + 1) WN (D.image keep junk) l v wr) (fun i _ => fl.length - (intOf i).toNat)
  case atStart => exact ⟨[], .slice none 0 0, rfl, Nat.zero_le _, rfl, ImgO.nil _, by simp [ibl, footL, foot], HIN.out, Ext.refl _ _⟩
  case round =>
    obtain ⟨l, v, rfl, hle, hR⟩ := hrel
    have hE := hR.ext
    have hq := HQ.out.ext hE (fun i hi e => by have e : i = w.heap.size + 1 := e; have := HLT.out i hi; omega)
    have d2 := hq.cells.cell 2 rfl
    by_cases hlt : l.length < fl.length
    · obtain ⟨x, hx⟩ : ∃ x, fl[l.length]? = some x := ⟨_, List.getElem?_eq_getElem hlt⟩
      obtain ⟨g, c, hg, -⟩ := hq.files.open (fun x _ => rfl) (by omega) (show 0 < 3 by omega)
      simp only [Value.slice.injEq, true_and] at hg
      obtain ⟨rfl, rfl⟩ := hg
      obtain ⟨bx, cx, hxv, f0, f1, f2, hgl, hxB, hxc, hxm⟩ := hq.files.cellQ hx
      have hfx : D.fs[l.length]? = some x.f := hq.fs hx
      have hsy := HWF.out.synced _ (List.mem_of_getElem? hfx)
      have hbl := sumF_mem (List.mem_of_getElem? hfx)
      have hul := HWF.out.used
      have hl1 := HWF.out.lim1
      have hblen : x.f.b.length ≤ 1073741824 := by omega
      have hsub : IntKind.i64.wrap ((x.f.b.length : Int) - (x.f.sy : Int)) = (x.f.b.length : Int) - (x.f.sy : Int) := by rw [IntWalk.i64_in _ (by omega)]
      have hsub0 : (0 : Int) ≤ (x.f.b.length : Int) - (x.f.sy : Int) := by omega
      have hwsz := hE.size
      rw [HWN.out] at hwsz
      obtain ⟨k, hkk⟩ : ∃ k, k = Dk.kept keep l.length x.f := ⟨_, rfl⟩
      have hkle : k ≤ x.f.b.length - x.f.sy := by
        rw [hkk]; unfold Dk.kept
        cases keep[l.length]? with
        | none => exact Nat.zero_le _
        | some n => exact Nat.min_le_right ..
      obtain ⟨m, hm⟩ : ∃ m, m = x.f.sy + k := ⟨_, rfl⟩
      have hmw : IntKind.i64.wrap ((x.f.sy : Int) + (k : Int)) = (m : Int) := by rw [IntWalk.i64_in _ (by omega)]; omega
      have hml : m ≤ x.f.b.length := by omega
      have hmc : m ≤ cx := by omega
      have htl : (x.f.b.take m).length = m := by rw [List.length_take]; omega
      have eX : Ext Nil wr (wr.alloc (.cells #[.string ⟨x.f.nm.toArray⟩, .slice bx x.f.b.length cx, .int .i64 x.f.sy] 132 (0, 0))) := (Ext.refl _ _).alloc _
      have pX := At.new wr [.string ⟨x.f.nm.toArray⟩, .slice bx x.f.b.length cx, .int .i64 x.f.sy] 132
      have hBX := (hxB.ext eX fun _ _ h => h).take m hml
      have p0 := pX.cell 0 rfl
      have p1 := pX.cell 1 rfl
      have p2 := pX.cell 2 rfl
      have HBX := Lib.hid hBX; have HTL := Lib.hid htl; have HEX := Lib.hid eX; have HPX := Lib.hid pX; have HFX := Lib.hid hfx; have HR := Lib.hid hR; have HE := Lib.hid hE; have HKK := Lib.hid hkk; have HM := Lib.hid hm; have HQR := Lib.hid hq
      clear hBX htl eX pX hfx hR hE hkk hm hq hxv hxB hul hl1 hbl hx hsub
      by_cases hpos : ∃ h : l.length < keep.length, 0 < keep[l.length]
      · obtain ⟨hik, hpos⟩ := hpos
        have hne : keep ≠ [] := by intro e; rw [e] at hik; simp at hik
        obtain ⟨kb, ko, rfl, hkat⟩ := HKN.out.intsAt hne
        obtain ⟨kb', ko', hke, hkw⟩ := HKW.out.intsAt hne
        simp only [Option.some.injEq, Addr.mk.injEq, and_true] at hke
        obtain ⟨rfl, rfl⟩ := hke
        have hkbl : kb < w.heap.size := (cell_spot (hkw l.length hik)).2
        have kc := HE.out.cell (hkat l.length hik) (by show ¬ kb = _; omega)
        have hkbr : kb < wr.heap.size := by omega
        have kX := HEX.out.cell kc fun h => h
        clear hkw hne hkbl hkat
        have hkv : min keep[l.length] ((x.f.b.length : Int) - (x.f.sy : Int)) = (k : Int) := by
          rw [HKK.out]; unfold Dk.kept
          rw [List.getElem?_eq_getElem hik]
          simp only []
          omega
        generalize keep[l.length] = kn at *
        go_wp2_with fail
        generalize wr.alloc (.cells #[.string ⟨x.f.nm.toArray⟩, .slice bx x.f.b.length cx, .int .i64 x.f.sy] 132 (0, 0)) = X at *
        go_quiet (fail)
        have HEW := Lib.hid (HEX.out.drewN nq); have HPW := Lib.hid (HPX.out.ext ((Ext.refl Nil X).drewN nq) fun h => h); have HBX := Lib.hid (HBX.out.ext ((Ext.refl Nil X).drewN nq) fun _ _ h => h)
        replace p0 := drew_at p0 nq
        replace p1 := drew_at p1 nq
        replace p2 := drew_at p2 nq
        clear kc kX hkv
        generalize X.drewN nq = Y at *
        have hwy := HPW.out.lt
        by_cases hk0 : k = 0
        · subst hk0
          have hmw0 : IntKind.i64.wrap (x.f.sy : Int) = (m : Int) := by have := HM.out; rw [IntWalk.i64_in _ (by omega)]; omega
          obtain ⟨ao2, cap2, w1, hrun, q1, q2, O2, S2⟩ := run_appendB (w := Y) (v := .slice none 0 0) (l := []) (Own.nil _ _ _) HBX.out (by rw [HTL.out]; unfold Fits; simp; omega) 31
          simp only [List.length_nil, Nat.zero_add, HTL.out, List.nil_append] at hrun O2 S2 q1
          have S2 : Step Nil (Y) (inFoot (.slice ao2 m cap2)) w1 := ⟨S2.1.mono (fun i _ h => by simp [inFoot, foot] at h), fun i hi => (S2.2 i hi).imp (fun h => by simp [inFoot, foot] at h) id⟩
          have HO2 := Lib.hid O2; have HS2 := Lib.hid S2
          clear O2 S2
          have e1 : Ext Nil wr w1 := HEW.out.same HS2.out.1
          have pb := HPW.out.ext HS2.out.1 fun h => h
          have p0 := pb.cell 0 rfl
          have p2 := pb.cell 2 rfl
          have hws1 := HS2.out.1.size
          have hnew : ∀ i, inFoot (.slice ao2 m cap2) i → wr.heap.size ≤ i ∧ i < w1.heap.size := fun i hi => ⟨Nat.le_trans HEW.out.size ((HS2.out.2 i hi).resolve_left fun h => h), HO2.out.lt i hi⟩
          have HE1 := Lib.hid e1; have HNW := Lib.hid hnew; have HPB := Lib.hid pb
          clear e1 hnew pb
          have hyp : (D.image keep junk)[l.length]? = some (FI.pair (⟨x.f.nm, x.f.b.take m, .slice ao2 m cap2⟩ : FI)) := by
            rw [image_at HFX.out, ← HKK.out]
            simp [FI.pair, Dk.left, HM.out]
          have OI := HR.out.own.row.ext HE1.out fun _ _ h => h
          have hX := (Ext.refl Nil w1).alloc (.cells #[.string ⟨x.f.nm.toArray⟩, .slice ao2 m cap2] 41 (0, 0))
          have hRo := Reads.oneFI w1 (⟨x.f.nm, x.f.b.take m, .slice ao2 m cap2⟩ : FI)
          obtain ⟨ao3, cap3, w3, hrun3, O3, S3⟩ := run_appendI (OI.ext hX fun _ _ h => h) hRo ⟨_, _, _, rfl⟩ (by omega) 34
          have hA := (HR.out.at_.ext HE1.out fun h => h)
          have a0 := hA.cell 0 rfl
          have hiv : ¬ inFoot v (w.heap.size + 1) := fun e => by have := HR.out.new (w.heap.size + 1) (by simp [ibl, mem_footL, e]); have := HWN.out; omega
          have hA3 := (hA.ext hX fun h => h).ext S3.1 hiv
          have z3 := hA3.frozen 0
          have a3 := hA3.cell 0 rfl
          have hN := HR.out.next (by have := HWN.out; omega) (HE1.out.same hX) ((HO2.out).ext hX fun _ _ h => h) (fun i hi => ⟨(HNW.out i hi).1, Nat.lt_of_lt_of_le (HNW.out i hi).2 hX.size⟩) O3 S3 hyp
          have HNX := Lib.hid hN
          clear hN hA hA3 hX OI hyp O3 S3 hRo
          go_wp2_with (first
            | (at_builtin; refine wpList_append_run rfl (.tmp 66) (.tmp 73) 31 31 rfl _ _ _ rfl rfl hrun ?_)
            | (at_builtin; refine wpList_append_run rfl (.tmp 95) (.tmp 100) 34 34 rfl _ _ _ rfl rfl hrun3 ?_))
          refine ⟨⟨l ++ [(⟨x.f.nm, x.f.b.take m, .slice ao2 m cap2⟩ : FI)], _, by simp, by simp; omega, HNX.out⟩, by simp [intOf]; omega⟩
        · obtain ⟨ao2, cap2, w1, hrun, q1, q2, O2, S2⟩ := run_appendB (w := Y) (v := .slice none 0 0) (l := []) (Own.nil _ _ _) HBX.out (by rw [HTL.out]; unfold Fits; simp; omega) 31
          simp only [List.length_nil, Nat.zero_add, HTL.out, List.nil_append] at hrun O2 S2 q1
          have S2 : Step Nil (Y) (inFoot (.slice ao2 m cap2)) w1 := ⟨S2.1.mono (fun i _ h => by simp [inFoot, foot] at h), fun i hi => (S2.2 i hi).imp (fun h => by simp [inFoot, foot] at h) id⟩
          have HO2 := Lib.hid O2; have HS2 := Lib.hid S2
          clear O2 S2
          have e1 : Ext Nil wr w1 := HEW.out.same HS2.out.1
          have pb := HPW.out.ext HS2.out.1 fun h => h
          have p0 := pb.cell 0 rfl
          have p2 := pb.cell 2 rfl
          have hws1 := HS2.out.1.size
          have hnew : ∀ i, inFoot (.slice ao2 m cap2) i → wr.heap.size ≤ i ∧ i < w1.heap.size := fun i hi => ⟨Nat.le_trans HEW.out.size ((HS2.out.2 i hi).resolve_left fun h => h), HO2.out.lt i hi⟩
          have HE1 := Lib.hid e1; have HNW := Lib.hid hnew; have HPB := Lib.hid pb
          clear e1 hnew pb
          have hk1 : (0 : Int) < (k : Int) := by omega
          have hmp : 1 ≤ m := by have := HM.out; omega
          obtain ⟨J, hJ⟩ : ∃ J, J = m - 1 := ⟨_, rfl⟩
          have hJw : IntKind.i64.wrap ((m : Int) - 1) = (J : Int) := by rw [IntWalk.i64_in _ (by omega)]; omega
          have hJm : J < m := by omega
          obtain ⟨g2, cg, cs2, rfl, rfl, -⟩ := HO2.out.head (by intro e; have := HTL.out; rw [e] at this; simp at this; omega)
          have hJl : J < (x.f.b.take m).length := by rw [HTL.out]; omega
          have hat := HO2.out.at J hJl
          have hgn := HNW.out g2 rfl
          obtain ⟨b0, hb0⟩ : ∃ b0, b0 = (x.f.b.take m)[J] := ⟨_, rfl⟩
          rw [← hb0] at hat
          obtain ⟨a1, a2⟩ := hat
          obtain ⟨c0, hc0⟩ : ∃ c0, c0 = b0 ^^^ junk := ⟨_, rfl⟩
          have hxor := xor_u8 b0 junk
          rw [← hc0] at hxor
          have O4 := HO2.out.store J hJl c0
          have e4 : Ext Nil wr (w1.setCell ⟨g2, J, none⟩ (.int .u8 (c0.toNat : Int))) := HE1.out.setCell (p := ⟨g2, J, none⟩) (fun h => by have h : g2 < wr.heap.size := h; omega) _
          have O4 : OwnB (w1.setCell ⟨g2, J, none⟩ (.int .u8 (c0.toNat : Int))) (.slice (some ⟨g2, 0, none⟩) m (cg + 1)) ((x.f.b.take m).set J c0) := O4
          have hs4 : (w1.setCell ⟨g2, J, none⟩ (.int .u8 (c0.toNat : Int))).heap.size = w1.heap.size := by simp [World.setCell]
          have hgp : ¬ wr.heap.size = g2 := fun e => by have := (HS2.out.2 g2 rfl).resolve_left fun h => h; have := HPW.out.lt; omega
          have pb4 := HPB.out.ext ((Ext.refl (One g2) w1).setCell (p := ⟨g2, J, none⟩) (fun _ => rfl) (.int .u8 (c0.toNat : Int))) (fun e => hgp e)
          have HPB4 := Lib.hid pb4; have HO4 := Lib.hid O4; have HE4 := Lib.hid e4; have HS4 := Lib.hid hs4; have HJ := Lib.hid hJ; have HB0 := Lib.hid hb0
          have HGN := Lib.hid hgn; have HC0 := Lib.hid hc0
          clear pb4 O4 e4 hs4 hJ hb0 hgn p0 hc0
          go_wp2_with (at_builtin; refine wpList_append_run rfl (.tmp 66) (.tmp 73) 31 31 rfl _ _ _ rfl rfl hrun ?_)
          clear hrun
          refine wp_region_held_drew (S := fun w' => w'.cell? ⟨wr.heap.size, 2, none⟩ = some (.int .i64 x.f.sy)) (by kernel_rfl) p2 (fun hHeld => ?_)
          refine wpAnyH_take (i := 0) (v := .slice (some ⟨g2, 0, none⟩) m (cg + 1)) rfl (by kernel_rfl) (by kernel_rfl) (by kernel_rfl) (fun _ _ _ h => h) (Or.inl ⟨by rfl, ?y1⟩) (by assumption) ?r1
          case y1 => (intro w hSw; go_simp)
          simp only [Act.put]
          refine wpAnyH_take (i := 1) (v := .pointer (some ⟨wr.heap.size, 2, none⟩)) rfl (by kernel_rfl) (by kernel_rfl) (by kernel_rfl) (fun _ _ _ h => h) (Or.inl ⟨by rfl, ?y2⟩) (by assumption) ?r2
          case y2 => (intro w hSw; go_simp)
          simp only [Act.put]
          refine wpAnyH_take (i := 2) (v := .int .i64 x.f.sy) rfl (by kernel_rfl) (by kernel_rfl) (by kernel_rfl) (fun _ _ _ h => h) (Or.inl ⟨by rfl, ?y3⟩) (by assumption) ?r3
          case y3 => (intro w hSw; go_simp)
          simp only [Act.put]
          refine wpAnyH_take (i := 3) (v := .int .i64 (k : Int)) rfl (by kernel_rfl) (by kernel_rfl) (by kernel_rfl) (fun _ _ _ h => h) (Or.inl ⟨by rfl, ?y4⟩) (by assumption) ?r4
          case y4 => (intro w hSw; go_simp)
          simp only [Act.put]
          refine wpAnyH_take (i := 4) (v := .int .i64 (m : Int)) rfl (by kernel_rfl) (by kernel_rfl) (by kernel_rfl) (fun _ _ _ h => h) (Or.inl ⟨by rfl, ?y5⟩) (by assumption) ?r5
          case y5 => (intro w hSw; go_simp)
          simp only [Act.put]
          refine wpAnyH_take (i := 5) (v := .int .i64 (J : Int)) rfl (by kernel_rfl) (by kernel_rfl) (by kernel_rfl) (fun _ _ _ h => h) (Or.inl ⟨by rfl, ?y6⟩) (by assumption) ?r6
          case y6 => (intro w hSw; go_simp)
          simp only [Act.put]
          refine wpAnyH_take (i := 6) (v := .slice (some ⟨g2, 0, none⟩) m (cg + 1)) rfl (by kernel_rfl) (by kernel_rfl) (by kernel_rfl) (fun _ _ _ h => h) (Or.inl ⟨by rfl, ?y7⟩) (by assumption) ?r7
          case y7 => (intro w hSw; go_simp)
          simp only [Act.put]
          refine wpAnyH_take (i := 7) (v := .pointer (some ⟨wr.heap.size, 2, none⟩)) rfl (by kernel_rfl) (by kernel_rfl) (by kernel_rfl) (fun _ _ _ h => h) (Or.inl ⟨by rfl, ?y8⟩) (by assumption) ?r8
          case y8 => (intro w hSw; go_simp)
          simp only [Act.put]
          refine wpAnyH_take (i := 8) (v := .int .i64 x.f.sy) rfl (by kernel_rfl) (by kernel_rfl) (by kernel_rfl) (fun _ _ _ h => h) (Or.inl ⟨by rfl, ?y9⟩) (by assumption) ?r9
          case y9 => (intro w hSw; go_simp)
          simp only [Act.put]
          refine wpAnyH_take (i := 9) (v := .int .i64 (k : Int)) rfl (by kernel_rfl) (by kernel_rfl) (by kernel_rfl) (fun _ _ _ h => h) (Or.inl ⟨by rfl, ?y10⟩) (by assumption) ?r10
          case y10 => (intro w hSw; go_simp)
          simp only [Act.put]
          refine wpAnyH_take (i := 10) (v := .int .i64 (m : Int)) rfl (by kernel_rfl) (by kernel_rfl) (by kernel_rfl) (fun _ _ _ h => h) (Or.inl ⟨by rfl, ?y11⟩) (by assumption) ?r11
          case y11 => (intro w hSw; go_simp)
          simp only [Act.put]
          refine wpAnyH_take (i := 11) (v := .int .i64 (J : Int)) rfl (by kernel_rfl) (by kernel_rfl) (by kernel_rfl) (fun _ _ _ h => h) (Or.inl ⟨by rfl, ?y12⟩) (by assumption) ?r12
          case y12 => (intro w hSw; go_simp)
          simp only [Act.put]
          refine wpAnyH_take (i := 12) (v := .pointer (some ⟨g2, J, none⟩)) rfl (by kernel_rfl) (by kernel_rfl) (by kernel_rfl) (fun _ _ _ h => h) (Or.inl ⟨by rfl, ?y13⟩) (by assumption) ?r13
          case y13 => (intro w hSw; go_simp)
          simp only [Act.put]
          refine wpAnyH_take (i := 14) (v := .int .u8 junk.toNat) rfl (by kernel_rfl) (by kernel_rfl) (by kernel_rfl) (fun _ _ _ h => h) (Or.inl ⟨by rfl, ?y14⟩) (by assumption) ?r14
          case y14 => (intro w hSw; go_simp)
          simp only [Act.put]
          refine wpAnyH_ready (rs := [13]) (by kernel_rfl) (by simp) (AllReadyH.cons rfl (fun K hK => ?_) AllReadyH.nil)
          go_simp
          refine hK.out _ _ p2 (fun hHeld => ?_)
          clear hK K
          refine wpAnyH_take (i := 15) (v := .int .u8 (c0.toNat : Int)) rfl (by kernel_rfl) (by kernel_rfl) (by kernel_rfl) (fun _ _ _ h => h) (Or.inl ⟨by rfl, ?y15⟩) (by assumption) ?r15
          case y15 => (intro w hSw; go_simp)
          simp only [Act.put]
          refine wpAnyH_take (i := 16) (v := .pointer (some ⟨g2, J, none⟩)) rfl (by kernel_rfl) (by kernel_rfl) (by kernel_rfl) (fun _ _ _ h => h) (Or.inl ⟨by rfl, ?y16⟩) (by assumption) ?r16
          case y16 => (intro w hSw; go_simp)
          simp only [Act.put]
          refine wpAnyH_ready (rs := [17]) (by kernel_rfl) (by simp) (AllReadyH.cons rfl (fun K hK => ?_) AllReadyH.nil)
          go_simp
          refine hK.out _ _ (HPB4.out.cell 2 rfl) (fun hHeld => ?_)
          clear hK K
          refine wpAnyH_done (by kernel_rfl) ?_ _
          have p0 : (w1.setCell ⟨g2, J, none⟩ (.int .u8 (c0.toNat : Int))).drew.cell? ⟨wr.heap.size, 0, none⟩ = some (.string ⟨x.f.nm.toArray⟩) := HPB4.out.cell 0 rfl
          have hnew4 : ∀ i, inFoot (.slice (some ⟨g2, 0, none⟩) m (cg + 1)) i → wr.heap.size ≤ i ∧ i < (w1.setCell ⟨g2, J, none⟩ (.int .u8 (c0.toNat : Int))).drew.heap.size := fun i hi => by have e := HS4.out; have h := HNW.out i hi; exact ⟨h.1, by show i < (w1.setCell ⟨g2, J, none⟩ (.int .u8 (c0.toNat : Int))).heap.size; rw [e]; exact h.2⟩
          have e4 : Ext Nil wr (w1.setCell ⟨g2, J, none⟩ (.int .u8 (c0.toNat : Int))).drew := HE4.out.drew
          have O4 : OwnB (w1.setCell ⟨g2, J, none⟩ (.int .u8 (c0.toNat : Int))).drew (.slice (some ⟨g2, 0, none⟩) m (cg + 1)) ((x.f.b.take m).set J c0) := HO4.out
          have HN4 := Lib.hid hnew4; have HE5 := Lib.hid e4; have HO5 := Lib.hid O4
          clear hnew4 e4 O4 p2 a1 a2
          generalize (w1.setCell ⟨g2, J, none⟩ (.int .u8 (c0.toNat : Int))).drew = Z at *
          have hyp : (D.image keep junk)[l.length]? = some (FI.pair (⟨x.f.nm, (x.f.b.take m).set J c0, .slice (some ⟨g2, 0, none⟩) m (cg + 1)⟩ : FI)) := by
            rw [image_at HFX.out, ← HKK.out]
            have hme := HM.out
            have hJe := HJ.out
            subst hJe
            rw [take_set_last _ _ hmp hml, HC0.out, HB0.out]
            unfold Dk.left
            rw [if_neg hk0, ← hme, List.getElem_take, List.getD_eq_getElem?_getD, List.getElem?_eq_getElem (by omega)]
            rfl
          have OI := HR.out.own.row.ext HE5.out fun _ _ h => h
          have hX := (Ext.refl Nil Z).alloc (.cells #[.string ⟨x.f.nm.toArray⟩, .slice (some ⟨g2, 0, none⟩) m (cg + 1)] 41 (0, 0))
          have hRo := Reads.oneFI Z (⟨x.f.nm, (x.f.b.take m).set J c0, .slice (some ⟨g2, 0, none⟩) m (cg + 1)⟩ : FI)
          obtain ⟨ao3, cap3, w3, hrun3, O3, S3⟩ := run_appendI (OI.ext hX fun _ _ h => h) hRo ⟨_, _, _, rfl⟩ (by omega) 34
          have hA := (HR.out.at_.ext HE5.out fun h => h)
          have a0 := hA.cell 0 rfl
          have hiv : ¬ inFoot v (w.heap.size + 1) := fun e => by have := HR.out.new (w.heap.size + 1) (by simp [ibl, mem_footL, e]); have := HWN.out; omega
          have hA3 := (hA.ext hX fun h => h).ext S3.1 hiv
          have z3 := hA3.frozen 0
          have a3 := hA3.cell 0 rfl
          have hN := HR.out.next (by have := HWN.out; omega) (HE5.out.same hX) ((HO5.out).ext hX fun _ _ h => h) (fun i hi => ⟨(HN4.out i hi).1, Nat.lt_of_lt_of_le (HN4.out i hi).2 hX.size⟩) O3 S3 hyp
          have HNX := Lib.hid hN
          clear hN hA hA3 hX OI hyp O3 S3 hRo
          go_wp2_with (at_builtin; refine wpList_append_run rfl (.tmp 95) (.tmp 100) 34 34 rfl _ _ _ rfl rfl hrun3 ?_)
          refine ⟨⟨l ++ [(⟨x.f.nm, (x.f.b.take m).set J c0, .slice (some ⟨g2, 0, none⟩) m (cg + 1)⟩ : FI)], _, by simp, by simp; omega, HNX.out⟩, by simp [intOf]; omega⟩
      · have hk0 : k = 0 := by
          rw [HKK.out]; unfold Dk.kept
          by_cases hik : l.length < keep.length
          · rw [List.getElem?_eq_getElem hik]
            have : ¬ 0 < keep[l.length] := fun h => hpos ⟨hik, h⟩
            simp only []
            omega
          · rw [List.getElem?_eq_none (by omega)]
        subst hk0
        have hmw0 : IntKind.i64.wrap (x.f.sy : Int) = (m : Int) := by have := HM.out; rw [IntWalk.i64_in _ (by omega)]; omega
        have HEW := HEX; have HPW := HPX
        have hfb : wr.heap.size < (wr.alloc (.cells #[.string ⟨x.f.nm.toArray⟩, .slice bx x.f.b.length cx, .int .i64 x.f.sy] 132 (0, 0))).heap.size := by simp
        by_cases hik : l.length < keep.length
        · have hne : keep ≠ [] := by intro e; rw [e] at hik; simp at hik
          obtain ⟨kb, ko, rfl, hkat⟩ := HKN.out.intsAt hne
          obtain ⟨kb', ko', hke, hkw⟩ := HKW.out.intsAt hne
          simp only [Option.some.injEq, Addr.mk.injEq, and_true] at hke
          obtain ⟨rfl, rfl⟩ := hke
          have hkbl : kb < w.heap.size := (cell_spot (hkw l.length hik)).2
          have kc := HE.out.cell (hkat l.length hik) (by show ¬ kb = _; omega)
          have hkbr : kb < wr.heap.size := by omega
          have hkz : ¬ 0 < keep[l.length] := fun h => hpos ⟨hik, h⟩
          clear hkw hne hkbl hkat hpos hfb
          generalize keep[l.length] = kn at *
          obtain ⟨ao2, cap2, w1, hrun, q1, q2, O2, S2⟩ := run_appendB (w := (wr.alloc (.cells #[.string ⟨x.f.nm.toArray⟩, .slice bx x.f.b.length cx, .int .i64 x.f.sy] 132 (0, 0)))) (v := .slice none 0 0) (l := []) (Own.nil _ _ _) HBX.out (by rw [HTL.out]; unfold Fits; simp; omega) 31
          simp only [List.length_nil, Nat.zero_add, HTL.out, List.nil_append] at hrun O2 S2 q1
          have S2 : Step Nil ((wr.alloc (.cells #[.string ⟨x.f.nm.toArray⟩, .slice bx x.f.b.length cx, .int .i64 x.f.sy] 132 (0, 0)))) (inFoot (.slice ao2 m cap2)) w1 := ⟨S2.1.mono (fun i _ h => by simp [inFoot, foot] at h), fun i hi => (S2.2 i hi).imp (fun h => by simp [inFoot, foot] at h) id⟩
          have HO2 := Lib.hid O2; have HS2 := Lib.hid S2
          clear O2 S2
          have e1 : Ext Nil wr w1 := HEW.out.same HS2.out.1
          have pb := HPW.out.ext HS2.out.1 fun h => h
          have p0 := pb.cell 0 rfl
          have p2 := pb.cell 2 rfl
          have hws1 := HS2.out.1.size
          have hnew : ∀ i, inFoot (.slice ao2 m cap2) i → wr.heap.size ≤ i ∧ i < w1.heap.size := fun i hi => ⟨Nat.le_trans HEW.out.size ((HS2.out.2 i hi).resolve_left fun h => h), HO2.out.lt i hi⟩
          have HE1 := Lib.hid e1; have HNW := Lib.hid hnew; have HPB := Lib.hid pb
          clear e1 hnew pb
          have hyp : (D.image keep junk)[l.length]? = some (FI.pair (⟨x.f.nm, x.f.b.take m, .slice ao2 m cap2⟩ : FI)) := by
            rw [image_at HFX.out, ← HKK.out]
            simp [FI.pair, Dk.left, HM.out]
          have OI := HR.out.own.row.ext HE1.out fun _ _ h => h
          have hX := (Ext.refl Nil w1).alloc (.cells #[.string ⟨x.f.nm.toArray⟩, .slice ao2 m cap2] 41 (0, 0))
          have hRo := Reads.oneFI w1 (⟨x.f.nm, x.f.b.take m, .slice ao2 m cap2⟩ : FI)
          obtain ⟨ao3, cap3, w3, hrun3, O3, S3⟩ := run_appendI (OI.ext hX fun _ _ h => h) hRo ⟨_, _, _, rfl⟩ (by omega) 34
          have hA := (HR.out.at_.ext HE1.out fun h => h)
          have a0 := hA.cell 0 rfl
          have hiv : ¬ inFoot v (w.heap.size + 1) := fun e => by have := HR.out.new (w.heap.size + 1) (by simp [ibl, mem_footL, e]); have := HWN.out; omega
          have hA3 := (hA.ext hX fun h => h).ext S3.1 hiv
          have z3 := hA3.frozen 0
          have a3 := hA3.cell 0 rfl
          have hN := HR.out.next (by have := HWN.out; omega) (HE1.out.same hX) ((HO2.out).ext hX fun _ _ h => h) (fun i hi => ⟨(HNW.out i hi).1, Nat.lt_of_lt_of_le (HNW.out i hi).2 hX.size⟩) O3 S3 hyp
          have HNX := Lib.hid hN
          clear hN hA hA3 hX OI hyp O3 S3 hRo
          go_wp2_with (first
            | (at_builtin; refine wpList_append_run rfl (.tmp 66) (.tmp 73) 31 31 rfl _ _ _ rfl rfl hrun ?_)
            | (at_builtin; refine wpList_append_run rfl (.tmp 95) (.tmp 100) 34 34 rfl _ _ _ rfl rfl hrun3 ?_))
          refine ⟨⟨l ++ [(⟨x.f.nm, x.f.b.take m, .slice ao2 m cap2⟩ : FI)], _, by simp, by simp; omega, HNX.out⟩, by simp [intOf]; omega⟩
        · clear hfb hpos
          have hikn : ¬ (l.length : Int) < (keep.length : Int) := by omega
          obtain ⟨ao2, cap2, w1, hrun, q1, q2, O2, S2⟩ := run_appendB (w := (wr.alloc (.cells #[.string ⟨x.f.nm.toArray⟩, .slice bx x.f.b.length cx, .int .i64 x.f.sy] 132 (0, 0)))) (v := .slice none 0 0) (l := []) (Own.nil _ _ _) HBX.out (by rw [HTL.out]; unfold Fits; simp; omega) 31
          simp only [List.length_nil, Nat.zero_add, HTL.out, List.nil_append] at hrun O2 S2 q1
          have S2 : Step Nil ((wr.alloc (.cells #[.string ⟨x.f.nm.toArray⟩, .slice bx x.f.b.length cx, .int .i64 x.f.sy] 132 (0, 0)))) (inFoot (.slice ao2 m cap2)) w1 := ⟨S2.1.mono (fun i _ h => by simp [inFoot, foot] at h), fun i hi => (S2.2 i hi).imp (fun h => by simp [inFoot, foot] at h) id⟩
          have HO2 := Lib.hid O2; have HS2 := Lib.hid S2
          clear O2 S2
          have e1 : Ext Nil wr w1 := HEW.out.same HS2.out.1
          have pb := HPW.out.ext HS2.out.1 fun h => h
          have p0 := pb.cell 0 rfl
          have p2 := pb.cell 2 rfl
          have hws1 := HS2.out.1.size
          have hnew : ∀ i, inFoot (.slice ao2 m cap2) i → wr.heap.size ≤ i ∧ i < w1.heap.size := fun i hi => ⟨Nat.le_trans HEW.out.size ((HS2.out.2 i hi).resolve_left fun h => h), HO2.out.lt i hi⟩
          have HE1 := Lib.hid e1; have HNW := Lib.hid hnew; have HPB := Lib.hid pb
          clear e1 hnew pb
          have hyp : (D.image keep junk)[l.length]? = some (FI.pair (⟨x.f.nm, x.f.b.take m, .slice ao2 m cap2⟩ : FI)) := by
            rw [image_at HFX.out, ← HKK.out]
            simp [FI.pair, Dk.left, HM.out]
          have OI := HR.out.own.row.ext HE1.out fun _ _ h => h
          have hX := (Ext.refl Nil w1).alloc (.cells #[.string ⟨x.f.nm.toArray⟩, .slice ao2 m cap2] 41 (0, 0))
          have hRo := Reads.oneFI w1 (⟨x.f.nm, x.f.b.take m, .slice ao2 m cap2⟩ : FI)
          obtain ⟨ao3, cap3, w3, hrun3, O3, S3⟩ := run_appendI (OI.ext hX fun _ _ h => h) hRo ⟨_, _, _, rfl⟩ (by omega) 34
          have hA := (HR.out.at_.ext HE1.out fun h => h)
          have a0 := hA.cell 0 rfl
          have hiv : ¬ inFoot v (w.heap.size + 1) := fun e => by have := HR.out.new (w.heap.size + 1) (by simp [ibl, mem_footL, e]); have := HWN.out; omega
          have hA3 := (hA.ext hX fun h => h).ext S3.1 hiv
          have z3 := hA3.frozen 0
          have a3 := hA3.cell 0 rfl
          have hN := HR.out.next (by have := HWN.out; omega) (HE1.out.same hX) ((HO2.out).ext hX fun _ _ h => h) (fun i hi => ⟨(HNW.out i hi).1, Nat.lt_of_lt_of_le (HNW.out i hi).2 hX.size⟩) O3 S3 hyp
          have HNX := Lib.hid hN
          clear hN hA hA3 hX OI hyp O3 S3 hRo
          go_wp2_with (first
            | (at_builtin; refine wpList_append_run rfl (.tmp 66) (.tmp 73) 31 31 rfl _ _ _ rfl rfl hrun ?_)
            | (at_builtin; refine wpList_append_run rfl (.tmp 95) (.tmp 100) 34 34 rfl _ _ _ rfl rfl hrun3 ?_))
          refine ⟨⟨l ++ [(⟨x.f.nm, x.f.b.take m, .slice ao2 m cap2⟩ : FI)], _, by simp, by simp; omega, HNX.out⟩, by simp [intOf]; omega⟩
    · have hle2 : l.length = fl.length := by omega
      obtain ⟨va, vc, rfl, -, -⟩ := Own.shape hR.own.row
      have him := hR.at_
      have a0 := him.cell 0 rfl
      have hRN := HRN.out.ext hE (by show ¬ w.heap.size = _; omega)
      have r0 := hRN.cell 0 rfl
      have r1 := hRN.frozen 0
      have hres := hRN.set 0 (.slice va l.length vc)
      have hnot : ¬ (l.length : Int) < (fl.length : Int) := by omega
      have HL2 := Lib.hid hle2; have HRES := Lib.hid hres; have HR := Lib.hid hR; have HQR := Lib.hid hq; have HE := Lib.hid hE
      clear hle2 hres hR hq hE him hRN
      go_wp2_with fail
      refine bodyPost_ret (results_image rfl _ (b := w.heap.size) (v := .slice va l.length vc) rfl (HRES.out.cell 0 rfl) (agg_image _) (size_image _)) rfl ?_
      have eF : Ext (One w.heap.size) wr (wr.setCell ⟨w.heap.size, 0, none⟩ (.slice va l.length vc)) := (Ext.refl (One w.heap.size) wr).setCell (p := ⟨w.heap.size, 0, none⟩) (fun _ => rfl) (.slice va l.length vc)
      refine ⟨_, rfl, l, ?_, HR.out.own.ext eF ?_, fun i hi => ?_, ⟨_, av, fl, HQR.out.ext eF ?_, rfl⟩, ?_⟩
      · have hle2 := HL2.out
        have hfl : fl.length = D.fs.length := by rw [← HSAME.out, List.length_map]
        rw [HR.out.pairs, List.take_of_length_le (by rw [image_len]; omega)]
      · intro i hi e
        have e : i = w.heap.size := e
        have := HR.out.new i hi
        have := HWN.out
        omega
      · have := HR.out.new i hi
        have := HWN.out
        omega
      · intro i hi e
        have e : i = w.heap.size := e
        have := HLT.out i hi
        omega
      · exact (HEN.out.trans HE.out fun i hi e => by have e : i = w.heap.size + 1 := e; omega).trans eF fun i hi e => by have e : i = w.heap.size := e; omega
end Go.Proofs.Ytnppneilbkmnfaa
namespace Go.Proofs.Ytnppneilbkmnfaa
open Go.RowKit

theorem rname_b (w : World) (s : ByteArray) (hs : s.size ≤ maxLen) (b : Bool) (h : nmOk s.data.toList = b) : Calls Try.prog 97 #[.string s] w fun e w' => e = .returned (.bool b) ∧ w' = w := by
  subst h
  exact (rname_any w s hs).mono fun e w' h => ⟨h.1, h.2.symm⟩
theorem drew_cell {w : World} {n : Nat} {p : Addr} {v : Value} (h : w.cell? p = some v) : (w.drewN n).cell? p = some v := ((Ext.refl Nil w).drewN n).cell h fun h => h

set_option maxRecDepth 20000 in
set_option maxHeartbeats 2000000 in
theorem qmount_names_m (w : World) (v : Value) (l : List FI) (h : ImgR w v l) (lim : Int) (hbad : ¬ ∀ i < l.length, nameOk l i) :
    Calls Try.prog 72 #[.agg #[v], .int .i64 lim] w fun e w' => e = .returned (.tuple #[.pointer none, .int .i64 60]) ∧ Ext Nil w w' := by
  have hpos : 0 < l.length := by
    refine Nat.pos_of_ne_zero fun e => hbad fun i hi => by omega
  obtain ⟨b, off, cap, rfl, hc1, hc2, hcell⟩ := h.open hpos
  have hnames := h.names
  have eW : Ext Nil w (w.alloc (.cells #[.slice (some ⟨b, off, none⟩) l.length cap] 36 (0, 0))) := (Ext.refl _ _).alloc _
  have bW := (At.new w [.slice (some ⟨b, off, none⟩) l.length cap] 36).cell 0 rfl
  have HC := Lib.hid hcell; have HN := Lib.hid hnames; have HB := Lib.hid hbad; have HEW := Lib.hid eW; have HBW := Lib.hid bW
  clear hcell hnames hbad h eW bW
  go_enter Try.func72, Try.ntmps72
  go_wp2_with fail
  go_loopw [6] (fun i wr => ∃ (j : Nat), i = .int .i64 (j : Int) ∧ j ≤ l.length ∧ (∀ k < j, nameOk l k) ∧ Ext Nil w wr ∧ wr.cell? ⟨w.heap.size, 0, none⟩ = some (.slice (some ⟨b, off, none⟩) l.length cap)) (fun i _ => l.length - (intOf i).toNat)
  case atStart => exact ⟨0, rfl, Nat.zero_le _, (fun k hk => absurd hk (Nat.not_lt_zero _)), HEW.out, HBW.out⟩
  case round =>
    obtain ⟨j, rfl, hj, hok, hE, hbw⟩ := hrel
    have hjl : j < l.length := by
      refine Nat.lt_of_le_of_ne hj fun e => HB.out fun i hi => hok i (by omega)
    obtain ⟨x, hx⟩ : ∃ x, l[j]? = some x := ⟨l[j], List.getElem?_eq_getElem hjl⟩
    have c0 := hE.cell (HC.out j x hx).1 fun h => h
    have hxs := HN.out x (List.mem_of_getElem? hx)
    have hbl := (cell_spot c0).2
    have hwl := (cell_spot hbw).2
    have HE := Lib.hid hE; have HOK := Lib.hid hok; have HX := Lib.hid hx
    clear hok hx hE
    have hjw := succ_wrap (Nat.lt_of_lt_of_le hjl (Nat.le_trans hc1 hc2))
    have hdn := down hjl
    have HDN := Lib.hid hdn; have HJW := Lib.hid hjw
    clear hdn
    cases hn : nmOk x.nm
    · have hN := fun (W : World) => rname_b W ⟨x.nm.toArray⟩ (by rw [encS_size]; exact hxs) false (by rw [encS_toList]; exact hn)
      have HNN := Lib.hid hN
      clear hN
      go_wp2_with fail
      go_quiet ((go_at_call 97; exact Calls.quiet_of_same (HNN.out _)))
      go_wp2_with fail
      go_ret2
      exact ⟨rfl, HE.out.drewN _⟩
    · have hN := fun (W : World) => rname_b W ⟨x.nm.toArray⟩ (by rw [encS_size]; exact hxs) true (by rw [encS_toList]; exact hn)
      have HNN := Lib.hid hN; have HNM := Lib.hid hn
      clear hN hn
      by_cases h0 : j = 0
      · have h0' : ¬ (0 : Int) < (j : Int) := by omega
        have h0d : decide ((0 : Int) < (j : Int)) = false := decide_eq_false h0'
        have h0n : ¬ 0 < j := by omega
        have h0b : decide (0 < j) = false := decide_eq_false h0n
        have HJ0 := Lib.hid h0
        clear h0
        go_wp2_with fail
        go_quiet ((go_at_call 97; exact Calls.quiet_of_same (HNN.out _)))
        go_wp2_with fail
        refine ⟨⟨j + 1, by first | rfl | rw [HJW.out], hjl, fun k hk => ?_, HE.out.drewN _, drew_cell hbw⟩, by first | exact HDN.out | (rw [HJW.out]; exact HDN.out)⟩
        obtain rfl : k = j := by have := HJ0.out; omega
        exact ⟨x, HX.out, HNM.out, fun y h => absurd h (by have := HJ0.out; omega)⟩
      · obtain ⟨J, hJ⟩ : ∃ J, J = j - 1 := ⟨_, rfl⟩
        have hJw : IntKind.i64.wrap ((j : Int) - 1) = (J : Int) := by rw [hJ]; exact pred_wrap h0 (Nat.le_trans hj (Nat.le_trans hc1 hc2))
        have hJl : J < l.length := by omega
        have h0' : (0 : Int) < (j : Int) := by omega
        have h0d : decide ((0 : Int) < (j : Int)) = true := decide_eq_true h0'
        have h0n : 0 < j := by omega
        have h0b : decide (0 < j) = true := decide_eq_true h0n
        obtain ⟨y, hy⟩ : ∃ y, l[J]? = some y := ⟨l[J], List.getElem?_eq_getElem hJl⟩
        have cp := HE.out.cell (HC.out J y hy).1 fun h => h
        have hlq : (Op.bytesLess x.nm y.nm || x.nm == y.nm) = !bytesBefore y.nm x.nm := by rw [less_before]; exact before_leq _ _
        have HY := Lib.hid hy; have HJJ := Lib.hid hJ
        clear hy hJ h0
        cases hbf : bytesBefore y.nm x.nm
        · rw [hbf] at hlq
          clear hbf
          cases hl1 : Op.bytesLess x.nm y.nm
          · have hl2 : (x.nm == y.nm) = true := by simpa [hl1] using hlq
            clear hlq
            go_wp2_with fail
            go_quiet ((go_at_call 97; exact Calls.quiet_of_same (HNN.out _)))
            go_wp2_with fail
            go_ret2
            exact ⟨rfl, HE.out.drewN _⟩
          · clear hlq
            go_wp2_with fail
            go_quiet ((go_at_call 97; exact Calls.quiet_of_same (HNN.out _)))
            go_wp2_with fail
            go_ret2
            exact ⟨rfl, HE.out.drewN _⟩
        · rw [hbf] at hlq
          have HBF := Lib.hid hbf
          have hl1 : Op.bytesLess x.nm y.nm = false := by cases h : Op.bytesLess x.nm y.nm <;> simp_all
          have hl2 : (x.nm == y.nm) = false := by cases h : x.nm == y.nm <;> simp_all
          clear hbf hlq
          go_wp2_with fail
          go_quiet ((go_at_call 97; exact Calls.quiet_of_same (HNN.out _)))
          go_wp2_with fail
          refine ⟨⟨j + 1, by first | rfl | rw [HJW.out], hjl, fun k hk => ?_, HE.out.drewN _, drew_cell hbw⟩, by first | exact HDN.out | (rw [HJW.out]; exact HDN.out)⟩
          by_cases hkj : k < j
          · exact HOK.out k hkj
          · obtain rfl : k = j := by omega
            refine ⟨x, HX.out, HNM.out, fun z hz0 hz => ?_⟩
            have h1 := HY.out
            rw [HJJ.out] at h1
            rw [h1] at hz
            rw [← Option.some.inj hz]
            exact HBF.out
set_option maxRecDepth 20000 in
set_option maxHeartbeats 2000000 in
theorem qmount_lim_m (w : World) (v : Value) (l : List FI) (h : ImgR w v l) (lim : Int) (hgood : ∀ i < l.length, nameOk l i) (hlim : lim < 1 ∨ 1073741824 < lim) :
    Calls Try.prog 72 #[.agg #[v], .int .i64 lim] w fun e w' => e = .returned (.tuple #[.pointer none, .int .i64 2]) ∧ Ext Nil w w' := by
  obtain ⟨ao, cap, rfl, hc1, hc2⟩ : ∃ ao cap, v = .slice ao l.length cap ∧ l.length ≤ cap ∧ cap ≤ maxLen := by
    obtain ⟨-, ao, cap, rfl, h2, h3, -⟩ := h.row
    exact ⟨ao, cap, rfl, h2, h3⟩
  have eW : Ext Nil w (w.alloc (.cells #[.slice ao l.length cap] 36 (0, 0))) := (Ext.refl _ _).alloc _
  have bW := (At.new w [.slice ao l.length cap] 36).cell 0 rfl
  have HH := Lib.hid h; have HB := Lib.hid hgood; have HEW := Lib.hid eW; have HBW := Lib.hid bW
  have HL := Lib.hid hlim
  clear hlim
  clear hgood h eW bW
  go_enter Try.func72, Try.ntmps72
  go_wp2_with fail
  go_loopw [6] (fun i wr => ∃ (j : Nat), i = .int .i64 (j : Int) ∧ j ≤ l.length ∧ Ext Nil w wr ∧ wr.cell? ⟨w.heap.size, 0, none⟩ = some (.slice ao l.length cap)) (fun i _ => l.length - (intOf i).toNat)
  case atStart => exact ⟨0, rfl, Nat.zero_le _, HEW.out, HBW.out⟩
  case round =>
    obtain ⟨j, rfl, hj, hE, hbw⟩ := hrel
    by_cases hjl : j < l.length
    · obtain ⟨b, off, cap', hao, -, -, hcell⟩ := HH.out.open (by omega)
      simp only [Value.slice.injEq, true_and] at hao
      obtain ⟨rfl, rfl⟩ := hao
      obtain ⟨x, hx, hn, hprev⟩ := HB.out j hjl
      have c0 := hE.cell (hcell j x hx).1 fun h => h
      have hxs := HH.out.names x (List.mem_of_getElem? hx)
      have hbl := (cell_spot c0).2
      have hwl := (cell_spot hbw).2
      have HE := Lib.hid hE
      have hjw := succ_wrap (Nat.lt_of_lt_of_le hjl (Nat.le_trans hc1 hc2))
      have hdn := down hjl
      have HDN := Lib.hid hdn; have HJW := Lib.hid hjw
      have hN := fun (W : World) => rname_b W ⟨x.nm.toArray⟩ (by rw [encS_size]; exact hxs) true (by rw [encS_toList]; exact hn)
      have HNN := Lib.hid hN
      clear hN hn hx hE hdn
      by_cases h0 : j = 0
      · have h0' : ¬ (0 : Int) < (j : Int) := by omega
        have h0d : decide ((0 : Int) < (j : Int)) = false := decide_eq_false h0'
        have h0n : ¬ 0 < j := by omega
        have h0b : decide (0 < j) = false := decide_eq_false h0n
        clear h0 hcell hprev
        go_wp2_with fail
        go_quiet ((go_at_call 97; exact Calls.quiet_of_same (HNN.out _)))
        go_wp2_with fail
        exact ⟨⟨j + 1, by first | rfl | rw [HJW.out], hjl, HE.out.drewN _, drew_cell hbw⟩, by first | exact HDN.out | (rw [HJW.out]; exact HDN.out)⟩
      · obtain ⟨J, hJ⟩ : ∃ J, J = j - 1 := ⟨_, rfl⟩
        have hJw : IntKind.i64.wrap ((j : Int) - 1) = (J : Int) := by rw [hJ]; exact pred_wrap h0 (Nat.le_trans hj (Nat.le_trans hc1 hc2))
        have hJl : J < l.length := by omega
        have h0' : (0 : Int) < (j : Int) := by omega
        have h0d : decide ((0 : Int) < (j : Int)) = true := decide_eq_true h0'
        have h0n : 0 < j := by omega
        have h0b : decide (0 < j) = true := decide_eq_true h0n
        obtain ⟨y, hy⟩ : ∃ y, l[J]? = some y := ⟨l[J], List.getElem?_eq_getElem hJl⟩
        have cp := HE.out.cell (hcell J y hy).1 fun h => h
        have hbf := hprev y h0n (by rw [← hJ]; exact hy)
        have hlq : (Op.bytesLess x.nm y.nm || x.nm == y.nm) = !bytesBefore y.nm x.nm := by rw [less_before]; exact before_leq _ _
        rw [hbf] at hlq
        have hl1 : Op.bytesLess x.nm y.nm = false := by cases h : Op.bytesLess x.nm y.nm <;> simp_all
        have hl2 : (x.nm == y.nm) = false := by cases h : x.nm == y.nm <;> simp_all
        clear hy hJ h0 hbf hlq hcell hprev
        go_wp2_with fail
        go_quiet ((go_at_call 97; exact Calls.quiet_of_same (HNN.out _)))
        go_wp2_with fail
        exact ⟨⟨j + 1, by first | rfl | rw [HJW.out], hjl, HE.out.drewN _, drew_cell hbw⟩, by first | exact HDN.out | (rw [HJW.out]; exact HDN.out)⟩
    · have hnot : ¬ (j : Int) < (l.length : Int) := by omega
      have HE := Lib.hid hE
      clear hE
      go_wp2_with (go_at_call 49; refine (qnew_bad _ lim HL.out).mono ?_; rintro e w' ⟨rfl, rfl⟩)
      go_ret2
      exact ⟨rfl, HE.out⟩
set_option maxRecDepth 20000 in
set_option maxHeartbeats 2000000 in
theorem qmount_many_m (w : World) (v : Value) (l : List FI) (h : ImgR w v l) (lim : Int) (hgood : ∀ i < l.length, nameOk l i) (hlim : 1 ≤ lim ∧ lim ≤ 1073741824) (hmany : 65536 < l.length) :
    Calls Try.prog 72 #[.agg #[v], .int .i64 lim] w fun e w' => e = .returned (.tuple #[.pointer none, .int .i64 62]) ∧ Ext Nil w w' := by
  obtain ⟨ao, cap, rfl, hc1, hc2⟩ : ∃ ao cap, v = .slice ao l.length cap ∧ l.length ≤ cap ∧ cap ≤ maxLen := by
    obtain ⟨-, ao, cap, rfl, h2, h3, -⟩ := h.row
    exact ⟨ao, cap, rfl, h2, h3⟩
  have eW : Ext Nil w (w.alloc (.cells #[.slice ao l.length cap] 36 (0, 0))) := (Ext.refl _ _).alloc _
  have bW := (At.new w [.slice ao l.length cap] 36).cell 0 rfl
  have HH := Lib.hid h; have HB := Lib.hid hgood; have HEW := Lib.hid eW; have HBW := Lib.hid bW
  obtain ⟨n, rfl⟩ := Int.eq_ofNat_of_zero_le (show 0 ≤ lim by omega)
  have g1 : 1 ≤ n := by omega
  have g2 : n ≤ 1073741824 := by omega
  clear hlim
  clear hgood h eW bW
  go_enter Try.func72, Try.ntmps72
  go_wp2_with fail
  go_loopw [6] (fun i wr => ∃ (j : Nat), i = .int .i64 (j : Int) ∧ j ≤ l.length ∧ Ext Nil w wr ∧ wr.cell? ⟨w.heap.size, 0, none⟩ = some (.slice ao l.length cap)) (fun i _ => l.length - (intOf i).toNat)
  case atStart => exact ⟨0, rfl, Nat.zero_le _, HEW.out, HBW.out⟩
  case round =>
    obtain ⟨j, rfl, hj, hE, hbw⟩ := hrel
    by_cases hjl : j < l.length
    · obtain ⟨b, off, cap', hao, -, -, hcell⟩ := HH.out.open (by omega)
      simp only [Value.slice.injEq, true_and] at hao
      obtain ⟨rfl, rfl⟩ := hao
      obtain ⟨x, hx, hn, hprev⟩ := HB.out j hjl
      have c0 := hE.cell (hcell j x hx).1 fun h => h
      have hxs := HH.out.names x (List.mem_of_getElem? hx)
      have hbl := (cell_spot c0).2
      have hwl := (cell_spot hbw).2
      have HE := Lib.hid hE
      have hjw := succ_wrap (Nat.lt_of_lt_of_le hjl (Nat.le_trans hc1 hc2))
      have hdn := down hjl
      have HDN := Lib.hid hdn; have HJW := Lib.hid hjw
      have hN := fun (W : World) => rname_b W ⟨x.nm.toArray⟩ (by rw [encS_size]; exact hxs) true (by rw [encS_toList]; exact hn)
      have HNN := Lib.hid hN
      clear hN hn hx hE hdn
      by_cases h0 : j = 0
      · have h0' : ¬ (0 : Int) < (j : Int) := by omega
        have h0d : decide ((0 : Int) < (j : Int)) = false := decide_eq_false h0'
        have h0n : ¬ 0 < j := by omega
        have h0b : decide (0 < j) = false := decide_eq_false h0n
        clear h0 hcell hprev
        go_wp2_with fail
        go_quiet ((go_at_call 97; exact Calls.quiet_of_same (HNN.out _)))
        go_wp2_with fail
        exact ⟨⟨j + 1, by first | rfl | rw [HJW.out], hjl, HE.out.drewN _, drew_cell hbw⟩, by first | exact HDN.out | (rw [HJW.out]; exact HDN.out)⟩
      · obtain ⟨J, hJ⟩ : ∃ J, J = j - 1 := ⟨_, rfl⟩
        have hJw : IntKind.i64.wrap ((j : Int) - 1) = (J : Int) := by rw [hJ]; exact pred_wrap h0 (Nat.le_trans hj (Nat.le_trans hc1 hc2))
        have hJl : J < l.length := by omega
        have h0' : (0 : Int) < (j : Int) := by omega
        have h0d : decide ((0 : Int) < (j : Int)) = true := decide_eq_true h0'
        have h0n : 0 < j := by omega
        have h0b : decide (0 < j) = true := decide_eq_true h0n
        obtain ⟨y, hy⟩ : ∃ y, l[J]? = some y := ⟨l[J], List.getElem?_eq_getElem hJl⟩
        have cp := HE.out.cell (hcell J y hy).1 fun h => h
        have hbf := hprev y h0n (by rw [← hJ]; exact hy)
        have hlq : (Op.bytesLess x.nm y.nm || x.nm == y.nm) = !bytesBefore y.nm x.nm := by rw [less_before]; exact before_leq _ _
        rw [hbf] at hlq
        have hl1 : Op.bytesLess x.nm y.nm = false := by cases h : Op.bytesLess x.nm y.nm <;> simp_all
        have hl2 : (x.nm == y.nm) = false := by cases h : x.nm == y.nm <;> simp_all
        clear hy hJ h0 hbf hlq hcell hprev
        go_wp2_with fail
        go_quiet ((go_at_call 97; exact Calls.quiet_of_same (HNN.out _)))
        go_wp2_with fail
        exact ⟨⟨j + 1, by first | rfl | rw [HJW.out], hjl, HE.out.drewN _, drew_cell hbw⟩, by first | exact HDN.out | (rw [HJW.out]; exact HDN.out)⟩
    · have hnot : ¬ (j : Int) < (l.length : Int) := by omega
      have HE := Lib.hid hE
      have hm2 : (65536 : Int) < (l.length : Int) := by omega
      clear hE
      go_wp2_with (go_at_call 49; refine (qnew_at _ n g1 g2).mono ?_; rintro e w' ⟨rfl, h3, e3⟩; have b3 := e3.cell hbw fun h => h; clear h3)
      go_ret2
      exact ⟨rfl, HE.out.same e3⟩
end Go.Proofs.Ytnppneilbkmnfaa
namespace Go.Proofs.Ytnppneilbkmnfaa
open Go.RowKit

/-- a disk of the document of one's own -/
def QLife (w0 w : World) (q : Nat) (D : Dk) : Prop := ∃ G, QDisk w q D G ∧ (∀ k, G k → w0.heap.size ≤ k) ∧ Ext Nil w0 w
def QMountPost (w : World) (n : Nat) (l : List FI) (e : Ending) (w' : World) : Prop :=
  (n < ((l.map FI.file).map fun f => f.b.length).sum ∧ e = .returned (.tuple #[.pointer none, .int .i64 62]) ∧ Ext Nil w w') ∨ (∃ q, e = .returned (.tuple #[.pointer (some ⟨q, 0, none⟩), .int .i64 0]) ∧ QLife w w' q (mntD n l))
theorem qmnt_len {n j : Nat} {l : List FI} (h : j ≤ l.length) : (mntD n (l.take j)).fs.length = j := by
  show ((l.take j).map FI.file).length = j
  rw [List.length_map, List.length_take]
  omega
theorem over_of {n U R b : Nat} (h : U ≤ n) (hR : R = n - U) (hb : R < b) : n < U + b := by omega
theorem room_wrap {n U R : Nat} (h : U ≤ n) (hn : n ≤ 1073741824) (hR : R = n - U) : IntKind.i64.wrap ((n : Int) - (U : Int)) = (R : Int) := by rw [IntWalk.i64_in _ (by omega)]; omega
theorem le_of_room {n U R b : Nat} (h : U ≤ n) (hR : R = n - U) (hb : b ≤ R) : U + b ≤ n := by omega
theorem QAt.grow {w w3 : World} {q : Nat} {fv av u : Value} {fl fl' : List TI} {D D' : Dk} (h : QAt w q fv av fl D) (e : Ext (inFoot fv) w w3) (hu : Row kQ w3 u fl') (hs : fl'.map TI.f = D'.fs) (hq : ∀ k, feet kQ u fl' k → k ≠ q) (ha : ∀ k, inFoot av k → k ≠ q ∧ ¬ feet kQ u fl' k)
    (h1 : D'.lim = D.lim) (h2 : D'.arms = D.arms) (h3 : D'.off = D.off) (h4 : D'.out = D.out) (h5 : D'.calls = D.calls) (wf : D'.Wf) : QAt (w3.setCell ⟨q, 2, none⟩ u) q u av fl' D' := by
  have e2 : Ext (One q) w3 (w3.setCell ⟨q, 2, none⟩ u) := (Ext.refl (One q) w3).setCell (p := ⟨q, 2, none⟩) (fun _ => rfl) u
  refine ⟨?_, hu.extF e2 fun k hk e => hq k hk e, hs, ?_, hq, ha, wf⟩
  · rw [h1, h3, h4, h5]
    exact (h.cells.ext e fun hf => h.apq q (.inl hf) rfl).set 2 u
  · rw [h2]
    exact (h.arms.extA e fun k hk hf => (h.apa k hk).2 (.inl hf)).extA e2 fun k hk e => (ha k hk).1 e

theorem qmnt_round {w wr w2 : World} {q n : Nat} {l : List FI} {j : Nat} {x : FI} {fa : Option Addr} {fc : Nat} {fl : List TI} (hgood : ∀ i < l.length, nameOk l i) (hx : l[j]? = some x) (hfew : l.length ≤ 65536) (hD : QAt wr q (.slice fa fl.length fc) (.slice none 0 0) fl (mntD n (l.take j)))
    (hK : ∀ k, feet kQ (.slice fa fl.length fc) fl k → w.heap.size < k) (hE : Ext Nil w wr) (hqw : w.heap.size < q) {ao2 : Option Addr} {cap2 : Nat} (O2 : OwnB w2 (.slice ao2 x.b.length cap2) x.b) (S2 : Step Nil wr (inFoot (.slice ao2 x.b.length cap2)) w2) (hu : (mntD n (l.take j)).used + x.b.length ≤ n)
    {pim pnm : Addr} {vim vnm : Value} (k3 : w2.cell? pim = some vim) (k0 : w2.cell? pnm = some vnm) (h3 : pim.block ≤ w.heap.size) (h0 : pnm.block ≤ w.heap.size) :
    ∃ ao3 cap3 w3, (Builtin.append_ #[128, 128] 128 #[.slice fa fl.length fc, .slice (some ⟨w2.heap.size, 0, none⟩) 1 1]).run Try.prog (w2.drew.alloc (.cells #[.string ⟨x.nm.toArray⟩, .slice ao2 x.b.length cap2, .int .i64 x.b.length] 132 (0, 0))) = .ok (.slice ao3 (fl.length + 1) cap3) w3 ∧
      QAt (w3.setCell ⟨q, 2, none⟩ (.slice ao3 (fl.length + 1) cap3)) q (.slice ao3 (fl.length + 1) cap3) (.slice none 0 0) (fl ++ [⟨x.file, .slice ao2 x.b.length cap2⟩]) (mntD n (l.take (j + 1))) ∧ (∀ k, feet kQ (.slice ao3 (fl.length + 1) cap3) (fl ++ [⟨x.file, .slice ao2 x.b.length cap2⟩]) k → w.heap.size < k) ∧
      Ext Nil w (w3.setCell ⟨q, 2, none⟩ (.slice ao3 (fl.length + 1) cap3)) ∧ w3.cell? pim = some vim ∧ w3.cell? pnm = some vnm ∧ w3.cell? ⟨q, 2, none⟩ = some (.slice fa fl.length fc) ∧ w3.frozen? ⟨q, 2, none⟩ = false := by
  have hwf := mnt_wf hgood hx hD.wf hfew hu
  rw [mnt_put hgood hx] at hwf
  have hD2 := hD.ext0 S2.1
  have hcnt := hD.wf.count
  rw [← hD.len] at hcnt
  have hql := hD.cells.lt
  have hfv : ∀ k, inFoot (.slice fa fl.length fc) k → w.heap.size < k := fun k hk => hK k (.inl hk)
  have hnf : ∀ i, inFoot (.slice ao2 x.b.length cap2) i → wr.heap.size ≤ i ∧ i < w2.heap.size := fun i hi => ⟨(S2.2 i hi).resolve_left fun h => h, O2.lt i hi⟩
  have hs2 := S2.1.size
  obtain ⟨ao3, cap3, w3, hrun3, hR3, hK3⟩ := fileQ_next (w := w2.drew) (hD2.files.ext0 (Ext.refl Nil w2).drew) ⟨x.file, .slice ao2 x.b.length cap2⟩ (O2.bytes.ext (F := Nil) (Ext.refl Nil w2).drew fun _ _ h => h) (fun i hi => ⟨(hnf i hi).2, fun hf => by have := hD.files.lt i hf; have := (hnf i hi).1; omega⟩) (by omega) 128
  have hfeet : ∀ k, feet kQ (.slice ao3 (fl.length + 1) cap3) (fl ++ [⟨x.file, .slice ao2 x.b.length cap2⟩]) k → w.heap.size < k ∧ k ≠ q := by
    rintro k (hk | ⟨y, hy, hk⟩)
    · rcases hK3.2 k hk with h | h
      · exact ⟨hfv k h, hD.apq k (.inl h)⟩
      · have h : w2.heap.size ≤ k := h
        exact ⟨by omega, by omega⟩
    · rcases List.mem_append.1 hy with hy | hy
      · exact ⟨hK k (.inr ⟨y, hy, hk⟩), hD.apq k (.inr ⟨y, hy, hk⟩)⟩
      · rw [List.mem_singleton] at hy
        subst hy
        have := hnf k hk
        exact ⟨by omega, by omega⟩
  have hA3 := ((hD2.cells.ext (Ext.refl Nil w2).drew fun h => h).ext hK3.1 fun hf => hD.apq q (.inl hf) rfl)
  refine ⟨ao3, cap3, w3, hrun3, ?_, fun k hk => (hfeet k hk).1, ?_, ?_, ?_, hA3.cell 2 rfl, hA3.frozen 2⟩
  · exact (hD2.ext0 (Ext.refl Nil w2).drew).grow (D' := mntD n (l.take (j + 1))) hK3.1 hR3 (by rw [List.map_append, hD.same, mnt_take hx]; simp [mntD]) (fun k hk => (hfeet k hk).2) (fun k hk => by simp [inFoot, foot] at hk) rfl rfl rfl rfl rfl hwf
  · exact (((hE.same S2.1).drew).trans hK3.1 fun i hi hf => by have := hfv i hf; omega).setCell (p := ⟨q, 2, none⟩) (fun h => by have h : q < w.heap.size := h; omega) _
  · exact hK3.1.cell (((Ext.refl Nil w2).drew).cell k3 fun h => h) fun hf => by have := hfv _ hf; omega
  · exact hK3.1.cell (((Ext.refl Nil w2).drew).cell k0 fun h => h) fun hf => by have := hfv _ hf; omega

set_option maxRecDepth 20000 in
set_option maxHeartbeats 2000000 in
theorem qmount_rest_m (w : World) (v : Value) (l : List FI) (h : ImgR w v l) (lim : Int) (hgood : ∀ i < l.length, nameOk l i) (hlim : 1 ≤ lim ∧ lim ≤ 1073741824) (hfew : l.length ≤ 65536) (hbyt : ∀ x ∈ l, x.b.length ≤ 549755813888) :
    Calls Try.prog 72 #[.agg #[v], .int .i64 lim] w fun e w' => QMountPost w lim.toNat l e w' := by
  obtain ⟨ao, cap, rfl, hc1, hc2⟩ : ∃ ao cap, v = .slice ao l.length cap ∧ l.length ≤ cap ∧ cap ≤ maxLen := by
    obtain ⟨-, ao, cap, rfl, h2, h3, -⟩ := h.row
    exact ⟨ao, cap, rfl, h2, h3⟩
  have eW : Ext Nil w (w.alloc (.cells #[.slice ao l.length cap] 36 (0, 0))) := (Ext.refl _ _).alloc _
  have bW := (At.new w [.slice ao l.length cap] 36).cell 0 rfl
  have HH := Lib.hid h; have HB := Lib.hid hgood; have HEW := Lib.hid eW; have HBW := Lib.hid bW
  obtain ⟨n, rfl⟩ := Int.eq_ofNat_of_zero_le (show 0 ≤ lim by omega)
  have g1 : 1 ≤ n := by omega
  have g2 : n ≤ 1073741824 := by omega
  rw [Int.toNat_natCast]
  have HBY := Lib.hid hbyt
  clear hlim hbyt
  clear hgood h eW bW
  go_enter Try.func72, Try.ntmps72
  go_wp2_with fail
  go_loopw [6] (fun i wr => ∃ (j : Nat), i = .int .i64 (j : Int) ∧ j ≤ l.length ∧ Ext Nil w wr ∧ wr.cell? ⟨w.heap.size, 0, none⟩ = some (.slice ao l.length cap)) (fun i _ => l.length - (intOf i).toNat)
  case atStart => exact ⟨0, rfl, Nat.zero_le _, HEW.out, HBW.out⟩
  case round =>
    obtain ⟨j, rfl, hj, hE, hbw⟩ := hrel
    by_cases hjl : j < l.length
    · obtain ⟨b, off, cap', hao, -, -, hcell⟩ := HH.out.open (by omega)
      simp only [Value.slice.injEq, true_and] at hao
      obtain ⟨rfl, rfl⟩ := hao
      obtain ⟨x, hx, hn, hprev⟩ := HB.out j hjl
      have c0 := hE.cell (hcell j x hx).1 fun h => h
      have hxs := HH.out.names x (List.mem_of_getElem? hx)
      have hbl := (cell_spot c0).2
      have hwl := (cell_spot hbw).2
      have HE := Lib.hid hE
      have hjw := succ_wrap (Nat.lt_of_lt_of_le hjl (Nat.le_trans hc1 hc2))
      have hdn := down hjl
      have HDN := Lib.hid hdn; have HJW := Lib.hid hjw
      have hN := fun (W : World) => rname_b W ⟨x.nm.toArray⟩ (by rw [encS_size]; exact hxs) true (by rw [encS_toList]; exact hn)
      have HNN := Lib.hid hN
      clear hN hn hx hE hdn
      by_cases h0 : j = 0
      · have h0' : ¬ (0 : Int) < (j : Int) := by omega
        have h0d : decide ((0 : Int) < (j : Int)) = false := decide_eq_false h0'
        have h0n : ¬ 0 < j := by omega
        have h0b : decide (0 < j) = false := decide_eq_false h0n
        clear h0 hcell hprev
        go_wp2_with fail
        go_quiet ((go_at_call 97; exact Calls.quiet_of_same (HNN.out _)))
        go_wp2_with fail
        exact ⟨⟨j + 1, by first | rfl | rw [HJW.out], hjl, HE.out.drewN _, drew_cell hbw⟩, by first | exact HDN.out | (rw [HJW.out]; exact HDN.out)⟩
      · obtain ⟨J, hJ⟩ : ∃ J, J = j - 1 := ⟨_, rfl⟩
        have hJw : IntKind.i64.wrap ((j : Int) - 1) = (J : Int) := by rw [hJ]; exact pred_wrap h0 (Nat.le_trans hj (Nat.le_trans hc1 hc2))
        have hJl : J < l.length := by omega
        have h0' : (0 : Int) < (j : Int) := by omega
        have h0d : decide ((0 : Int) < (j : Int)) = true := decide_eq_true h0'
        have h0n : 0 < j := by omega
        have h0b : decide (0 < j) = true := decide_eq_true h0n
        obtain ⟨y, hy⟩ : ∃ y, l[J]? = some y := ⟨l[J], List.getElem?_eq_getElem hJl⟩
        have cp := HE.out.cell (hcell J y hy).1 fun h => h
        have hbf := hprev y h0n (by rw [← hJ]; exact hy)
        have hlq : (Op.bytesLess x.nm y.nm || x.nm == y.nm) = !bytesBefore y.nm x.nm := by rw [less_before]; exact before_leq _ _
        rw [hbf] at hlq
        have hl1 : Op.bytesLess x.nm y.nm = false := by cases h : Op.bytesLess x.nm y.nm <;> simp_all
        have hl2 : (x.nm == y.nm) = false := by cases h : x.nm == y.nm <;> simp_all
        clear hy hJ h0 hbf hlq hcell hprev
        go_wp2_with fail
        go_quiet ((go_at_call 97; exact Calls.quiet_of_same (HNN.out _)))
        go_wp2_with fail
        exact ⟨⟨j + 1, by first | rfl | rw [HJW.out], hjl, HE.out.drewN _, drew_cell hbw⟩, by first | exact HDN.out | (rw [HJW.out]; exact HDN.out)⟩
    · have hnot : ¬ (j : Int) < (l.length : Int) := by omega
      have HE := Lib.hid hE
      have hm2 : ¬ (65536 : Int) < (l.length : Int) := by omega
      clear hE
      go_wp2_with (go_at_call 49; refine (qnew_at _ n g1 g2).mono ?_; rintro e w3 ⟨rfl, h3, e3⟩; have b3 := e3.cell hbw fun h => h; have HD3 := Lib.hid h3; have HE3 := Lib.hid e3; clear h3 e3)
      have hws := HE.out.size
      have hwl := (cell_spot hbw).2
      have hE3 := HE.out.same HE3.out
      have HE4 := Lib.hid hE3; have HB3 := Lib.hid b3
      have hqw : w.heap.size < wr.heap.size := hwl
      have HQW := Lib.hid hqw
      clear hE3 b3 hws hwl hqw
      generalize wr.heap.size = q at *
      go_loopw [9] (fun i wr2 => ∃ (j : Nat) (fv : Value) (fl : List TI), i = .int .i64 (j : Int) ∧ j ≤ l.length ∧ QAt wr2 q fv (.slice none 0 0) fl (mntD n (l.take j)) ∧ (∀ k, feet kQ fv fl k → w.heap.size < k) ∧ Ext Nil w wr2 ∧ wr2.cell? ⟨w.heap.size, 0, none⟩ = some (.slice ao l.length cap)) (fun i _ => l.length - (intOf i).toNat)
      case atStart => exact ⟨0, .slice none 0 0, [], rfl, Nat.zero_le _, HD3.out, (by rintro k (hk | ⟨x, hx, -⟩); (simp [inFoot, foot] at hk); cases hx), HE4.out, HB3.out⟩
      case round =>
        obtain ⟨j, fv, fl, rfl, hj, hD, hK, hE, hbw2⟩ := hrel
        by_cases hjl : j < l.length
        · obtain ⟨b, off, cap', hao, -, -, hcell⟩ := HH.out.open (by omega)
          simp only [Value.slice.injEq, true_and] at hao
          obtain ⟨rfl, rfl⟩ := hao
          obtain ⟨x, hx⟩ : ∃ x, l[j]? = some x := ⟨l[j], List.getElem?_eq_getElem hjl⟩
          obtain ⟨c0, c1⟩ := hcell j x hx
          have hB := HH.out.bytes x (List.mem_of_getElem? hx)
          obtain ⟨bx, cx, hxv, hxc, hxm, -⟩ := hB.open
          rw [hxv] at c1 hB
          replace c0 := hE.cell c0 fun h => h
          replace c1 := hE.cell c1 fun h => h
          have hbl := (cell_spot c0).2
          have hwl := (cell_spot hbw2).2
          obtain ⟨fa, fc, rfl, hf1, hf2⟩ := hD.files.shape
          have hfl : fl.length = j := by rw [hD.len]; exact qmnt_len (Nat.le_of_lt hjl)
          have hbx := HH.out.bytes x (List.mem_of_getElem? hx)
          obtain ⟨U, hU⟩ : ∃ U, U = (mntD n (l.take j)).used := ⟨_, rfl⟩
          have hUn : U ≤ n := by rw [hU]; exact hD.wf.used
          obtain ⟨R, hR⟩ : ∃ R, R = n - U := ⟨_, rfl⟩
          have hRw : IntKind.i64.wrap ((n : Int) - (U : Int)) = (R : Int) := room_wrap hUn g2 hR
          have hjw := succ_wrap (Nat.lt_of_lt_of_le hjl (Nat.le_trans hc1 hc2))
          have hdn := down hjl
          have hql := hD.cells.lt
          by_cases hbig : x.b.length ≤ 549755813888
          · obtain ⟨ao2, cap2, w2, hrun, q1, q2, O2, S2⟩ := run_appendB (w := wr) (v := .slice none 0 0) (l := []) (Own.nil _ _ _) (hB.ext hE fun _ _ h => h) (by unfold Fits; simp; omega) 31
            simp only [List.length_nil, Nat.zero_add, List.nil_append] at hrun O2 S2 q1
            have S2 : Step Nil wr (inFoot (.slice ao2 x.b.length cap2)) w2 := ⟨S2.1.mono (fun i _ h => by simp [inFoot, foot] at h), fun i hi => (S2.2 i hi).imp (fun h => by simp [inFoot, foot] at h) id⟩
            have hD2 := hD.ext0 S2.1
            have k0 := S2.1.cell c0 fun h => h
            have k3 := S2.1.cell hbw2 fun h => h
            have d2 := hD2.cells.cell 2 rfl
            have hs2 := S2.1.size
            have HDN := Lib.hid hdn; have HJW := Lib.hid hjw; have HU := Lib.hid hU; have HR := Lib.hid hR; have HX := Lib.hid hx; have HK := Lib.hid hK; have HXV := Lib.hid hxv; have HO2 := Lib.hid O2; have HS2 := Lib.hid S2; have HE := Lib.hid hE; have HD2 := Lib.hid hD2; have HD := Lib.hid hD; have HFL := Lib.hid hfl
            clear hdn hU hR hx hK hxv O2 S2 hE hD2 hD hfl hB hbx
            by_cases hfull : R < x.b.length
            · have hfi : (R : Int) < (x.b.length : Int) := by omega
              go_wp2_with (first
                | (at_builtin; refine wpList_append_run rfl (.tmp 65) (.tmp 71) 31 31 rfl _ _ _ rfl rfl hrun ?_)
                | (go_at_call 85; refine (qused_m _ q _ _ fl _ HD2.out).mono ?_; rintro e w' ⟨rfl, rfl⟩; rw [← HU.out]))
              go_ret2
              exact .inl ⟨mnt_over HX.out (by rw [← HU.out]; exact over_of hUn HR.out hfull), rfl, HE.out.same HS2.out.1⟩
            · have hfi : ¬ (R : Int) < (x.b.length : Int) := by omega
              have hbw0 : b < w.heap.size := (cell_spot ((hcell j x HX.out).1)).2
              obtain ⟨ao3, cap3, w3, hrun3, hG, hfeet, e9, y3, y0, yq, zq⟩ := qmnt_round HB.out HX.out hfew HD.out HK.out HE.out HQW.out HO2.out HS2.out (by have := HU.out; have := HR.out; rw [← HU.out]; exact le_of_room hUn HR.out (Nat.le_of_not_lt hfull)) k3 k0 (Nat.le_refl _) (Nat.le_of_lt hbw0)
              have HG := Lib.hid hG; have HFT := Lib.hid hfeet; have HE9 := Lib.hid e9
              have HZ := Lib.hid (And.intro y3 y0)
              have n3 : (⟨q, 2, none⟩ : Addr) ≠ ⟨w.heap.size, 0, none⟩ := by intro e; simp only [Addr.mk.injEq] at e; exact absurd e.1.symm (Nat.ne_of_lt HQW.out)
              have n4 : (⟨q, 2, none⟩ : Addr) ≠ ⟨b, off + j * 2, none⟩ := by intro e; simp only [Addr.mk.injEq] at e; exact absurd e.1.symm (Nat.ne_of_lt (Nat.lt_trans hbw0 HQW.out))
              have hq2 : q < w2.heap.size := Nat.lt_of_lt_of_le hql hs2
              clear hfeet hG e9 y3 y0
              go_wp2_with (first
                | (at_builtin; refine wpList_append_run rfl (.tmp 65) (.tmp 71) 31 31 rfl _ _ _ rfl rfl hrun ?_)
                | (go_at_call 85; refine (qused_m _ q _ _ fl _ HD2.out).mono ?_; rintro e w' ⟨rfl, rfl⟩; rw [← HU.out]))
              clear hrun
              refine wp_region_held_drew (S := fun w' => w'.cell? ⟨w.heap.size, 0, none⟩ = some (.slice (some ⟨b, off, none⟩) l.length cap) ∧ w'.cell? ⟨b, off + j * 2, none⟩ = some (.string ⟨x.nm.toArray⟩)) (by kernel_rfl) ⟨k3, k0⟩ (fun hHeld => ?_)
              refine wpAnyH_take (i := 0) (v := .pointer (some ⟨q, 0, none⟩)) rfl (by kernel_rfl) (by kernel_rfl) (by kernel_rfl) (fun _ _ _ h => h) (Or.inl ⟨by rfl, ?y1⟩) (by assumption) ?r1
              case y1 => (intro w hSw; obtain ⟨s1, s2⟩ := hSw; go_simp)
              simp only [Act.put]
              refine wpAnyH_take (i := 1) (v := .pointer (some ⟨q, 0, none⟩)) rfl (by kernel_rfl) (by kernel_rfl) (by kernel_rfl) (fun _ _ _ h => h) (Or.inl ⟨by rfl, ?y2⟩) (by assumption) ?r2
              case y2 => (intro w hSw; obtain ⟨s1, s2⟩ := hSw; go_simp)
              simp only [Act.put]
              refine wpAnyH_take (i := 2) (v := .pointer (some ⟨q, 0, none⟩)) rfl (by kernel_rfl) (by kernel_rfl) (by kernel_rfl) (fun _ _ _ h => h) (Or.inl ⟨by rfl, ?y3⟩) (by assumption) ?r3
              case y3 => (intro w hSw; obtain ⟨s1, s2⟩ := hSw; go_simp)
              simp only [Act.put]
              refine wpAnyH_take (i := 3) (v := .pointer (some ⟨q, 2, none⟩)) rfl (by kernel_rfl) (by kernel_rfl) (by kernel_rfl) (fun _ _ _ h => h) (Or.inl ⟨by rfl, ?y4⟩) (by assumption) ?r4
              case y4 => (intro w hSw; obtain ⟨s1, s2⟩ := hSw; go_simp)
              simp only [Act.put]
              refine wpAnyH_take (i := 5) (v := .pointer (some ⟨w.heap.size, 0, none⟩)) rfl (by kernel_rfl) (by kernel_rfl) (by kernel_rfl) (fun _ _ _ h => h) (Or.inl ⟨by rfl, ?y5⟩) (by assumption) ?r5
              case y5 => (intro w hSw; obtain ⟨s1, s2⟩ := hSw; go_simp)
              simp only [Act.put]
              refine wpAnyH_take (i := 6) (v := .slice (some ⟨b, off, none⟩) l.length cap) rfl (by kernel_rfl) (by kernel_rfl) (by kernel_rfl) (fun _ _ _ h => h) (Or.inl ⟨by rfl, ?y6⟩) (by assumption) ?r6
              case y6 => (intro w hSw; obtain ⟨s1, s2⟩ := hSw; go_simp)
              simp only [Act.put]
              refine wpAnyH_take (i := 7) (v := .int .i64 (j : Int)) rfl (by kernel_rfl) (by kernel_rfl) (by kernel_rfl) (fun _ _ _ h => h) (Or.inl ⟨by rfl, ?y7⟩) (by assumption) ?r7
              case y7 => (intro w hSw; obtain ⟨s1, s2⟩ := hSw; go_simp)
              simp only [Act.put]
              refine wpAnyH_take (i := 8) (v := .pointer (some ⟨b, off + j * 2, none⟩)) rfl (by kernel_rfl) (by kernel_rfl) (by kernel_rfl) (fun _ _ _ h => h) (Or.inl ⟨by rfl, ?y8⟩) (by assumption) ?r8
              case y8 => (intro w hSw; obtain ⟨s1, s2⟩ := hSw; go_simp)
              simp only [Act.put]
              refine wpAnyH_take (i := 9) (v := .pointer (some ⟨b, off + j * 2, none⟩)) rfl (by kernel_rfl) (by kernel_rfl) (by kernel_rfl) (fun _ _ _ h => h) (Or.inl ⟨by rfl, ?y9⟩) (by assumption) ?r9
              case y9 => (intro w hSw; obtain ⟨s1, s2⟩ := hSw; go_simp)
              simp only [Act.put]
              refine wpAnyH_take (i := 10) (v := .string ⟨x.nm.toArray⟩) rfl (by kernel_rfl) (by kernel_rfl) (by kernel_rfl) (fun _ _ _ h => h) (Or.inl ⟨by rfl, ?y10⟩) (by assumption) ?r10
              case y10 => (intro w hSw; obtain ⟨s1, s2⟩ := hSw; go_simp)
              simp only [Act.put]
              refine wpAnyH_take (i := 11) (v := .slice ao2 x.b.length cap2) rfl (by kernel_rfl) (by kernel_rfl) (by kernel_rfl) (fun _ _ _ h => h) (Or.inl ⟨by rfl, ?y11⟩) (by assumption) ?r11
              case y11 => (intro w hSw; obtain ⟨s1, s2⟩ := hSw; go_simp)
              simp only [Act.put]
              refine wpAnyH_take (i := 12) (v := .slice ao2 x.b.length cap2) rfl (by kernel_rfl) (by kernel_rfl) (by kernel_rfl) (fun _ _ _ h => h) (Or.inl ⟨by rfl, ?y12⟩) (by assumption) ?r12
              case y12 => (intro w hSw; obtain ⟨s1, s2⟩ := hSw; go_simp)
              simp only [Act.put]
              refine wpAnyH_take (i := 13) (v := .int .i64 x.b.length) rfl (by kernel_rfl) (by kernel_rfl) (by kernel_rfl) (fun _ _ _ h => h) (Or.inl ⟨by rfl, ?y13⟩) (by assumption) ?r13
              case y13 => (intro w hSw; obtain ⟨s1, s2⟩ := hSw; go_simp)
              simp only [Act.put]
              refine wpAnyH_take (i := 14) (v := .agg #[.string ⟨x.nm.toArray⟩, .slice ao2 x.b.length cap2, .int .i64 x.b.length]) rfl (by kernel_rfl) (by kernel_rfl) (by kernel_rfl) (fun _ _ _ h => h) (Or.inl ⟨by rfl, ?y14⟩) (by assumption) ?r14
              case y14 => (intro w hSw; obtain ⟨s1, s2⟩ := hSw; go_simp)
              simp only [Act.put]
              refine wpAnyH_ready (rs := [4, 15]) (by kernel_rfl) (by simp) (AllReadyH.cons rfl (fun K hK => ?o4) (AllReadyH.cons rfl (fun K hK => ?o15) AllReadyH.nil))
              case o4 =>
                go_simp
                refine hK.out _ _ ⟨k3, k0⟩ (fun hHeld => ?_)
                clear hK K
                refine wpAnyH_ready (rs := [15]) (by kernel_rfl) (by simp) (AllReadyH.cons rfl (fun K hK => ?_) AllReadyH.nil)
                go_simp
                refine hK.out _ _ ⟨(((Ext.refl Nil w2).drew.alloc _).cell k3 fun h => h), (((Ext.refl Nil w2).drew.alloc _).cell k0 fun h => h)⟩ (fun hHeld => ?_)
                clear hK K
                refine wpAnyH_ready (rs := [16]) (by kernel_rfl) (by simp) (AllReadyH.cons rfl (fun K hK => ?_) AllReadyH.nil)
                refine step_append_run rfl _ _ _ _ rfl _ _ _ rfl rfl hrun3 ?_
                refine hK.out _ _ HZ.out (fun hHeld => ?_)
                clear hK K
                simp only [Act.put]
                refine wpAnyH_take (i := 17) (v := .pointer (some ⟨q, 0, none⟩)) rfl (by kernel_rfl) (by kernel_rfl) (by kernel_rfl) (fun _ _ _ h => h) (Or.inl ⟨by rfl, ?y15⟩) (by assumption) ?r15
                case y15 => (intro w hSw; obtain ⟨s1, s2⟩ := hSw; go_simp)
                simp only [Act.put]
                refine wpAnyH_take (i := 18) (v := .pointer (some ⟨q, 2, none⟩)) rfl (by kernel_rfl) (by kernel_rfl) (by kernel_rfl) (fun _ _ _ h => h) (Or.inl ⟨by rfl, ?y16⟩) (by assumption) ?r16
                case y16 => (intro w hSw; obtain ⟨s1, s2⟩ := hSw; go_simp)
                simp only [Act.put]
                refine wpAnyH_ready (rs := [19]) (by kernel_rfl) (by simp) (AllReadyH.cons rfl (fun K hK => ?_) AllReadyH.nil)
                go_simp
                refine hK.out _ _ ⟨(World.cell?_setCell_other _ _ _ _ n3).trans HZ.out.1, (World.cell?_setCell_other _ _ _ _ n4).trans HZ.out.2⟩ (fun hHeld => ?_)
                clear hK K
                refine wpAnyH_done (by kernel_rfl) ?_ _
                go_wp2_with fail
                refine ⟨⟨j + 1, _, _, by first | rfl | rw [HJW.out], hjl, HG.out, HFT.out, HE9.out, (World.cell?_setCell_other _ _ _ _ n3).trans HZ.out.1⟩, by first | exact HDN.out | (rw [HJW.out]; exact HDN.out)⟩
              case o15 =>
                go_simp
                refine hK.out _ _ ⟨(((Ext.refl Nil w2).drew.alloc _).cell k3 fun h => h), (((Ext.refl Nil w2).drew.alloc _).cell k0 fun h => h)⟩ (fun hHeld => ?_)
                clear hK K
                refine wpAnyH_ready (rs := [4]) (by kernel_rfl) (by simp) (AllReadyH.cons rfl (fun K hK => ?_) AllReadyH.nil)
                go_simp
                refine hK.out _ _ ⟨(((Ext.refl Nil w2).drew.alloc _).cell k3 fun h => h), (((Ext.refl Nil w2).drew.alloc _).cell k0 fun h => h)⟩ (fun hHeld => ?_)
                clear hK K
                refine wpAnyH_ready (rs := [16]) (by kernel_rfl) (by simp) (AllReadyH.cons rfl (fun K hK => ?_) AllReadyH.nil)
                refine step_append_run rfl _ _ _ _ rfl _ _ _ rfl rfl hrun3 ?_
                refine hK.out _ _ HZ.out (fun hHeld => ?_)
                clear hK K
                simp only [Act.put]
                refine wpAnyH_take (i := 17) (v := .pointer (some ⟨q, 0, none⟩)) rfl (by kernel_rfl) (by kernel_rfl) (by kernel_rfl) (fun _ _ _ h => h) (Or.inl ⟨by rfl, ?y17⟩) (by assumption) ?r17
                case y17 => (intro w hSw; obtain ⟨s1, s2⟩ := hSw; go_simp)
                simp only [Act.put]
                refine wpAnyH_take (i := 18) (v := .pointer (some ⟨q, 2, none⟩)) rfl (by kernel_rfl) (by kernel_rfl) (by kernel_rfl) (fun _ _ _ h => h) (Or.inl ⟨by rfl, ?y18⟩) (by assumption) ?r18
                case y18 => (intro w hSw; obtain ⟨s1, s2⟩ := hSw; go_simp)
                simp only [Act.put]
                refine wpAnyH_ready (rs := [19]) (by kernel_rfl) (by simp) (AllReadyH.cons rfl (fun K hK => ?_) AllReadyH.nil)
                go_simp
                refine hK.out _ _ ⟨(World.cell?_setCell_other _ _ _ _ n3).trans HZ.out.1, (World.cell?_setCell_other _ _ _ _ n4).trans HZ.out.2⟩ (fun hHeld => ?_)
                clear hK K
                refine wpAnyH_done (by kernel_rfl) ?_ _
                go_wp2_with fail
                refine ⟨⟨j + 1, _, _, by first | rfl | rw [HJW.out], hjl, HG.out, HFT.out, HE9.out, (World.cell?_setCell_other _ _ _ _ n3).trans HZ.out.1⟩, by first | exact HDN.out | (rw [HJW.out]; exact HDN.out)⟩
          · exact absurd (HBY.out x (List.mem_of_getElem? hx)) hbig
        · obtain rfl : j = l.length := by omega
          rw [List.take_length] at hD
          have HQL := Lib.hid (show QLife w wr q (mntD n l) from ⟨_, ⟨_, _, fl, hD, rfl⟩, (by
            rintro k (rfl | hk | hk)
            · have := HQW.out; omega
            · have := hK k hk; omega
            · simp [inFoot, foot] at hk), hE⟩)
          have hnot2 : ¬ ((l.length : Nat) : Int) < (l.length : Int) := by omega
          clear hD hK hE
          go_wp2_with fail
          go_ret2
          exact .inr ⟨_, rfl, HQL.out⟩
theorem QLife.wf {w0 w : World} {d : Nat} {D : Dk} (h : QLife w0 w d D) : D.Wf := by
  obtain ⟨G, ⟨fv, av, fl, h, -⟩, -⟩ := h
  exact h.wf
theorem qmount_m (w : World) (v : Value) (l : List FI) (h : ImgR w v l) (lim : Int) (hbyt : ∀ x ∈ l, x.b.length ≤ 549755813888) :
    Calls Try.prog 72 #[.agg #[v], .int .i64 lim] w fun e w' =>
      (mountE lim l ≠ 0 ∧ e = .returned (.tuple #[.pointer none, .int .i64 (mountE lim l)]) ∧ Ext Nil w w') ∨ (mountE lim l = 0 ∧ ∃ q, e = .returned (.tuple #[.pointer (some ⟨q, 0, none⟩), .int .i64 0]) ∧ QLife w w' q (mntD lim.toNat l)) := by
  by_cases h1 : ∀ i < l.length, nameOk l i
  · by_cases h2 : lim < 1 ∨ 1073741824 < lim
    · have e1 : mountE lim l = 2 := by unfold mountE; rw [if_neg (by simpa using h1), if_pos h2]
      rw [e1]
      exact (qmount_lim_m w v l h lim h1 h2).mono fun e w' hq => .inl ⟨by omega, hq⟩
    · by_cases h3 : 65536 < l.length
      · have e1 : mountE lim l = 62 := by unfold mountE; rw [if_neg (by simpa using h1), if_neg h2, if_pos h3]
        rw [e1]
        exact (qmount_many_m w v l h lim h1 (by omega) h3).mono fun e w' hq => .inl ⟨by omega, hq⟩
      · refine (qmount_rest_m w v l h lim h1 (by omega) (by omega) hbyt).mono fun e w' hq => ?_
        rcases hq with ⟨h4, h5⟩ | ⟨d, h4, h5⟩
        · have e1 : mountE lim l = 62 := by unfold mountE; rw [if_neg (by simpa using h1), if_neg h2, if_neg h3]; exact if_pos h4
          rw [e1]
          exact .inl ⟨by omega, h5⟩
        · have hu : mntSum l ≤ lim.toNat := h5.wf.used
          have e1 : mountE lim l = 0 := by unfold mountE; rw [if_neg (by simpa using h1), if_neg h2, if_neg h3, if_neg (by omega)]
          exact .inr ⟨e1, d, h4, h5⟩
  · have e1 : mountE lim l = 60 := by unfold mountE; rw [if_pos h1]
    rw [e1]
    exact (qmount_names_m w v l h lim h1).mono fun e w' hq => .inl ⟨by omega, hq⟩
end Go.Proofs.Ytnppneilbkmnfaa
namespace Go.Proofs.Ytnppneilbkmnfaa
open Go.RowKit Go.ChangeShapes
section
variable {H : Type} {enc : TypeId × Value → H} {w : World}
theorem El.files2 {v : Value} {d : DataW H} (h : El enc Try.prog w 34 [v] d) : ∃ l : List FI, ImgR w v l ∧ l.length + 1 ≤ Rows.uptoBulk d ∧ ∀ x ∈ l, x.b.length ≤ Rows.uptoBulk d := by
  obtain ⟨ces, h1, h2, h3, h4⟩ := open_row Try.underlying34 cellsF (by omega) h
  have h6 : ∃ l : List FI, l.length = ces.length ∧ ces.flatMap (·.1) = l.flatMap FI.cells ∧ (∀ x ∈ l, x.nm.length ≤ maxLen) ∧ (∀ x ∈ l, Bytes w x.v x.b) ∧ ∀ x ∈ l, x.b.length ≤ Rows.uptoBulkAll (ces.map (·.2)) := by
    clear h1 h3 h4 h
    induction ces with
    | nil => exact ⟨[], rfl, rfl, by simp, by simp, by simp⟩
    | cons c ces ih =>
      obtain ⟨x, e, hn, hb, hk⟩ := El.file (h2 c (List.mem_cons_self ..)).2
      obtain ⟨l, hl, he, hm1, hm2, hm3⟩ := ih fun c hc => h2 c (List.mem_cons_of_mem _ hc)
      refine ⟨x :: l, by simp [hl], by rw [List.flatMap_cons, List.flatMap_cons, e, he], ?_, ?_, ?_⟩
      · intro y hy
        rcases List.mem_cons.1 hy with rfl | hy
        · exact hn
        · exact hm1 y hy
      · intro y hy
        rcases List.mem_cons.1 hy with rfl | hy
        · exact hb
        · exact hm2 y hy
      · intro y hy
        simp only [List.map_cons, Rows.uptoBulkAll]
        rcases List.mem_cons.1 hy with rfl | hy
        · omega
        · have := hm3 y hy
          omega
  obtain ⟨l, hl, he, hm1, hm2, hm3⟩ := h6
  refine ⟨l, ⟨by rw [hl, ← he]; exact h1, hm1, hm2⟩, ?_, fun x hx => ?_⟩
  · rcases h3 with ⟨rfl, rfl⟩ | ⟨sp, rfl⟩
    · simp [hl, Rows.uptoBulk]
    · have := bulk_length (ces.map (·.2))
      rw [List.length_map] at this
      simp only [Rows.uptoBulk]
      omega
  · have h7 := hm3 x hx
    rcases h3 with ⟨rfl, rfl⟩ | ⟨sp, rfl⟩
    · have h8 : x.b.length ≤ 0 := h7
      omega
    · simp only [Rows.uptoBulk]
      omega
set_option maxRecDepth 100000 in
theorem El.image2 {v : List Value} {d : DataW H} (h : El enc Try.prog w 36 v d) : ∃ (u : Value) (l : List FI), v = [u] ∧ ImgR w u l ∧ l.length + 1 ≤ Rows.uptoBulk d ∧ ∀ x ∈ l, x.b.length ≤ Rows.uptoBulk d := by
  obtain ⟨f, ps, h⟩ := h
  obtain ⟨xs, n, _, hx, hl, hlen, hf⟩ := DataW.trod_struct Try.underlying36 h
  rw [cellsI] at hl
  match xs, hlen, v, hl with
  | [y0], _, [c0], _ =>
    have f0 := hf 0 _ rfl
    simp [cellsFs] at f0
    obtain ⟨l, h1, h2, h3⟩ := El.files2 ⟨n, y0.2, f0⟩
    refine ⟨c0, l, rfl, h1, ?_, fun x hx' => ?_⟩
    all_goals
      have hd : d = .agg [y0.1] := by simpa using congrArg Prod.fst hx
      rw [hd]
      simp only [Rows.uptoBulk, Rows.uptoBulkAll]
    · omega
    · have := h3 x hx'
      omega
set_option maxRecDepth 100000 in
theorem El.made2 {cs : List Value} {d : DataW H} (h : El enc Try.prog w 44 cs d) : ∃ (lim : Int) (m : Bool) (v : Value) (l : List FI), cs = [.int .i64 lim, .bool m, v] ∧ ImgR w v l ∧ l.length + 1 ≤ Rows.uptoBulk d ∧ ∀ x ∈ l, x.b.length ≤ Rows.uptoBulk d := by
  obtain ⟨f, ps, h⟩ := h
  obtain ⟨xs, n, _, hx, hl, hlen, hf⟩ := DataW.trod_struct Try.underlying44 h
  rw [cellsM] at hl
  match xs, hlen, cs, hl with
  | [y0, y1, y2], _, [c0, c1, c2], _ =>
    have f0 := hf 0 _ rfl
    have f1 := hf 1 _ rfl
    have f2 := hf 2 _ rfl
    simp [cells3, cells4, cellsI] at f0 f1 f2
    obtain ⟨lim, e0, -⟩ := El.int Try.underlying3 ⟨n, y0.2, f0⟩
    obtain ⟨m, e1⟩ := El.bool Try.underlying4 ⟨n, y1.2, f1⟩
    obtain ⟨u, l, e2, h1, h2, h3⟩ := El.image2 ⟨n, y2.2, f2⟩
    simp only [List.cons.injEq, and_true] at e0 e1 e2
    subst e0 e1 e2
    refine ⟨lim, m, c2, l, rfl, h1, ?_, fun x hx' => ?_⟩
    all_goals
      have hd : d = .agg [y0.1, y1.1, y2.1] := by simpa using congrArg Prod.fst hx
      rw [hd]
      simp only [Rows.uptoBulk, Rows.uptoBulkAll]
    · omega
    · have := h3 x hx'
      omega
end
end Go.Proofs.Ytnppneilbkmnfaa
