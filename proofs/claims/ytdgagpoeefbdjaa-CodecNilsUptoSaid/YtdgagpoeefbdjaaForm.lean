/- The call of the law CodecOneForm. Conditions: the arguments can be read; the bytes fit into memory. -/
import Derived.Test.YtdgagpoeefbdjaaFormLaw
import Derived.Test.YtdgagpoeefbdjaaApart
import Derived.Test.YtdgagpoeefbdjaaRoom
import Derived.Test.YtdgagpoeefbdjaaAgain
import Derived.Test.YtdgagpoeefbdjaaBack
import Derived.Deep.RegionHeld3
namespace Go.Proofs.Ytdgagpoeefbdjaa
open Go.RowKit

theorem var300 : varB 300 = [172, 2] := by
  rw [varB_ge (by omega), varB_lt (by omega)]
  rfl
theorem rd300 : rd4 [172, 2] = (0, 2, 300, []) := by
  have h := back4 300 (by unfold IsU64; omega) []
  rwa [var300, List.append_nil] at h

set_option maxHeartbeats 1000000 in
set_option maxRecDepth 20000 in
theorem alive_any (w : World) : Calls Try.prog 54 #[] w fun e w' => e = .returned (.bool true) ∧ Ext Nil w w' := by
  go_enter Try.func54, Try.ntmps54
  go_wp2_with fail
  refine (newWriter_any _).mono ?_
  rintro e w1 ⟨rfl, hW, hS⟩
  go_wp2_with fail
  refine (var_any w1 _ _ _ 0 hW 300 (by unfold IsU64; omega) (by unfold Fits; simp)).mono ?_
  rintro e w2 ⟨rfl, v2, hW2, hS2⟩
  have e1 : app 0 [] (varB 300) = [172, 2] := by rw [var300]; rfl
  rw [e1] at hW2
  go_wp2_with fail
  refine (out_any w2 _ _ _ hW2 (by unfold Fits; simp)).mono ?_
  rintro e w3 ⟨ao, cap, h1, h2, rfl, hO, hS3⟩
  obtain ⟨g, c, cs, rfl, rfl, -, -, -⟩ := hO.head (by simp)
  have b0 := (hO.at 0 (by simp)).1
  have b1 := (hO.at 1 (by simp)).1
  simp only [List.getElem_cons_zero, List.getElem_cons_succ] at b0 b1
  have hX3 : Ext Nil w w3 := (hS.trans hS2).1.same hS3.1
  have hB := hO.bytes
  clear h1 h2 hW hW2 hS hS2 hS3
  go_wp2_with (first
    | (go_at_call 27; refine (num_any _ _).mono ?_; rintro e w' ⟨rfl, rfl⟩))
  refine (newReader_any _ _ [172, 2] hB (by unfold Fits; simp)).mono ?_
  rintro e w4 ⟨p, v, rfl, hR, hS4⟩
  go_wp2_with fail
  refine (on_var hR).mono ?_
  rintro e w5 ⟨u, rfl, hu, hR5, hX5⟩
  rw [List.drop_zero, rd300] at hu hR5
  obtain rfl : u = .int .u64 300 := hu
  go_wp2_with (first
    | (go_at_call 49; refine (err_any hR5).mono ?_; rintro e w' ⟨rfl, rfl⟩)
    | (go_at_call 27; refine (num_any _ _).mono ?_; rintro e w' ⟨rfl, rfl⟩)
    | (go_at_call 51; refine (end_any hR5).mono ?_; rintro e w' ⟨rfl, n1, rfl⟩))
  go_ret
  exact ⟨rfl, ((hX3.same hS4.1).trans hX5 fun i hi e => by
    have e : i = p := e
    have h1 := (hS4.2 p (.inl rfl)).resolve_left fun h => h
    have h2 := hX3.size
    omega).drewN _⟩

/-- what stands behind k reads -/
theorem form_round (K A B : Int) (hA : A ≤ 9223372036854775807) (bs : List UInt8) (a : Nat) (ha : a ≤ bs.length) (h : (rdE 0 (K % 9) A B (bs.drop a)).1 = 0) :
    layB 0 (bs.take a) (K % 9) (rdE 0 (K % 9) A B (bs.drop a)).2.2.1 (rdE 0 (K % 9) A B (bs.drop a)).2.2.2 = bs.take (a + (rdE 0 (K % 9) A B (bs.drop a)).2.1) ∧
      layE 0 (K % 9) (rdE 0 (K % 9) A B (bs.drop a)).2.2.1 = 0 ∧ a + (rdE 0 (K % 9) A B (bs.drop a)).2.1 ≤ bs.length := by
  have e : rdE 0 (K % 9) A B (bs.drop a) = rdD (K % 9) A B (bs.drop a) := if_pos rfl
  rw [e] at h ⊢
  obtain ⟨h1, h2⟩ := form_any K A B hA (bs.drop a) (bs.take a) h
  have h3 := (rdD_bounds (K % 9) A B (bs.drop a) hA).1
  rw [drop_len] at h3
  refine ⟨h1.trans ?_, h2, by omega⟩
  rw [take_split]

theorem form_after {w W4 w5 w6 : World} {p q : Nat} {v u v2 : Value} {bs : List UInt8} {a : Nat} (hX4 : Ext Nil w W4) (hR4 : RdAt W4 p v bs a 0) (hS : ∀ k, PF p v k → ¬ PF q u k) (hU : ∀ k, PF q u k → w.heap.size ≤ k)
    (hE5 : Ext Nil W4.drew w5) (hS6 : Step (PF q u) w5 (PF q v2) w6) : RdAt w6 p v bs a 0 ∧ Ext Nil w w6 ∧ (∀ k, PF p v k → ¬ PF q v2 k) ∧ (∀ k, PF q v2 k → w.heap.size ≤ k) := by
  have hE4 : Ext Nil W4 w5 := (Ext.refl Nil W4).drew.same hE5
  have hR5 := hR4.ext hE4 fun _ _ h => h
  have hsz : w.heap.size ≤ w5.heap.size := (hX4.same hE4).size
  refine ⟨hR5.ext hS6.1 hS, (hX4.same hE4).trans hS6.1 fun i hi h => by have := hU i h; omega, fun k hk h => ?_, fun k hk => ?_⟩
  · rcases hS6.2 k h with h2 | h2
    · exact hS k hk h2
    · rcases hk with rfl | hk
      · have := hR5.cells.lt; omega
      · have := hR5.lt k hk; omega
  · rcases hS6.2 k hk with h2 | h2
    · exact hU k h2
    · omega

set_option maxHeartbeats 4000000 in
set_option maxRecDepth 20000 in
theorem form_walk (w : World) (xv lv : Value) (bs : List UInt8) (l : List GetD) (hb : Bytes w xv bs) (hl : Gets w lv l) (hfit : Fits (2 * bs.length + 10)) :
    Calls Try.prog 12 #[xv, lv] w fun e w' => e = .returned (.bool true) ∧ Ext Nil w w' := by
  obtain ⟨aol, capl, rfl, hlc, hlm, -⟩ := hl.open
  unfold maxLen at hlm
  obtain ⟨aox, capx, rfl, hxc, hxm, -⟩ := hb.open
  have hfit' : 2 * bs.length + 10 ≤ 1099511627776 := hfit
  go_enter Try.func12, Try.ntmps12
  go_wp2_with fail
  refine (alive_any w).mono ?_
  rintro e w0 ⟨rfl, hE0⟩
  have hb0 := hb.ext hE0 fun _ _ h => h
  have hl0 := hl.ext hE0 fun _ _ h => h
  go_wp2_with fail
  refine (newReader_any w0 _ bs hb0 (by unfold Fits; omega)).mono ?_
  rintro e w1 ⟨p, v, rfl, hR1, hS1⟩
  go_wp2_with fail
  refine (newWriter_any w1).mono ?_
  rintro e w2 ⟨rfl, hW2, hS2⟩
  have hR2 := hR1.ext hS2.1 fun _ _ h => h
  have hE2 : Ext Nil w w2 := (hE0.same hS1.1).same hS2.1
  have hp : w.heap.size ≤ p := by
    have := (hS1.2 p (.inl rfl)).resolve_left fun h => h
    have := hE0.size
    omega
  have hq : w.heap.size ≤ w1.heap.size := by have := hE0.size; have := hS1.1.size; omega
  have hsep : ∀ k, PF p v k → ¬ PF w1.heap.size (.slice none 0 0) k := by
    intro k hk hk2
    rcases hk2 with rfl | hk2
    · rcases hk with hk | hk
      · have := hR1.cells.lt; omega
      · have := hR1.lt _ hk; omega
    · simp [inFoot, foot] at hk2
  generalize w1.heap.size = q at hW2 hsep hq
  clear hR1 hS1 hS2 hE0 hb0 hl0
  go_wp2_with fail
  go_loopw [7] (fun i wr => ∃ k : Nat, k ≤ l.length ∧ i = .int .i64 k ∧ ∃ a u, RdAt wr p v bs a 0 ∧ WAt wr q u (bs.take a) 0 ∧ (∀ k, PF p v k → ¬ PF q u k) ∧ (∀ k, PF q u k → w.heap.size ≤ k) ∧ Ext Nil w wr) (fun i _ => l.length - (intOf i).toNat)
  case atStart => exact ⟨0, Nat.zero_le _, rfl, 0, _, hR2, hW2, hsep, fun k hk => by rcases hk with rfl | hk; exact hq; simp [inFoot, foot] at hk, hE2⟩
  case round =>
    obtain ⟨k, hk, rfl, a, u, hR, hW, hS, hU, hX⟩ := hrel
    clear hR2 hW2 hsep hE2 hq
    have here := hR.here
    by_cases hlt : k < l.length
    · obtain ⟨aol', capl', e, _, _, hcl⟩ := (hl.ext hX fun _ _ h => h).open
      simp only [Value.slice.injEq, true_and] at e
      obtain ⟨rfl, rfl⟩ := e
      obtain ⟨b, off, rfl, hcm⟩ := hcl (by intro e; subst e; simp at hlt)
      have hgg := hl.each l[k] (List.getElem_mem hlt)
      have hbw : b < w.heap.size := by
        obtain ⟨_, _, e, _, _, hcw⟩ := hl.open
        simp only [Value.slice.injEq, true_and] at e
        obtain ⟨rfl, rfl⟩ := e
        obtain ⟨b', off', e, hcw⟩ := hcw (by intro e; subst e; simp at hlt)
        simp only [Option.some.injEq, Addr.mk.injEq, and_true] at e
        obtain ⟨rfl, rfl⟩ := e
        exact cell_lt (hcw k hlt).1
      obtain ⟨g0, g1, g2⟩ := hcm k hlt
      clear hcm hcl
      generalize l[k] = g at *
      obtain ⟨K, A, B⟩ := g
      obtain ⟨hK, hA, hB⟩ := hgg
      simp only at g0 g1 g2 hK hA hB
      have hlaw := law_any hR K A B hK hA hB
      have hform := form_round K A B hA.2 bs a here
      have hbe := (rdE_bounds 0 (K % 9) A B (bs.drop a) hA.2)
      generalize rdE 0 (K % 9) A B (bs.drop a) = r at hlaw hform hbe
      obtain ⟨er, kk, N, X⟩ := r
      simp only [drop_len] at hlaw hform hbe
      have HF := Lib.hid hform
      have HL := Lib.hid hl
      have HS := Lib.hid hS
      have HU := Lib.hid hU
      have HBE := Lib.hid hbe
      clear hform hl hS hU hbe
      go_wp2_with (first
        | (go_at_call 50; refine (at_any hR).mono ?_; rintro e w' ⟨rfl, rfl⟩))
      refine hlaw.mono ?_
      rintro e w3 ⟨x, rfl, ⟨ao, cap, h1, h2, rfl, ho, hf⟩, hR3, hX3⟩
      clear hlaw
      simp only at hR3 h1 h2 ho hf ⊢
      have hsz := hX.size
      have hbp : ¬ One p b := fun e => by have e : b = p := e; omega
      have d0 := (hX3.alloc (.cells #[.int .u64 N, .slice ao X.length cap] 49)).cell g0 hbp
      have d1 := (hX3.alloc (.cells #[.int .u64 N, .slice ao X.length cap] 49)).cell g1 hbp
      have d2 := (hX3.alloc (.cells #[.int .u64 N, .slice ao X.length cap] 49)).cell g2 hbp
      have hA4 := At.new w3 [.int .u64 N, .slice ao X.length cap] 49
      have hR4 := hR3.alloc (.cells #[.int .u64 N, .slice ao X.length cap] 49)
      have hX4 : Ext Nil w (w3.alloc (.cells #[.int .u64 N, .slice ao X.length cap] 49)) := (hX.trans hX3 fun i hi e => by have e : i = p := e; omega).alloc _
      by_cases her : er = 0
      · subst her
        obtain ⟨hf1, hf2, hf3⟩ := HF.out rfl
        have hu : N < 18446744073709551616 := HBE.out.2.2.1
        have hW4 : WAt (w3.alloc (.cells #[.int .u64 N, .slice ao X.length cap] 49)) q u (bs.take a) 0 := (hW.ext hX3 fun k hk e => by
          have e : k = p := e
          subst e
          exact HS.out k (.inl rfl) hk).alloc _
        have hp4 : PutOk (w3.alloc (.cells #[.int .u64 N, .slice ao X.length cap] 49)) (K % 9) N (.slice ao X.length cap) X := ⟨by omega, by omega, hu, ho.bytes.alloc _⟩
        have hap : ∀ k, inFoot (.slice ao X.length cap) k → ¬ PF q u k := fun k hk hk2 => by
          have := hf k hk
          have := hW.lt k hk2
          omega
        have hw3 := hA4.lt
        have hq3 : ¬ PF q u w3.heap.size := fun h => by
          have := hW.lt _ h
          have := hX3.size
          omega
        have hbq : ¬ PF q u b := fun h => by have := HU.out b h; omega
        generalize hgq : w3.heap.size = xb at *
        have c0 := hA4.cell 0 rfl
        have c1 := hA4.cell 1 rfl
        generalize hW4w : w3.alloc (.cells #[.int .u64 N, .slice ao X.length cap] 49) = W4 at *
        go_wp2_with (first
          | (go_at_call 49; refine (err_any hR4).mono ?_; rintro e w' ⟨rfl, rfl⟩)
          | (go_at_call 27; refine (num_any _ _).mono ?_; rintro e w' ⟨rfl, rfl⟩)
          | (go_at_call 50; refine (at_any hR4).mono ?_; rintro e w' ⟨rfl, rfl⟩))
        have hWd : WAt W4.drew q u (bs.take a) 0 := hW4.ext (Ext.refl Nil _).drew fun _ _ h => h
        have hpd : PutOk W4.drew (K % 9) N (.slice ao X.length cap) X := hp4.ext (Ext.refl Nil _).drew fun _ _ h => h
        have hd0 := (Ext.refl Nil W4).drew.cell d0 fun h => h
        have hd1 := (Ext.refl Nil W4).drew.cell d1 fun h => h
        have hd2 := (Ext.refl Nil W4).drew.cell d2 fun h => h
        have hc0 := (Ext.refl Nil W4).drew.cell c0 fun h => h
        have hc1 := (Ext.refl Nil W4).drew.cell c1 fun h => h
        have hfl : Fits ((bs.take a).length + X.length + 10) := by
          have := HBE.out.2.1
          have : (bs.take a).length ≤ bs.length := by simp; omega
          unfold Fits; omega
        clear hp4 d0 d1 d2 c0 c1 hA4
        go_region_held3 (fun w' => w'.cell? ⟨b, off + k * 3, none⟩ = some (.int .i64 K) ∧ w'.cell? ⟨b, off + k * 3 + 1, none⟩ = some (.int .i64 A) ∧ w'.cell? ⟨b, off + k * 3 + 2, none⟩ = some (.int .i64 B) ∧ w'.cell? ⟨xb, 0, none⟩ = some (.int .u64 N) ∧ w'.cell? ⟨xb, 1, none⟩ = some (.slice ao X.length cap))
          (first
            | exact ⟨hd0, hd1, hd2, hc0, hc1⟩
            | exact ⟨hE5.cell hd0 fun h => h, hE5.cell hd1 fun h => h, hE5.cell hd2 fun h => h, hE5.cell hc0 fun h => h, hE5.cell hc1 fun h => h⟩
            | exact ⟨hS6.1.cell (hE5.cell hd0 fun h => h) hbq, hS6.1.cell (hE5.cell hd1 fun h => h) hbq, hS6.1.cell (hE5.cell hd2 fun h => h) hbq, hS6.1.cell (hE5.cell hc0 fun h => h) hq3, hS6.1.cell (hE5.cell hc1 fun h => h) hq3⟩)
          (first
            | (go_at_call 56; refine (again_any _ K A B N ao X.length cap hK.1 hK.2).mono ?_; rintro e w5 ⟨rfl, hE5⟩)
            | (go_at_call 31; refine (lay_any _ q u _ 0 (hWd.ext hE5 fun _ _ h => h) (K % 9) N _ X (hpd.ext hE5 fun _ _ h => h) hap hfl).mono ?_; rintro e w6 ⟨rfl, v2, hW6, hS6⟩))
        obtain ⟨hR6, hX6, hS6', hU6⟩ := form_after hX4 hR4 HS.out HU.out hE5 hS6
        rw [hf1, hf2] at hW6
        have hTl : (bs.take (a + kk)).length = a + kk := by simp; omega
        have hcut := (hb.ext hX6 fun _ _ h => h).cut (a + kk) hf3
        have hout := out_any w6 q v2 _ hW6 (by rw [hTl]; unfold Fits; omega)
        rw [hTl] at hout
        have HX6 := Lib.hid hX6
        have HS6 := Lib.hid hS6'
        have HU6 := Lib.hid hU6
        clear hS6 hE5 hWd hpd hd0 hd1 hd2 hc0 hc1 hfl hW4 hR4 hX4 hf1 hf2 HF hap hbq hq3 ho hf hX3 hR3 hR hW hX g0 g1 g2 h1 h2 hw3 hgq hW4w hbp hsz hX6 hS6' hU6 HS HU HBE hTl
        rename_i hHeld
        clear hHeld
        generalize hTT : bs.take (a + kk) = T at *
        have HTT := Lib.hid hTT
        clear hTT
        have hle : a ≤ a + kk := by omega
        generalize a + kk = n at *
        by_cases h64 : k < 64
        · go_wp2_with fail
          refine hout.mono ?_
          rintro e w7 ⟨ao7, cap7, h71, h72, rfl, hO7, hS7⟩
          have hR7 := hR6.ext hS7.1 fun _ _ h => h
          have hW7 := hW6.ext hS7.1 fun _ _ h => h
          have hX7 := HX6.out.same hS7.1
          have hB7 := hcut.ext hS7.1 fun _ _ h => h
          have hC7 : Bytes w7 (.slice ao7 n cap7) T := hO7.bytes
          clear hO7 hS7 hR6 hW6 hcut HX6 hout
          go_wp2_with (first
            | (go_at_call 27; refine (num_any _ _).mono ?_; rintro e w' ⟨rfl, rfl⟩)
            | (go_at_call 50; refine (at_any hR7).mono ?_; rintro e w' ⟨rfl, rfl⟩)
            | (go_at_call 38; refine (same_self hC7 hB7).mono ?_; rintro e w' ⟨rfl, nq, rfl⟩))
          refine ⟨⟨k + 1, by omega, by go_num, n, v2, hR7.drewN _, by rw [HTT.out]; exact hW7.ext ((Ext.refl Nil _).drewN _) fun _ _ h => h, HS6.out, HU6.out, hX7.drewN _⟩, by simp [intOf]; omega⟩
        · go_wp2_with fail
          refine hout.mono ?_
          rintro e w7 ⟨ao7, cap7, h71, h72, rfl, hO7, hS7⟩
          have hR7 := hR6.ext hS7.1 fun _ _ h => h
          have hW7 := hW6.ext hS7.1 fun _ _ h => h
          have hX7 := HX6.out.same hS7.1
          clear hO7 hS7 hR6 hW6 hcut HX6 hout
          go_wp2_with (first
            | (go_at_call 27; refine (num_any _ _).mono ?_; rintro e w' ⟨rfl, rfl⟩)
            | (go_at_call 50; refine (at_any hR7).mono ?_; rintro e w' ⟨rfl, rfl⟩))
          refine ⟨⟨k + 1, by omega, by go_num, n, v2, hR7, by rw [HTT.out]; exact hW7, HS6.out, HU6.out, hX7⟩, by simp [intOf]; omega⟩
      · have hk0 := HBE.out.2.2.2 her
        simp only [Prod.mk.injEq] at hk0
        obtain ⟨rfl, rfl, rfl⟩ := hk0
        have hne : (er != 0) = true := by rw [bne_iff_ne]; exact her
        have HE := Lib.hid her
        clear her
        simp only [Nat.add_zero] at hR4
        go_wp2_with (first
          | (go_at_call 49; refine (err_any hR4).mono ?_; rintro e w' ⟨rfl, rfl⟩)
          | (go_at_call 27; refine (num_any _ _).mono ?_; rintro e w' ⟨rfl, rfl⟩)
          | (go_at_call 50; refine (at_any hR4).mono ?_; rintro e w' ⟨rfl, rfl⟩))
        go_ret
        exact ⟨rfl, hX4⟩
    · obtain rfl : k = l.length := by omega
      have hTl : (bs.take a).length = a := by simp; omega
      have hcut := (hb.ext hX fun _ _ h => h).cut a here
      have hout := out_any wr q u _ hW (by rw [hTl]; unfold Fits; omega)
      rw [hTl] at hout
      generalize bs.take a = T at *
      have HS := Lib.hid hS
      have HU := Lib.hid hU
      clear hS hU hTl
      go_wp2_with fail
      refine hout.mono ?_
      rintro e w7 ⟨ao7, cap7, h71, h72, rfl, hO7, hS7⟩
      have hR7 := hR.ext hS7.1 fun _ _ h => h
      have hX7 := hX.same hS7.1
      have hB7 := hcut.ext hS7.1 fun _ _ h => h
      have hC7 : Bytes w7 (.slice ao7 a cap7) T := hO7.bytes
      clear hO7 hS7 hW hcut hout
      go_wp2_with (first
        | (go_at_call 27; refine (num_any _ _).mono ?_; rintro e w' ⟨rfl, rfl⟩)
        | (go_at_call 50; refine (at_any hR7).mono ?_; rintro e w' ⟨rfl, rfl⟩)
        | (go_at_call 38; refine (same_self hC7 hB7).mono ?_; rintro e w' ⟨rfl, nq, rfl⟩))
      go_ret
      exact ⟨rfl, hX7.drewN _⟩
end Go.Proofs.Ytdgagpoeefbdjaa
