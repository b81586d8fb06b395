/- The law's Book.right and Book.kept at rows that read alike. Condition: the book's rows are twins. -/
import Derived.Test.YtnppneilbkmnfaaKE
namespace Go.Proofs.Ytnppneilbkmnfaa
open Go.RowKit

theorem sameNames_q (w : World) (va vb : Value) (L : List Nm) (ha : Own w 9 1 va L.length (namesV L)) (hb : Own w 9 1 vb L.length (namesV L)) :
    Calls Try.prog 39 #[va, vb] w fun e w' => e = .returned (.bool true) ∧ ∃ n, w' = w.drewN n := by
  obtain ⟨aa, ca, rfl, ha1, ha2⟩ := Own.shape ha
  obtain ⟨ab, cb, rfl, hb1, hb2⟩ := Own.shape hb
  unfold maxLen at ha2 hb2
  have HA := Lib.hid ha; have HB := Lib.hid hb
  clear ha hb
  go_enter Try.func39, Try.ntmps39
  go_wp2_with fail
  go_loopw [5] (fun i wr => ∃ k : Nat, k ≤ L.length ∧ i = .int .i64 k ∧ (∃ n, wr = w.drewN n)) (fun i _ => L.length - (intOf i).toNat)
  case atStart => exact ⟨0, Nat.zero_le _, rfl, ⟨0, rfl⟩⟩
  case round =>
    obtain ⟨k, hk, rfl, ⟨n, rfl⟩⟩ := hrel
    by_cases hlt : k < L.length
    · obtain ⟨ga, c1, rfl, rfl, -, -, hca⟩ := names_at HA.out (by omega)
      obtain ⟨gb, c2, rfl, rfl, -, -, hcb⟩ := names_at HB.out (by omega)
      have a1 := hca k hlt
      have b1 := hcb k hlt
      clear hca hcb
      generalize L[k] = s at *
      have hne : (s == s) = true := by simp
      go_wp2_with fail
      go_quiet (fail)
      go_wp2_with fail
      exact ⟨⟨k + 1, by omega, by go_num, ⟨_, rfl⟩⟩, by simp [intOf]; omega⟩
    · obtain rfl : k = L.length := by omega
      go_wp2_with fail
      go_ret
      exact ⟨rfl, _, rfl⟩

theorem pairs_two {l : List (Value × Value)} {a b : List Value} (h1 : a = l.map Prod.fst) (h2 : b = l.map Prod.snd) {k : Nat} (hk : k < l.length) : ∃ p, p ∈ l ∧ a[k]? = some p.1 ∧ b[k]? = some p.2 := by
  subst h1
  subst h2
  exact ⟨l[k], List.getElem_mem hk, by simp [hk], by simp [hk]⟩
theorem BK.pair {w : World} {bp : Nat} {r : Nat → Value} {xs : Nat → List Value} {B N F : Nat} (h : BK w bp r xs B N F) {i j : Nat} (hi : i < 6) (hj : j < 6) {l : List (Value × Value)} (h1 : xs i = l.map Prod.fst) (h2 : xs j = l.map Prod.snd) {k : Nat} (hk : k < l.length) :
    ∃ g c g' c' p, p ∈ l ∧ l.length ≤ c + 1 ∧ l.length ≤ c' + 1 ∧ w.cell? ⟨bp, i, none⟩ = some (.slice (some ⟨g, 0, none⟩) l.length (c + 1)) ∧ w.cell? ⟨bp, j, none⟩ = some (.slice (some ⟨g', 0, none⟩) l.length (c' + 1)) ∧ w.cell? ⟨g, k, none⟩ = some p.1 ∧ w.cell? ⟨g', k, none⟩ = some p.2 := by
  obtain ⟨p, hp, q1, q2⟩ := pairs_two h1 h2 hk
  have l1 : (xs i).length = l.length := by rw [h1, List.length_map]
  have l2 : (xs j).length = l.length := by rw [h2, List.length_map]
  obtain ⟨g, c, u, -, a2, -, a4, a5, -, a6⟩ := h.elem hi (k := k) (by omega)
  obtain ⟨g', c', u', -, b2, -, b4, b5, -, b6⟩ := h.elem hj (k := k) (by omega)
  rw [l1] at a2 a6
  rw [l2] at b2 b6
  rw [q1] at a4
  rw [q2] at b4
  simp only [Option.some.injEq] at a4 b4
  exact ⟨g, c, g', c', p, hp, a6, b6, a2, b2, by rw [a4]; exact a5, by rw [b4]; exact b5⟩
theorem BK.lenAt {w : World} {bp : Nat} {r : Nat → Value} {xs : Nat → List Value} {B N F : Nat} (h : BK w bp r xs B N F) {i : Nat} (hi : i < 6) {n : Nat} (hn : (xs i).length = n) : ∃ ao cap, n ≤ cap ∧ cap ≤ maxLen ∧ w.cell? ⟨bp, i, none⟩ = some (.slice ao n cap) := by
  obtain ⟨ao, cap, -, h1, h2, h3, -⟩ := h.row hi
  subst hn
  exact ⟨ao, cap, h1, h2, h3⟩
theorem rows_n {xs : Nat → List Value} {lb ln lf : List (Value × Value)} (H : Holds6 xs lb ln lf) : (xs 0).length = lb.length ∧ (xs 1).length = lb.length ∧ (xs 2).length = ln.length ∧ (xs 3).length = ln.length ∧ (xs 4).length = lf.length ∧ (xs 5).length = lf.length := by
  obtain ⟨⟨h1, h2⟩, ⟨h3, h4⟩, h5, h6⟩ := H
  rw [h1, h2, h3, h4, h5, h6]
  simp
set_option maxRecDepth 20000 in
set_option maxHeartbeats 2000000 in
theorem right_m (w : World) (bp : Nat) (r : Nat → Value) (xs : Nat → List Value) (B N F : Nat) (X : Nat → Prop) (lb ln lf : List (Value × Value)) (h : BK w bp r xs B N F) (H : Holds6 xs lb ln lf) (hT : Twins w X lb ln lf) (hB : B ≤ lb.length) (hN : N ≤ ln.length) (hF : F ≤ lf.length) :
    Calls Try.prog 46 #[.pointer (some ⟨bp, 0, none⟩)] w fun e w' => e = .returned (.bool true) ∧ Ext Nil w w' := by
  obtain ⟨n0, n1, n2, n3, n4, n5⟩ := rows_n H
  obtain ⟨ao0, cp0, p0, q0, z0⟩ := h.lenAt (by omega) n0
  obtain ⟨ao2, cp2, p2, q2, z2⟩ := h.lenAt (by omega) n2
  obtain ⟨ao4, cp4, p4, q4, z4⟩ := h.lenAt (by omega) n4
  have z6 := h.cells.cell 6 rfl
  have z7 := h.cells.cell 7 rfl
  have z8 := h.cells.cell 8 rfl
  clear n0 n1 n2 n3 n4 n5
  unfold maxLen at q0 q2 q4
  have HB0 := Lib.hid h; have HH := Lib.hid H; have HT := Lib.hid hT; have HEW := Lib.hid (Ext.refl Nil w)
  clear h H hT
  go_enter Try.func46, Try.ntmps46
  go_wp2_with fail
  go_loopw [3] (fun i wr => ∃ k : Nat, k ≤ lb.length ∧ i = .int .i64 (k : Int) ∧ (∃ n, wr = w.drewN n)) (fun i _ => lb.length - (intOf i).toNat)
  case atStart => exact ⟨B, hB, rfl, ⟨0, rfl⟩⟩
  case round =>
    obtain ⟨k, hk, rfl, ⟨n, rfl⟩⟩ := hrel
    by_cases hlt : k < lb.length
    · have hlt2 : (k : Int) < (lb.length : Int) := by omega
      obtain ⟨g, c, g', c', p, hp, a1, a2, a3, a4, a5, a6⟩ := HB0.out.pair (i := 0) (j := 1) (by omega) (by omega) HH.out.b.1 HH.out.b.2 hlt
      obtain ⟨x, hx, hy, -⟩ := HT.out.b p hp
      obtain ⟨ax, cx, hxv, hx1, hx2, -⟩ := hx.open
      obtain ⟨ay, cy, hyv, hy1, hy2, -⟩ := hy.open
      rw [hxv] at a5 hx
      rw [hyv] at a6 hy
      have s1 := fun n => to_str (w.drewN n) _ _ (hx.drewN n)
      have s2 := fun n => to_str (w.drewN n) _ _ (hy.drewN n)
      have hbb : (x == x) = true := by simp
      clear hx hy hxv hyv hp
      clear z0
      go_wp2_with fail
      go_quiet (fail)
      go_wp2_with fail
      exact ⟨⟨k + 1, by omega, by go_num, ⟨_, rfl⟩⟩, by simp [intOf]; omega⟩
    · obtain rfl : k = lb.length := by omega
      have hno : ¬ (lb.length : Int) < (lb.length : Int) := by omega
      go_wp2_with fail
      clear hlt hno
      skip
      go_loopw [4] (fun i wr => ∃ k : Nat, k ≤ ln.length ∧ i = .int .i64 (k : Int) ∧ (∃ n, wr = w.drewN n)) (fun i _ => ln.length - (intOf i).toNat)
      case atStart => exact ⟨N, hN, rfl, ⟨_, rfl⟩⟩
      case round =>
        obtain ⟨k, hk, rfl, ⟨n, rfl⟩⟩ := hrel
        by_cases hlt : k < ln.length
        · have hlt2 : (k : Int) < (ln.length : Int) := by omega
          obtain ⟨g, c, g', c', p, hp, a1, a2, a3, a4, a5, a6⟩ := HB0.out.pair (i := 2) (j := 3) (by omega) (by omega) HH.out.n.1 HH.out.n.2 hlt
          obtain ⟨x, hx, hy, -⟩ := HT.out.n p hp
          obtain ⟨ax, cx, hxv, hx1, hx2⟩ := Own.shape hx
          obtain ⟨ay, cy, hyv, hy1, hy2⟩ := Own.shape hy
          rw [hxv] at a5 hx
          rw [hyv] at a6 hy
          have HX := Lib.hid hx; have HY := Lib.hid hy
          clear hx hy hxv hyv hp
          clear z2
          go_wp2_with fail
          go_quiet ((go_at_call 39; exact quiet_behind (sameNames_q _ _ _ _ (HX.out.ext ((Ext.refl Nil w).drewN _) fun _ _ h => h) (HY.out.ext ((Ext.refl Nil w).drewN _) fun _ _ h => h))))
          go_wp2_with fail
          exact ⟨⟨k + 1, by omega, by go_num, ⟨_, rfl⟩⟩, by simp [intOf]; omega⟩
        · obtain rfl : k = ln.length := by omega
          have hno : ¬ (ln.length : Int) < (ln.length : Int) := by omega
          go_wp2_with fail
          clear hlt hno
          go_loopw [5] (fun i wr => ∃ k : Nat, k ≤ lf.length ∧ i = .int .i64 (k : Int) ∧ Ext Nil w wr) (fun i _ => lf.length - (intOf i).toNat)
          case atStart => exact ⟨F, hF, rfl, HEW.out.drewN _⟩
          case round =>
            obtain ⟨k, hk, rfl, hX⟩ := hrel
            have z4 := hX.cell z4 fun h => h
            have z8 := hX.cell z8 fun h => h
            by_cases hlt : k < lf.length
            · have hlt2 : (k : Int) < (lf.length : Int) := by omega
              obtain ⟨g, c, g', c', p, hp, a1, a2, a3, a4, a5, a6⟩ := HB0.out.pair (i := 4) (j := 5) (by omega) (by omega) HH.out.f.1 HH.out.f.2 hlt
              obtain ⟨x, y, hx, hy, hxy, -⟩ := HT.out.f p hp
              obtain ⟨ax, cx, hxv, hx1, hx2⟩ := hx.shape
              obtain ⟨ay, cy, hyv, hy1, hy2⟩ := hy.shape
              rw [hxv] at a5 hx
              rw [hyv] at a6 hy
              have HX := Lib.hid hx; have HY := Lib.hid hy; have HX0 := Lib.hid hX
              have HXY := Lib.hid (show decide (x.map FI.pair = y.map FI.pair) = true from decide_eq_true hxy)
              have HCL := Lib.hid (fun (W : World) (e : Ext Nil w W) => And.intro (e.cell a3 fun h => h) (And.intro (e.cell a4 fun h => h) (And.intro (e.cell a5 fun h => h) (e.cell a6 fun h => h))))
              clear hx hy hxv hyv hp hX hxy a3 a4 a5 a6
              go_wp2_with fail
              refine wp_region_held_drew (S := fun w' => w'.cell? ⟨bp, 4, none⟩ = some (.slice (some ⟨g, 0, none⟩) lf.length (c + 1)) ∧ w'.cell? ⟨bp, 5, none⟩ = some (.slice (some ⟨g', 0, none⟩) lf.length (c' + 1)) ∧ w'.cell? ⟨g, k, none⟩ = some (.slice ax x.length cx) ∧ w'.cell? ⟨g', k, none⟩ = some (.slice ay y.length cy)) (by kernel_rfl) ⟨HCL.out _ HX0.out.drew |>.1, (HCL.out _ HX0.out.drew).2.1, (HCL.out _ HX0.out.drew).2.2.1, (HCL.out _ HX0.out.drew).2.2.2⟩ (fun hHeld => ?_)
              refine wpAnyH_take (i := 0) (v := .pointer (some ⟨bp, 0, none⟩)) rfl (by kernel_rfl) (by kernel_rfl) (by kernel_rfl) (fun _ _ _ h => h) (Or.inl ⟨by kernel_rfl, ?y1⟩) (by assumption) ?r1
              case y1 => (intro w hSw; have t0 := hSw.1; have t1 := hSw.2.1; have t2 := hSw.2.2.1; have t3 := hSw.2.2.2; clear hSw; go_simp)
              simp only [Act.put]
              refine wpAnyH_take (i := 1) (v := .pointer (some ⟨bp, 0, none⟩)) rfl (by kernel_rfl) (by kernel_rfl) (by kernel_rfl) (fun _ _ _ h => h) (Or.inl ⟨by kernel_rfl, ?y2⟩) (by assumption) ?r2
              case y2 => (intro w hSw; have t0 := hSw.1; have t1 := hSw.2.1; have t2 := hSw.2.2.1; have t3 := hSw.2.2.2; clear hSw; go_simp)
              simp only [Act.put]
              refine wpAnyH_take (i := 2) (v := .pointer (some ⟨bp, 4, none⟩)) rfl (by kernel_rfl) (by kernel_rfl) (by kernel_rfl) (fun _ _ _ h => h) (Or.inl ⟨by kernel_rfl, ?y3⟩) (by assumption) ?r3
              case y3 => (intro w hSw; have t0 := hSw.1; have t1 := hSw.2.1; have t2 := hSw.2.2.1; have t3 := hSw.2.2.2; clear hSw; go_simp)
              simp only [Act.put]
              refine wpAnyH_take (i := 3) (v := .slice (some ⟨g, 0, none⟩) lf.length (c + 1)) rfl (by kernel_rfl) (by kernel_rfl) (by kernel_rfl) (fun _ _ _ h => h) (Or.inl ⟨by kernel_rfl, ?y4⟩) (by assumption) ?r4
              case y4 => (intro w hSw; have t0 := hSw.1; have t1 := hSw.2.1; have t2 := hSw.2.2.1; have t3 := hSw.2.2.2; clear hSw; go_simp)
              simp only [Act.put]
              refine wpAnyH_take (i := 4) (v := .int .i64 (k : Int)) rfl (by kernel_rfl) (by kernel_rfl) (by kernel_rfl) (fun _ _ _ h => h) (Or.inl ⟨by kernel_rfl, ?y5⟩) (by assumption) ?r5
              case y5 => (intro w hSw; have t0 := hSw.1; have t1 := hSw.2.1; have t2 := hSw.2.2.1; have t3 := hSw.2.2.2; clear hSw; go_simp)
              simp only [Act.put]
              refine wpAnyH_take (i := 5) (v := .pointer (some ⟨g, k, none⟩)) rfl (by kernel_rfl) (by kernel_rfl) (by kernel_rfl) (fun _ _ _ h => h) (Or.inl ⟨by kernel_rfl, ?y6⟩) (by assumption) ?r6
              case y6 => (intro w hSw; have t0 := hSw.1; have t1 := hSw.2.1; have t2 := hSw.2.2.1; have t3 := hSw.2.2.2; clear hSw; go_simp)
              simp only [Act.put]
              refine wpAnyH_take (i := 6) (v := .slice ax x.length cx) rfl (by kernel_rfl) (by kernel_rfl) (by kernel_rfl) (fun _ _ _ h => h) (Or.inl ⟨by kernel_rfl, ?y7⟩) (by assumption) ?r7
              case y7 => (intro w hSw; have t0 := hSw.1; have t1 := hSw.2.1; have t2 := hSw.2.2.1; have t3 := hSw.2.2.2; clear hSw; go_simp)
              simp only [Act.put]
              refine wpAnyH_take (i := 7) (v := .agg #[.slice ax x.length cx]) rfl (by kernel_rfl) (by kernel_rfl) (by kernel_rfl) (fun _ _ _ h => h) (Or.inl ⟨by kernel_rfl, ?y8⟩) (by assumption) ?r8
              case y8 => (intro w hSw; have t0 := hSw.1; have t1 := hSw.2.1; have t2 := hSw.2.2.1; have t3 := hSw.2.2.2; clear hSw; go_simp)
              simp only [Act.put]
              refine wpAnyH_take (i := 8) (v := .pointer (some ⟨bp, 0, none⟩)) rfl (by kernel_rfl) (by kernel_rfl) (by kernel_rfl) (fun _ _ _ h => h) (Or.inl ⟨by kernel_rfl, ?y9⟩) (by assumption) ?r9
              case y9 => (intro w hSw; have t0 := hSw.1; have t1 := hSw.2.1; have t2 := hSw.2.2.1; have t3 := hSw.2.2.2; clear hSw; go_simp)
              simp only [Act.put]
              refine wpAnyH_take (i := 9) (v := .pointer (some ⟨bp, 0, none⟩)) rfl (by kernel_rfl) (by kernel_rfl) (by kernel_rfl) (fun _ _ _ h => h) (Or.inl ⟨by kernel_rfl, ?y10⟩) (by assumption) ?r10
              case y10 => (intro w hSw; have t0 := hSw.1; have t1 := hSw.2.1; have t2 := hSw.2.2.1; have t3 := hSw.2.2.2; clear hSw; go_simp)
              simp only [Act.put]
              refine wpAnyH_take (i := 10) (v := .pointer (some ⟨bp, 5, none⟩)) rfl (by kernel_rfl) (by kernel_rfl) (by kernel_rfl) (fun _ _ _ h => h) (Or.inl ⟨by kernel_rfl, ?y11⟩) (by assumption) ?r11
              case y11 => (intro w hSw; have t0 := hSw.1; have t1 := hSw.2.1; have t2 := hSw.2.2.1; have t3 := hSw.2.2.2; clear hSw; go_simp)
              simp only [Act.put]
              refine wpAnyH_take (i := 11) (v := .slice (some ⟨g', 0, none⟩) lf.length (c' + 1)) rfl (by kernel_rfl) (by kernel_rfl) (by kernel_rfl) (fun _ _ _ h => h) (Or.inl ⟨by kernel_rfl, ?y12⟩) (by assumption) ?r12
              case y12 => (intro w hSw; have t0 := hSw.1; have t1 := hSw.2.1; have t2 := hSw.2.2.1; have t3 := hSw.2.2.2; clear hSw; go_simp)
              simp only [Act.put]
              refine wpAnyH_take (i := 12) (v := .int .i64 (k : Int)) rfl (by kernel_rfl) (by kernel_rfl) (by kernel_rfl) (fun _ _ _ h => h) (Or.inl ⟨by kernel_rfl, ?y13⟩) (by assumption) ?r13
              case y13 => (intro w hSw; have t0 := hSw.1; have t1 := hSw.2.1; have t2 := hSw.2.2.1; have t3 := hSw.2.2.2; clear hSw; go_simp)
              simp only [Act.put]
              refine wpAnyH_take (i := 13) (v := .pointer (some ⟨g', k, none⟩)) rfl (by kernel_rfl) (by kernel_rfl) (by kernel_rfl) (fun _ _ _ h => h) (Or.inl ⟨by kernel_rfl, ?y14⟩) (by assumption) ?r14
              case y14 => (intro w hSw; have t0 := hSw.1; have t1 := hSw.2.1; have t2 := hSw.2.2.1; have t3 := hSw.2.2.2; clear hSw; go_simp)
              simp only [Act.put]
              refine wpAnyH_take (i := 14) (v := .slice ay y.length cy) rfl (by kernel_rfl) (by kernel_rfl) (by kernel_rfl) (fun _ _ _ h => h) (Or.inl ⟨by kernel_rfl, ?y15⟩) (by assumption) ?r15
              case y15 => (intro w hSw; have t0 := hSw.1; have t1 := hSw.2.1; have t2 := hSw.2.2.1; have t3 := hSw.2.2.2; clear hSw; go_simp)
              simp only [Act.put]
              refine wpAnyH_take (i := 15) (v := .agg #[.slice ay y.length cy]) rfl (by kernel_rfl) (by kernel_rfl) (by kernel_rfl) (fun _ _ _ h => h) (Or.inl ⟨by kernel_rfl, ?y16⟩) (by assumption) ?r16
              case y16 => (intro w hSw; have t0 := hSw.1; have t1 := hSw.2.1; have t2 := hSw.2.2.1; have t3 := hSw.2.2.2; clear hSw; go_simp)
              simp only [Act.put]
              refine wpAnyH_ready (rs := [16]) (by kernel_rfl) (by simp) (AllReadyH.cons rfl (fun KK' hK => ?_) AllReadyH.nil)
              go_simp
              refine (sameImage_m _ _ _ x y (HX.out.ext HX0.out.drew fun _ _ h => h) (HY.out.ext HX0.out.drew fun _ _ h => h)).mono ?_
              rintro e w5 ⟨rfl, e5⟩
              rw [HXY.out]
              have h5 := (HX0.out.drew).same e5
              have H5 := Lib.hid h5
              clear e5 h5
              go_wp2_with fail
              refine hK.out _ _ (HCL.out _ H5.out) (fun hHeld => ?_)
              clear hK KK'
              refine wpAnyH_take (i := 17) (v := .bool false) rfl (by kernel_rfl) (by kernel_rfl) (by kernel_rfl) (fun _ _ _ h => h) (Or.inl ⟨by kernel_rfl, ?y17⟩) (by assumption) ?r17
              case y17 => (intro w hSw; have t0 := hSw.1; have t1 := hSw.2.1; have t2 := hSw.2.2.1; have t3 := hSw.2.2.2; clear hSw; go_simp)
              simp only [Act.put]
              refine wpAnyH_done (by kernel_rfl) ?_ _
              clear hHeld
              go_simp
              go_wp2_with fail
              exact ⟨⟨k + 1, by omega, by go_num, H5.out⟩, by simp [intOf]; omega⟩
            · obtain rfl : k = lf.length := by omega
              have hno : ¬ (lf.length : Int) < (lf.length : Int) := by omega
              have HX0 := Lib.hid hX
              clear hX
              go_wp2_with fail
              go_ret
              exact ⟨rfl, HX0.out⟩
set_option maxRecDepth 20000 in
set_option maxHeartbeats 2000000 in
theorem kept_m (w : World) (bp : Nat) (r : Nat → Value) (xs : Nat → List Value) (X : Nat → Prop) (lb ln lf : List (Value × Value)) (h : BK w bp r xs lb.length ln.length lf.length) (H : Holds6 xs lb ln lf) (hT : Twins w X lb ln lf) :
    Calls Try.prog 48 #[.pointer (some ⟨bp, 0, none⟩)] w fun e w' => e = .returned (.bool true) ∧ Ext Nil w w' := by
  obtain ⟨n0, n1, n2, n3, n4, n5⟩ := rows_n H
  obtain ⟨ao0, cp0, p0, q0, z0⟩ := h.lenAt (by omega) n0
  obtain ⟨ao2, cp2, p2, q2, z2⟩ := h.lenAt (by omega) n2
  obtain ⟨ao4, cp4, p4, q4, z4⟩ := h.lenAt (by omega) n4
  have z6 := h.cells.cell 6 rfl
  have z7 := h.cells.cell 7 rfl
  have z8 := h.cells.cell 8 rfl
  clear n0 n1 n2 n3 n4 n5
  unfold maxLen at q0 q2 q4
  have HB0 := Lib.hid h; have HH := Lib.hid H; have HT := Lib.hid hT; have HEW := Lib.hid (Ext.refl Nil w)
  clear h H hT
  go_enter Try.func48, Try.ntmps48
  go_wp2_with fail
  go_loopw [3] (fun i wr => ∃ k : Nat, k ≤ lb.length ∧ i = .int .i64 (k : Int) ∧ (∃ n, wr = w.drewN n)) (fun i _ => lb.length - (intOf i).toNat)
  case atStart => exact ⟨0, Nat.zero_le _, rfl, ⟨0, rfl⟩⟩
  case round =>
    obtain ⟨k, hk, rfl, ⟨n, rfl⟩⟩ := hrel
    by_cases hlt : k < lb.length
    · have hlt2 : (k : Int) < (lb.length : Int) := by omega
      obtain ⟨g, c, g', c', p, hp, a1, a2, a3, a4, a5, a6⟩ := HB0.out.pair (i := 0) (j := 1) (by omega) (by omega) HH.out.b.1 HH.out.b.2 hlt
      obtain ⟨x, hx, hy, -⟩ := HT.out.b p hp
      obtain ⟨ax, cx, hxv, hx1, hx2, -⟩ := hx.open
      obtain ⟨ay, cy, hyv, hy1, hy2, -⟩ := hy.open
      rw [hxv] at a5 hx
      rw [hyv] at a6 hy
      have s1 := fun n => to_str (w.drewN n) _ _ (hx.drewN n)
      have s2 := fun n => to_str (w.drewN n) _ _ (hy.drewN n)
      have hbb : (x == x) = true := by simp
      clear hx hy hxv hyv hp
      clear z0
      go_wp2_with fail
      go_quiet (fail)
      go_wp2_with fail
      exact ⟨⟨k + 1, by omega, by go_num, ⟨_, rfl⟩⟩, by simp [intOf]; omega⟩
    · obtain rfl : k = lb.length := by omega
      have hno : ¬ (lb.length : Int) < (lb.length : Int) := by omega
      go_wp2_with fail
      clear hlt hno
      skip
      go_loopw [4] (fun i wr => ∃ k : Nat, k ≤ ln.length ∧ i = .int .i64 (k : Int) ∧ (∃ n, wr = w.drewN n)) (fun i _ => ln.length - (intOf i).toNat)
      case atStart => exact ⟨0, Nat.zero_le _, rfl, ⟨_, rfl⟩⟩
      case round =>
        obtain ⟨k, hk, rfl, ⟨n, rfl⟩⟩ := hrel
        by_cases hlt : k < ln.length
        · have hlt2 : (k : Int) < (ln.length : Int) := by omega
          obtain ⟨g, c, g', c', p, hp, a1, a2, a3, a4, a5, a6⟩ := HB0.out.pair (i := 2) (j := 3) (by omega) (by omega) HH.out.n.1 HH.out.n.2 hlt
          obtain ⟨x, hx, hy, -⟩ := HT.out.n p hp
          obtain ⟨ax, cx, hxv, hx1, hx2⟩ := Own.shape hx
          obtain ⟨ay, cy, hyv, hy1, hy2⟩ := Own.shape hy
          rw [hxv] at a5 hx
          rw [hyv] at a6 hy
          have HX := Lib.hid hx; have HY := Lib.hid hy
          clear hx hy hxv hyv hp
          clear z2
          go_wp2_with fail
          go_quiet ((go_at_call 39; exact quiet_behind (sameNames_q _ _ _ _ (HX.out.ext ((Ext.refl Nil w).drewN _) fun _ _ h => h) (HY.out.ext ((Ext.refl Nil w).drewN _) fun _ _ h => h))))
          go_wp2_with fail
          exact ⟨⟨k + 1, by omega, by go_num, ⟨_, rfl⟩⟩, by simp [intOf]; omega⟩
        · obtain rfl : k = ln.length := by omega
          have hno : ¬ (ln.length : Int) < (ln.length : Int) := by omega
          go_wp2_with fail
          clear hlt hno
          go_loopw [5] (fun i wr => ∃ k : Nat, k ≤ lf.length ∧ i = .int .i64 (k : Int) ∧ Ext Nil w wr) (fun i _ => lf.length - (intOf i).toNat)
          case atStart => exact ⟨0, Nat.zero_le _, rfl, HEW.out.drewN _⟩
          case round =>
            obtain ⟨k, hk, rfl, hX⟩ := hrel
            have z4 := hX.cell z4 fun h => h
            have z8 := hX.cell z8 fun h => h
            by_cases hlt : k < lf.length
            · have hlt2 : (k : Int) < (lf.length : Int) := by omega
              obtain ⟨g, c, g', c', p, hp, a1, a2, a3, a4, a5, a6⟩ := HB0.out.pair (i := 4) (j := 5) (by omega) (by omega) HH.out.f.1 HH.out.f.2 hlt
              obtain ⟨x, y, hx, hy, hxy, -⟩ := HT.out.f p hp
              obtain ⟨ax, cx, hxv, hx1, hx2⟩ := hx.shape
              obtain ⟨ay, cy, hyv, hy1, hy2⟩ := hy.shape
              rw [hxv] at a5 hx
              rw [hyv] at a6 hy
              have HX := Lib.hid hx; have HY := Lib.hid hy; have HX0 := Lib.hid hX
              have HXY := Lib.hid (show decide (x.map FI.pair = y.map FI.pair) = true from decide_eq_true hxy)
              have HCL := Lib.hid (fun (W : World) (e : Ext Nil w W) => And.intro (e.cell a3 fun h => h) (And.intro (e.cell a4 fun h => h) (And.intro (e.cell a5 fun h => h) (e.cell a6 fun h => h))))
              clear hx hy hxv hyv hp hX hxy a3 a4 a5 a6
              go_wp2_with fail
              refine wp_region_held_drew (S := fun w' => w'.cell? ⟨bp, 4, none⟩ = some (.slice (some ⟨g, 0, none⟩) lf.length (c + 1)) ∧ w'.cell? ⟨bp, 5, none⟩ = some (.slice (some ⟨g', 0, none⟩) lf.length (c' + 1)) ∧ w'.cell? ⟨g, k, none⟩ = some (.slice ax x.length cx) ∧ w'.cell? ⟨g', k, none⟩ = some (.slice ay y.length cy)) (by kernel_rfl) ⟨HCL.out _ HX0.out.drew |>.1, (HCL.out _ HX0.out.drew).2.1, (HCL.out _ HX0.out.drew).2.2.1, (HCL.out _ HX0.out.drew).2.2.2⟩ (fun hHeld => ?_)
              refine wpAnyH_take (i := 0) (v := .pointer (some ⟨bp, 0, none⟩)) rfl (by kernel_rfl) (by kernel_rfl) (by kernel_rfl) (fun _ _ _ h => h) (Or.inl ⟨by kernel_rfl, ?y18⟩) (by assumption) ?r18
              case y18 => (intro w hSw; have t0 := hSw.1; have t1 := hSw.2.1; have t2 := hSw.2.2.1; have t3 := hSw.2.2.2; clear hSw; go_simp)
              simp only [Act.put]
              refine wpAnyH_take (i := 1) (v := .pointer (some ⟨bp, 0, none⟩)) rfl (by kernel_rfl) (by kernel_rfl) (by kernel_rfl) (fun _ _ _ h => h) (Or.inl ⟨by kernel_rfl, ?y19⟩) (by assumption) ?r19
              case y19 => (intro w hSw; have t0 := hSw.1; have t1 := hSw.2.1; have t2 := hSw.2.2.1; have t3 := hSw.2.2.2; clear hSw; go_simp)
              simp only [Act.put]
              refine wpAnyH_take (i := 2) (v := .pointer (some ⟨bp, 4, none⟩)) rfl (by kernel_rfl) (by kernel_rfl) (by kernel_rfl) (fun _ _ _ h => h) (Or.inl ⟨by kernel_rfl, ?y20⟩) (by assumption) ?r20
              case y20 => (intro w hSw; have t0 := hSw.1; have t1 := hSw.2.1; have t2 := hSw.2.2.1; have t3 := hSw.2.2.2; clear hSw; go_simp)
              simp only [Act.put]
              refine wpAnyH_take (i := 3) (v := .slice (some ⟨g, 0, none⟩) lf.length (c + 1)) rfl (by kernel_rfl) (by kernel_rfl) (by kernel_rfl) (fun _ _ _ h => h) (Or.inl ⟨by kernel_rfl, ?y21⟩) (by assumption) ?r21
              case y21 => (intro w hSw; have t0 := hSw.1; have t1 := hSw.2.1; have t2 := hSw.2.2.1; have t3 := hSw.2.2.2; clear hSw; go_simp)
              simp only [Act.put]
              refine wpAnyH_take (i := 4) (v := .int .i64 (k : Int)) rfl (by kernel_rfl) (by kernel_rfl) (by kernel_rfl) (fun _ _ _ h => h) (Or.inl ⟨by kernel_rfl, ?y22⟩) (by assumption) ?r22
              case y22 => (intro w hSw; have t0 := hSw.1; have t1 := hSw.2.1; have t2 := hSw.2.2.1; have t3 := hSw.2.2.2; clear hSw; go_simp)
              simp only [Act.put]
              refine wpAnyH_take (i := 5) (v := .pointer (some ⟨g, k, none⟩)) rfl (by kernel_rfl) (by kernel_rfl) (by kernel_rfl) (fun _ _ _ h => h) (Or.inl ⟨by kernel_rfl, ?y23⟩) (by assumption) ?r23
              case y23 => (intro w hSw; have t0 := hSw.1; have t1 := hSw.2.1; have t2 := hSw.2.2.1; have t3 := hSw.2.2.2; clear hSw; go_simp)
              simp only [Act.put]
              refine wpAnyH_take (i := 6) (v := .slice ax x.length cx) rfl (by kernel_rfl) (by kernel_rfl) (by kernel_rfl) (fun _ _ _ h => h) (Or.inl ⟨by kernel_rfl, ?y24⟩) (by assumption) ?r24
              case y24 => (intro w hSw; have t0 := hSw.1; have t1 := hSw.2.1; have t2 := hSw.2.2.1; have t3 := hSw.2.2.2; clear hSw; go_simp)
              simp only [Act.put]
              refine wpAnyH_take (i := 7) (v := .agg #[.slice ax x.length cx]) rfl (by kernel_rfl) (by kernel_rfl) (by kernel_rfl) (fun _ _ _ h => h) (Or.inl ⟨by kernel_rfl, ?y25⟩) (by assumption) ?r25
              case y25 => (intro w hSw; have t0 := hSw.1; have t1 := hSw.2.1; have t2 := hSw.2.2.1; have t3 := hSw.2.2.2; clear hSw; go_simp)
              simp only [Act.put]
              refine wpAnyH_take (i := 8) (v := .pointer (some ⟨bp, 0, none⟩)) rfl (by kernel_rfl) (by kernel_rfl) (by kernel_rfl) (fun _ _ _ h => h) (Or.inl ⟨by kernel_rfl, ?y26⟩) (by assumption) ?r26
              case y26 => (intro w hSw; have t0 := hSw.1; have t1 := hSw.2.1; have t2 := hSw.2.2.1; have t3 := hSw.2.2.2; clear hSw; go_simp)
              simp only [Act.put]
              refine wpAnyH_take (i := 9) (v := .pointer (some ⟨bp, 0, none⟩)) rfl (by kernel_rfl) (by kernel_rfl) (by kernel_rfl) (fun _ _ _ h => h) (Or.inl ⟨by kernel_rfl, ?y27⟩) (by assumption) ?r27
              case y27 => (intro w hSw; have t0 := hSw.1; have t1 := hSw.2.1; have t2 := hSw.2.2.1; have t3 := hSw.2.2.2; clear hSw; go_simp)
              simp only [Act.put]
              refine wpAnyH_take (i := 10) (v := .pointer (some ⟨bp, 5, none⟩)) rfl (by kernel_rfl) (by kernel_rfl) (by kernel_rfl) (fun _ _ _ h => h) (Or.inl ⟨by kernel_rfl, ?y28⟩) (by assumption) ?r28
              case y28 => (intro w hSw; have t0 := hSw.1; have t1 := hSw.2.1; have t2 := hSw.2.2.1; have t3 := hSw.2.2.2; clear hSw; go_simp)
              simp only [Act.put]
              refine wpAnyH_take (i := 11) (v := .slice (some ⟨g', 0, none⟩) lf.length (c' + 1)) rfl (by kernel_rfl) (by kernel_rfl) (by kernel_rfl) (fun _ _ _ h => h) (Or.inl ⟨by kernel_rfl, ?y29⟩) (by assumption) ?r29
              case y29 => (intro w hSw; have t0 := hSw.1; have t1 := hSw.2.1; have t2 := hSw.2.2.1; have t3 := hSw.2.2.2; clear hSw; go_simp)
              simp only [Act.put]
              refine wpAnyH_take (i := 12) (v := .int .i64 (k : Int)) rfl (by kernel_rfl) (by kernel_rfl) (by kernel_rfl) (fun _ _ _ h => h) (Or.inl ⟨by kernel_rfl, ?y30⟩) (by assumption) ?r30
              case y30 => (intro w hSw; have t0 := hSw.1; have t1 := hSw.2.1; have t2 := hSw.2.2.1; have t3 := hSw.2.2.2; clear hSw; go_simp)
              simp only [Act.put]
              refine wpAnyH_take (i := 13) (v := .pointer (some ⟨g', k, none⟩)) rfl (by kernel_rfl) (by kernel_rfl) (by kernel_rfl) (fun _ _ _ h => h) (Or.inl ⟨by kernel_rfl, ?y31⟩) (by assumption) ?r31
              case y31 => (intro w hSw; have t0 := hSw.1; have t1 := hSw.2.1; have t2 := hSw.2.2.1; have t3 := hSw.2.2.2; clear hSw; go_simp)
              simp only [Act.put]
              refine wpAnyH_take (i := 14) (v := .slice ay y.length cy) rfl (by kernel_rfl) (by kernel_rfl) (by kernel_rfl) (fun _ _ _ h => h) (Or.inl ⟨by kernel_rfl, ?y32⟩) (by assumption) ?r32
              case y32 => (intro w hSw; have t0 := hSw.1; have t1 := hSw.2.1; have t2 := hSw.2.2.1; have t3 := hSw.2.2.2; clear hSw; go_simp)
              simp only [Act.put]
              refine wpAnyH_take (i := 15) (v := .agg #[.slice ay y.length cy]) rfl (by kernel_rfl) (by kernel_rfl) (by kernel_rfl) (fun _ _ _ h => h) (Or.inl ⟨by kernel_rfl, ?y33⟩) (by assumption) ?r33
              case y33 => (intro w hSw; have t0 := hSw.1; have t1 := hSw.2.1; have t2 := hSw.2.2.1; have t3 := hSw.2.2.2; clear hSw; go_simp)
              simp only [Act.put]
              refine wpAnyH_ready (rs := [16]) (by kernel_rfl) (by simp) (AllReadyH.cons rfl (fun KK' hK => ?_) AllReadyH.nil)
              go_simp
              refine (sameImage_m _ _ _ x y (HX.out.ext HX0.out.drew fun _ _ h => h) (HY.out.ext HX0.out.drew fun _ _ h => h)).mono ?_
              rintro e w5 ⟨rfl, e5⟩
              rw [HXY.out]
              have h5 := (HX0.out.drew).same e5
              have H5 := Lib.hid h5
              clear e5 h5
              go_wp2_with fail
              refine hK.out _ _ (HCL.out _ H5.out) (fun hHeld => ?_)
              clear hK KK'
              refine wpAnyH_take (i := 17) (v := .bool false) rfl (by kernel_rfl) (by kernel_rfl) (by kernel_rfl) (fun _ _ _ h => h) (Or.inl ⟨by kernel_rfl, ?y34⟩) (by assumption) ?r34
              case y34 => (intro w hSw; have t0 := hSw.1; have t1 := hSw.2.1; have t2 := hSw.2.2.1; have t3 := hSw.2.2.2; clear hSw; go_simp)
              simp only [Act.put]
              refine wpAnyH_done (by kernel_rfl) ?_ _
              clear hHeld
              go_simp
              go_wp2_with fail
              exact ⟨⟨k + 1, by omega, by go_num, H5.out⟩, by simp [intOf]; omega⟩
            · obtain rfl : k = lf.length := by omega
              have hno : ¬ (lf.length : Int) < (lf.length : Int) := by omega
              have HX0 := Lib.hid hX
              clear hX
              go_wp2_with fail
              go_ret
              exact ⟨rfl, HX0.out⟩
end Go.Proofs.Ytnppneilbkmnfaa
