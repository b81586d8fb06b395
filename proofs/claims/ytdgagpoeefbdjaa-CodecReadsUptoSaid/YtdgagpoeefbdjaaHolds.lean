/- The contract of the law's book's 'holds': every answer is as its holder left it. Condition: it is a book. -/
import Derived.Test.YtdgagpoeefbdjaaNote
import Derived.Laws.BitsAllLaws
namespace Go.Proofs.Ytdgagpoeefbdjaa
open Go.RowKit

/-- the i-th element of a row of slices -/
theorem own_elem {w : World} {t : TypeId} {ao : Option Addr} {n cap : Nat} {xs : List Value} (h : Own w t 1 (.slice ao n cap) n xs) (i : Nat) (hi : i < xs.length) : ∃ g, ao = some ⟨g, 0, none⟩ ∧ w.cell? ⟨g, i, none⟩ = some xs[i] := by
  obtain ⟨h1, h2⟩ := h
  rcases h2 with ⟨ao', e, h0⟩ | ⟨g, c, cs, e, hA, g1, g2, g3, g4⟩
  · rw [h1, h0] at hi; omega
  · simp only [Value.slice.injEq] at e
    obtain ⟨rfl, -, rfl⟩ := e
    refine ⟨g, rfl, hA.cell i ?_⟩
    have : xs[i]? = some xs[i] := List.getElem?_eq_getElem hi
    rw [← this, ← g4, List.getElem?_take, if_pos (by rw [Nat.mul_one]; omega)]

theorem fullB_length (l : List UInt8) (m : UInt8) : (fullB l m).length = l.length + 40 := by simp [fullB]
theorem fullB_lo (l : List UInt8) (m : UInt8) (j : Nat) (hj : j < l.length) {p : j < (fullB l m).length} : (fullB l m)[j] = l[j] ^^^ m := by
  refine (List.getElem?_eq_some_iff.1 ?_).2
  unfold fullB
  rw [List.getElem?_append_left (by simpa using hj)]
  simp [hj]
theorem fullB_hi (l : List UInt8) (m : UInt8) (j : Nat) (hj : l.length ≤ j) {p : j < (fullB l m).length} : (fullB l m)[j] = m := by
  refine (List.getElem?_eq_some_iff.1 ?_).2
  have hp : j < l.length + 40 := by rw [fullB_length] at p; exact p
  unfold fullB
  rw [List.getElem?_append_right (by simpa using hj), List.getElem?_replicate, if_pos (by simp; omega)]
theorem same_byte (a m : UInt8) : (((a ^^^ m).toNat : Int) != bits .xor .u8 (a.toNat : Int) (m.toNat : Int)) = false := by
  rw [Go.u8_xor_nat _ _ a.toNat_lt m.toNat_lt, ← UInt8.toNat_xor]
  simp

theorem same_eq {w : World} {x y : Value} {l : List UInt8} (hx : Bytes w x l) (hy : Bytes w y l) : Calls Try.prog 38 #[x, y] w fun e w' => e = .returned (.bool true) ∧ ∃ n, w' = w.drewN n := by
  have h := same_any l l w x y hx hy
  rwa [decide_eq_true rfl] at h

/-- the k-th answer of a book, as it stands in memory -/
structure EntAt (w : World) (bg bw br bm i : Nat) (l : List UInt8) (m : UInt8) (aoa aow aog : Option Addr) (ca cw cg : Nat) : Prop where
  ga : w.cell? ⟨bg, i, none⟩ = some (.slice aoa l.length ca)
  gw : w.cell? ⟨bw, i, none⟩ = some (.slice aow l.length cw)
  gg : w.cell? ⟨br, i, none⟩ = some (.slice aog (l.length + 40) cg)
  gm : w.cell? ⟨bm, i, none⟩ = some (.int .u8 (m.toNat : Int))
  ba : Bytes w (.slice aoa l.length ca) l
  bw' : Bytes w (.slice aow l.length cw) l
  lo : ∀ (j : Nat) (hj : j < l.length), ∃ b off c off2, aow = some ⟨b, off, none⟩ ∧ w.cell? ⟨b, off + j, none⟩ = some (.int .u8 (l[j].toNat : Int)) ∧ aog = some ⟨c, off2, none⟩ ∧ w.cell? ⟨c, off2 + j, none⟩ = some (.int .u8 ((l[j] ^^^ m).toNat : Int))
  hi : ∀ (j : Nat), l.length ≤ j → j < l.length + 40 → ∃ c off2, aog = some ⟨c, off2, none⟩ ∧ w.cell? ⟨c, off2 + j, none⟩ = some (.int .u8 (m.toNat : Int))
  cl : l.length ≤ cw ∧ l.length + 40 ≤ cg ∧ l.length ≤ ca
  cm : cw ≤ maxLen ∧ cg ≤ maxLen ∧ ca ≤ maxLen

theorem Book.ent {w : World} {kb : Nat} {aog aow aor aom : Option Addr} {capg capw capr capm : Nat} {E : List Ent} (h : BookAt w kb (.slice aog E.length capg) (.slice aow E.length capw) (.slice aor E.length capr) (.slice aom E.length capm) E) (i : Nat) (hi : i < E.length) :
    ∃ bg bw br bm l m a b c ca cw cg, aog = some ⟨bg, 0, none⟩ ∧ aow = some ⟨bw, 0, none⟩ ∧ aor = some ⟨br, 0, none⟩ ∧ aom = some ⟨bm, 0, none⟩ ∧ EntAt w bg bw br bm i l m a b c ca cw cg := by
  have hR := h.rows
  have h0 : Own w 29 1 (.slice aog E.length capg) E.length (E.map Ent.a) := by have := hR.own 0 _ rfl; simpa using this
  have h1 : Own w 29 1 (.slice aow E.length capw) E.length (E.map Ent.w) := by have := hR.own 1 _ rfl; simpa using this
  have h2 : Own w 29 1 (.slice aor E.length capr) E.length (E.map Ent.g) := by have := hR.own 2 _ rfl; simpa using this
  have h3 : Own w 5 1 (.slice aom E.length capm) E.length (bvs (E.map Ent.m)) := by have := hR.own 3 _ rfl; simpa [bvs] using this
  obtain ⟨bg, rfl, c0⟩ := own_elem h0 i (by simpa using hi)
  obtain ⟨bw, rfl, c1⟩ := own_elem h1 i (by simpa using hi)
  obtain ⟨br, rfl, c2⟩ := own_elem h2 i (by simpa using hi)
  obtain ⟨bm, rfl, c3⟩ := own_elem h3 i (by simpa [bvs] using hi)
  obtain ⟨g1, g2, g3⟩ := h.each E[i] (List.getElem_mem hi)
  simp only [List.getElem_map] at c0 c1 c2
  have c3 : w.cell? ⟨bm, i, none⟩ = some (.int .u8 (E[i].m.toNat : Int)) := by simpa [bvs, bv] using c3
  generalize E[i] = d at *
  obtain ⟨da, dw, dg, l, m⟩ := d
  simp only at g1 g2 g3 c0 c1 c2 c3
  obtain ⟨a, ca, rfl, p1, p2, -⟩ := g1.open
  obtain ⟨b, cw, rfl, q1, q2, q3⟩ := g2.open
  obtain ⟨c, cg, rfl, r1, r2, r3⟩ := g3.open
  rw [fullB_length] at c2 r1
  refine ⟨bg, bw, br, bm, l, m, a, b, c, ca, cw, cg, rfl, rfl, rfl, rfl, c0, c1, c2, c3, g1, g2, fun j hj => ?_, fun j hj hj2 => ?_, ⟨q1, r1, p1⟩, ⟨q2, r2, p2⟩⟩
  · obtain ⟨x, off, rfl, hx⟩ := q3 (by intro e; subst e; simp at hj)
    obtain ⟨y, off2, rfl, hy⟩ := r3 (by intro e; have := congrArg List.length e; rw [fullB_length] at this; simp at this)
    refine ⟨x, off, y, off2, rfl, hx j hj, rfl, ?_⟩
    rw [hy j (by rw [fullB_length]; omega), fullB_lo l m j hj]
  · obtain ⟨y, off2, rfl, hy⟩ := r3 (by intro e; have := congrArg List.length e; rw [fullB_length] at this; simp at this)
    refine ⟨y, off2, rfl, ?_⟩
    rw [hy j (by rw [fullB_length]; omega), fullB_hi l m j hj]

theorem BookAt.drewN {w : World} {kb : Nat} {gv wv rv mv : Value} {E : List Ent} (h : BookAt w kb gv wv rv mv E) (n : Nat) : BookAt (w.drewN n) kb gv wv rv mv E :=
  ⟨h.rows.ext (F := Nil) ((Ext.refl _ _).drewN n) fun _ _ h => h, fun d hd => ⟨(h.each d hd).1.drewN n, (h.each d hd).2.1.drewN n, (h.each d hd).2.2.drewN n⟩, h.lt, h.off⟩

set_option maxHeartbeats 2000000 in
set_option maxRecDepth 20000 in
theorem holds_walk (w : World) (kb : Nat) (aog aow aor aom : Option Addr) (capg capw capr capm : Nat) (E : List Ent) (hn : E.length ≤ 4194304)
    (h : BookAt w kb (.slice aog E.length capg) (.slice aow E.length capw) (.slice aor E.length capr) (.slice aom E.length capm) E) :
    Calls Try.prog 34 #[.pointer (some ⟨kb, 0, none⟩)] w fun e w' => e = .returned (.bool true) ∧ ∃ n, w' = w.drewN n := by
  have c0 : w.cell? ⟨kb, 0, none⟩ = some (.slice aog E.length capg) := h.rows.cells.cell 0 rfl
  have c1 : w.cell? ⟨kb, 1, none⟩ = some (.slice aow E.length capw) := h.rows.cells.cell 1 rfl
  have c2 : w.cell? ⟨kb, 2, none⟩ = some (.slice aor E.length capr) := h.rows.cells.cell 2 rfl
  have c3 : w.cell? ⟨kb, 3, none⟩ = some (.slice aom E.length capm) := h.rows.cells.cell 3 rfl
  have HB := Lib.hid h
  clear h
  go_enter Try.func34, Try.ntmps34
  go_wp2_with fail
  go_loopw [3] (fun i wr => ∃ k : Nat, k ≤ E.length ∧ i = .int .i64 k ∧ BookAt wr kb (.slice aog E.length capg) (.slice aow E.length capw) (.slice aor E.length capr) (.slice aom E.length capm) E ∧ ∃ n, wr = w.drewN n) (fun i _ => E.length - (intOf i).toNat)
  case atStart => exact ⟨0, Nat.zero_le _, rfl, HB.out, 0, rfl⟩
  case round =>
    obtain ⟨k, hk, rfl, hBr, hN⟩ := hrel
    have HN := Lib.hid hN
    clear hN c0 c1 c2 c3 HB
    have c0 : wr.cell? ⟨kb, 0, none⟩ = some (.slice aog E.length capg) := hBr.rows.cells.cell 0 rfl
    have c1 : wr.cell? ⟨kb, 1, none⟩ = some (.slice aow E.length capw) := hBr.rows.cells.cell 1 rfl
    have c2 : wr.cell? ⟨kb, 2, none⟩ = some (.slice aor E.length capr) := hBr.rows.cells.cell 2 rfl
    have c3 : wr.cell? ⟨kb, 3, none⟩ = some (.slice aom E.length capm) := hBr.rows.cells.cell 3 rfl
    have HB := Lib.hid hBr
    clear hBr
    by_cases hlt : k < E.length
    · obtain ⟨bg, bw, br, bm, l, m, a, b, c, ca, cw, cg, rfl, rfl, rfl, rfl, hE⟩ := Book.ent HB.out k hlt
      have ga := hE.ga
      have gw := hE.gw
      have gg := hE.gg
      have gm := hE.gm
      have hba := hE.ba
      have hbw := hE.bw'
      have hlo := Lib.hid hE.lo
      have hhi := Lib.hid hE.hi
      obtain ⟨l1, l2, l3⟩ := hE.cl
      obtain ⟨m1, m2, m3⟩ := hE.cm
      unfold maxLen at m1 m2 m3
      have HE := Lib.hid hE
      clear hE
      go_wp2_with fail
      go_quiet ((go_at_call 38; exact Calls.quiet_of (same_eq (hba.drewN _) (hbw.drewN _))))
      go_wp2_with fail
      go_loopw [4] (fun v wq => ∃ j : Nat, j ≤ l.length + 40 ∧ v = .int .i64 j ∧ ∃ n, wq = wr.drewN n) (fun v _ => l.length + 40 - (intOf v).toNat)
      case atStart => exact ⟨0, Nat.zero_le _, rfl, _, rfl⟩
      case round =>
        obtain ⟨j, hj, rfl, n2, rfl⟩ := hrel
        clear hba hbw
        by_cases hj2 : j < l.length + 40
        · by_cases hj3 : j < l.length
          · obtain ⟨x, off, y, off2, rfl, hx, rfl, hy⟩ := hlo.out j hj3
            have hne := same_byte l[j] m
            clear hlo hhi HE
            generalize l[j] = bj at *
            generalize (bj ^^^ m).toNat = g at *
            generalize bj.toNat = pj at *
            generalize m.toNat = q at *
            have hge : ¬ l.length ≤ j := by omega
            have hge2 : ¬ (l.length : Int) ≤ (j : Int) := by omega
            go_wp2_with fail
            go_quiet (fail)
            go_wp2_with fail
            exact ⟨⟨j + 1, by omega, by go_num, _, rfl⟩, by simp [intOf]; omega⟩
          · obtain ⟨y, off2, rfl, hy⟩ := hhi.out j (by omega) hj2
            clear hlo hhi HE
            generalize m.toNat = q at *
            have hge : l.length ≤ j := by omega
            have hge2 : (l.length : Int) ≤ (j : Int) := by omega
            have hlt2 : ¬ (j : Int) < (l.length : Int) := by omega
            go_wp2_with fail
            go_quiet (fail)
            go_wp2_with fail
            exact ⟨⟨j + 1, by omega, by go_num, _, rfl⟩, by simp [intOf]; omega⟩
        · go_wp2_with fail
          obtain ⟨n0, hn0⟩ := HN.out
          exact ⟨⟨k + 1, by omega, by go_num, HB.out.drewN n2, n0 + n2, by rw [hn0, World.drewN_drewN]⟩, by simp [intOf]; omega⟩
    · go_wp2_with fail
      go_ret
      exact ⟨rfl, HN.out⟩
end Go.Proofs.Ytdgagpoeefbdjaa
