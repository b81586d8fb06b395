/- The law's 'book' of answers: note. Conditions: what is noted lies apart from the book; it fits into memory. -/
import Derived.Test.YtdgagpoeefbdjaaSlots
import Derived.Test.YtdgagpoeefbdjaaFull
import Derived.Deep.RegionLaw
namespace Go.Proofs.Ytdgagpoeefbdjaa
open Go.RowKit

structure Ent where
  a : Value
  w : Value
  g : Value
  l : List UInt8
  m : UInt8
def Ent.foot (e : Ent) : Nat → Prop := fun k => inFoot e.a k ∨ inFoot e.w k ∨ inFoot e.g k
def Held (E : List Ent) : Nat → Prop := fun k => ∃ e ∈ E, e.foot k
def slots (gv wv rv mv : Value) (G W R : List Value) (M : List UInt8) : List Slot := [⟨gv, 29, G⟩, ⟨wv, 29, W⟩, ⟨rv, 29, R⟩, ⟨mv, 5, bvs M⟩]

structure BookAt (w : World) (kb : Nat) (gv wv rv mv : Value) (E : List Ent) : Prop where
  rows : RowsAt w kb 35 (slots gv wv rv mv (E.map Ent.a) (E.map Ent.w) (E.map Ent.g) (E.map Ent.m))
  each : ∀ e ∈ E, Bytes w e.a e.l ∧ Bytes w e.w e.l ∧ Bytes w e.g (fullB e.l e.m)
  lt : ∀ k, Held E k → k < w.heap.size
  off : ∀ k, Held E k → ¬ RowsF kb (slots gv wv rv mv (E.map Ent.a) (E.map Ent.w) (E.map Ent.g) (E.map Ent.m)) k
/-- the blocks of a book -/
def BookF (kb : Nat) (gv wv rv mv : Value) (E : List Ent) : Nat → Prop := fun k => RowsF kb (slots gv wv rv mv (E.map Ent.a) (E.map Ent.w) (E.map Ent.g) (E.map Ent.m)) k ∨ Held E k
/-- a book of some answers; F: its blocks -/
def Book (w : World) (kb : Nat) (n : Nat) (F : Nat → Prop) : Prop := ∃ gv wv rv mv E, E.length = n ∧ BookAt w kb gv wv rv mv E ∧ F = BookF kb gv wv rv mv E

theorem Book.lt {w : World} {kb n : Nat} {F : Nat → Prop} (h : Book w kb n F) : ∀ k, F k → k < w.heap.size := by
  obtain ⟨gv, wv, rv, mv, E, rfl, h, rfl⟩ := h
  intro k hk
  rcases hk with hk | hk
  · exact h.rows.lt k hk
  · exact h.lt k hk
theorem Book.ext {G : Nat → Prop} {w w' : World} {kb n : Nat} {F : Nat → Prop} (h : Book w kb n F) (e : Ext G w w') (hF : Sep F G) : Book w' kb n F := by
  obtain ⟨gv, wv, rv, mv, E, rfl, h, rfl⟩ := h
  refine ⟨gv, wv, rv, mv, E, rfl, ⟨h.rows.ext e fun k hk => hF k (.inl hk), fun d hd => ?_, fun k hk => Nat.lt_of_lt_of_le (h.lt k hk) e.size, h.off⟩, rfl⟩
  obtain ⟨h1, h2, h3⟩ := h.each d hd
  exact ⟨h1.ext e fun k hk => hF k (.inr ⟨d, hd, .inl hk⟩), h2.ext e fun k hk => hF k (.inr ⟨d, hd, .inr (.inl hk)⟩), h3.ext e fun k hk => hF k (.inr ⟨d, hd, .inr (.inr hk)⟩)⟩

theorem info_list : (Try.prog.info? 29).map (fun i => (i.zero, i.size, i.bytes)) = some (some (.slice none 0 0), 1, 24) := by kernel_rfl

/-- the slice of one slice that a literal lays, as what is appended -/
theorem src_one (w : World) (x : Value) (hx : x.oneCell' = true) : Src Try.prog 1 33 (.slice (some ⟨w.heap.size, 0, none⟩) 1 1) 1 [x] (w.alloc (.cells #[x] 29 (0, 0))) :=
  Reads.src (P := Try.prog) (Reads.one w [x] 29) Try.underlying33 (by intro u hu; simp at hu; subst hu; exact hx)

/-- the mark of a new answer -/
def markB (n : Nat) : UInt8 := UInt8.ofNat (1 + n % 250)
theorem markB_toNat (n : Nat) : ((markB n).toNat : Int) = 1 + (n : Int) % 250 := by
  unfold markB
  rw [UInt8.toNat_ofNat']
  omega


theorem up0 {w w1 : World} {kb : Nat} {gv wv rv mv v' : Value} {G W R : List Value} {M : List UInt8} {x : Value} (hR : RowsAt w kb 35 (slots gv wv rv mv G W R M)) (hst : Step (inFoot gv) w (inFoot v') w1) (hown : Own w1 29 1 v' (G.length + 1) (G ++ [x])) :
    RowsAt (w1.setCell ⟨kb, 0, none⟩ v') kb 35 (slots v' wv rv mv (G ++ [x]) W R M) ∧ Step (RowsF kb (slots gv wv rv mv G W R M)) w (RowsF kb (slots v' wv rv mv (G ++ [x]) W R M)) (w1.setCell ⟨kb, 0, none⟩ v') ∧
      w1.cell? ⟨kb, 0, none⟩ = some gv ∧ w1.frozen? ⟨kb, 0, none⟩ = false := by
  have h := hR.push 0 _ rfl hst (xs' := G ++ [x]) (by simpa [OwnB, bvs] using hown)
  have hc := hR.cells.ext hst.1 (hR.far 0 _ rfl)
  exact ⟨h.1, h.2, hc.cell 0 rfl, hc.frozen 0 (by simp [slots])⟩

theorem up1 {w w1 : World} {kb : Nat} {gv wv rv mv v' : Value} {G W R : List Value} {M : List UInt8} {x : Value} (hR : RowsAt w kb 35 (slots gv wv rv mv G W R M)) (hst : Step (inFoot wv) w (inFoot v') w1) (hown : Own w1 29 1 v' (W.length + 1) (W ++ [x])) :
    RowsAt (w1.setCell ⟨kb, 1, none⟩ v') kb 35 (slots gv v' rv mv G (W ++ [x]) R M) ∧ Step (RowsF kb (slots gv wv rv mv G W R M)) w (RowsF kb (slots gv v' rv mv G (W ++ [x]) R M)) (w1.setCell ⟨kb, 1, none⟩ v') ∧
      w1.cell? ⟨kb, 1, none⟩ = some wv ∧ w1.frozen? ⟨kb, 1, none⟩ = false := by
  have h := hR.push 1 _ rfl hst (xs' := W ++ [x]) (by simpa [OwnB, bvs] using hown)
  have hc := hR.cells.ext hst.1 (hR.far 1 _ rfl)
  exact ⟨h.1, h.2, hc.cell 1 rfl, hc.frozen 1 (by simp [slots])⟩

theorem up2 {w w1 : World} {kb : Nat} {gv wv rv mv v' : Value} {G W R : List Value} {M : List UInt8} {x : Value} (hR : RowsAt w kb 35 (slots gv wv rv mv G W R M)) (hst : Step (inFoot rv) w (inFoot v') w1) (hown : Own w1 29 1 v' (R.length + 1) (R ++ [x])) :
    RowsAt (w1.setCell ⟨kb, 2, none⟩ v') kb 35 (slots gv wv v' mv G W (R ++ [x]) M) ∧ Step (RowsF kb (slots gv wv rv mv G W R M)) w (RowsF kb (slots gv wv v' mv G W (R ++ [x]) M)) (w1.setCell ⟨kb, 2, none⟩ v') ∧
      w1.cell? ⟨kb, 2, none⟩ = some rv ∧ w1.frozen? ⟨kb, 2, none⟩ = false := by
  have h := hR.push 2 _ rfl hst (xs' := R ++ [x]) (by simpa [OwnB, bvs] using hown)
  have hc := hR.cells.ext hst.1 (hR.far 2 _ rfl)
  exact ⟨h.1, h.2, hc.cell 2 rfl, hc.frozen 2 (by simp [slots])⟩

theorem up3 {w w1 : World} {kb : Nat} {gv wv rv mv v' : Value} {G W R : List Value} {M : List UInt8} {x : UInt8} (hR : RowsAt w kb 35 (slots gv wv rv mv G W R M)) (hst : Step (inFoot mv) w (inFoot v') w1) (hown : OwnB w1 v' (M ++ [x])) :
    RowsAt (w1.setCell ⟨kb, 3, none⟩ v') kb 35 (slots gv wv rv v' G W R (M ++ [x])) ∧ Step (RowsF kb (slots gv wv rv mv G W R M)) w (RowsF kb (slots gv wv rv v' G W R (M ++ [x]))) (w1.setCell ⟨kb, 3, none⟩ v') ∧
      w1.cell? ⟨kb, 3, none⟩ = some mv ∧ w1.frozen? ⟨kb, 3, none⟩ = false := by
  have h := hR.push 3 _ rfl hst (xs' := bvs (M ++ [x])) (by simpa [OwnB, bvs] using hown)
  have hc := hR.cells.ext hst.1 (hR.far 3 _ rfl)
  exact ⟨h.1, h.2, hc.cell 3 rfl, hc.frozen 3 (by simp [slots])⟩

theorem step_append_bytes {ops : Array Oper} {o : Oper} {a : Act} {K : Act → World → Prop} {Q : Exit → Act → World → Prop} {E : Prop} {w : World} {ao : Option Addr} {m : List UInt8} {tx : TypeId} {vx : Value}
    (hsrc : Src Try.prog 1 tx vx m.length (bvs m) w) (hfit : Fits m.length) (hgd : o.guard = none) (s x : Operand)
    (ho : o.op = .call { callee := .builtin .append, args := #[s, x], argTypes := #[29, tx] }) (hs : a.eval s = .slice ao 0 0) (hx : a.eval x = vx)
    (h : ∀ ao cap w', m.length ≤ cap → cap ≤ maxLen → OwnB w' (.slice ao m.length cap) m → Step Nil w (inFoot (.slice ao m.length cap)) w' →
      K (a.put o.dst (.slice ao m.length cap)) w') : if Region.wanted o (yielded ops a.tmps) = true then Oper.wp Try.prog o a w K Q else E := by
  have hf : m.length ≤ 1099511627776 := hfit
  refine step_append_row info_u8 rfl Try.underlying29 (Own.none w _ _ ao) hsrc (by unfold maxLen; omega) (by omega) hgd s x ho hs hx ?_
  intro ao2 cap w' h1 h2 h3 h4
  simp only [Nat.zero_add, List.nil_append] at h1 h2 h3 h4 ⊢
  refine h ao2 cap w' h1 h2 h3 ⟨h4.1.mono fun k _ hk => ?_, fun k hk => (h4.2 k hk).imp (fun hk => ?_) id⟩ <;> cases ao <;> simp [inFoot, foot] at hk

set_option maxHeartbeats 1000000 in
set_option maxRecDepth 20000 in
theorem note_walk (w : World) (kb : Nat) (aog aow aor aom : Option Addr) (capg capw capr capm : Nat) (G W R : List Value) (M : List UInt8) (av bv' cv : Value) (l : List UInt8)
    (hR : RowsAt w kb 35 (slots (.slice aog G.length capg) (.slice aow W.length capw) (.slice aor R.length capr) (.slice aom M.length capm) G W R M))
    (hG : G.length ≤ 4194304) (hW : W.length ≤ 4194304) (hRl : R.length ≤ 4194304) (hM : M.length ≤ 4194304) (hfit : Fits (l.length + 40)) (ha : Bytes w av l) (hb : OwnB w bv' l) (hc : Bytes w cv l)
    (hbF : ∀ k, inFoot bv' k → ¬ RowsF kb (slots (.slice aog G.length capg) (.slice aow W.length capw) (.slice aor R.length capr) (.slice aom M.length capm) G W R M) k)
    (hcF : ∀ k, inFoot cv k → ¬ RowsF kb (slots (.slice aog G.length capg) (.slice aow W.length capw) (.slice aor R.length capr) (.slice aom M.length capm) G W R M) k) :
    Calls Try.prog 47 #[.pointer (some ⟨kb, 0, none⟩), av, bv', cv] w fun e w' => e = .returned (.tuple #[]) ∧ ∃ gv' wv' rv' mv' wx gx, RowsAt w' kb 35 (slots gv' wv' rv' mv' (G ++ [av]) (W ++ [wx]) (R ++ [gx]) (M ++ [markB M.length])) ∧ Bytes w' wx l ∧ Bytes w' gx (fullB l (markB M.length)) ∧
      Step (fun k => RowsF kb (slots (.slice aog G.length capg) (.slice aow W.length capw) (.slice aor R.length capr) (.slice aom M.length capm) G W R M) k ∨ inFoot bv' k) w (fun k => RowsF kb (slots gv' wv' rv' mv' (G ++ [av]) (W ++ [wx]) (R ++ [gx]) (M ++ [markB M.length])) k ∨ inFoot gx k) w' ∧
      Sep (RowsF kb (slots gv' wv' rv' mv' (G ++ [av]) (W ++ [wx]) (R ++ [gx]) (M ++ [markB M.length]))) (inFoot gx) ∧ Sep (RowsF kb (slots gv' wv' rv' mv' (G ++ [av]) (W ++ [wx]) (R ++ [gx]) (M ++ [markB M.length]))) (inFoot wx) ∧
      (∀ k, inFoot wx k → w.heap.size ≤ k ∧ k < w'.heap.size) ∧ (∀ k, inFoot gx k → k < w'.heap.size) := by
  obtain ⟨aoa, capa, rfl, -, -, -⟩ := ha.open
  obtain ⟨aob, capb, rfl, -, -⟩ := Own.shape hb
  obtain ⟨aoc, capc, rfl, -, -, -⟩ := hc.open
  have hfit' : l.length + 40 ≤ 1099511627776 := hfit
  have c0 := hR.cells.cell 0 rfl
  have hRA := hR.ext (F := Nil) ((Ext.refl _ _).alloc (.cells #[.slice aoa l.length capa] 29 (0, 0))) fun _ _ h => h
  have hsA := src_one w (.slice aoa l.length capa) rfl
  go_enter Try.func47, Try.ntmps47
  go_wp2_with (at_builtin; refine wpList_append_row info_list rfl Try.underlying33 (hRA.own 0 _ rfl) hsA (by unfold maxLen; simp; omega) (by simp; omega) rfl _ _ rfl rfl rfl ?_; intro ao1 cap1 w1 q1 q2 q3 q4; have hU1 := up0 hRA q4 q3; have d0 := hU1.2.2.1; have f0 := hU1.2.2.2)
  have hR1 := hU1.1
  have hS1 := (step_alloc (RowsF kb (slots (.slice aog G.length capg) (.slice aow W.length capw) (.slice aor R.length capr) (.slice aom M.length capm) G W R M)) w (.cells #[.slice aoa l.length capa] 29 (0, 0))).trans hU1.2.1
  generalize w1.setCell ⟨kb, 0, none⟩ (.slice ao1 (G.length + 1) cap1) = W1 at *
  clear hU1 d0 f0 q3 q4 hsA hRA c0
  have hc1 := hc.ext hS1.1 hcF
  have c1 : W1.cell? ⟨kb, 1, none⟩ = some (.slice aow W.length capw) := hR1.cells.cell 1 rfl
  have hl1 := hR1.cells.lt
  go_region_law (first
    | (refine step_append_bytes (Reads.src (P := Try.prog) (hc1.ext ((Ext.refl Nil _).alloc (.cells #[] 5 (0, 0))).drew fun _ _ h => h) Try.underlying29 (bvs_one l)) (by unfold Fits; omega) rfl _ _ rfl rfl rfl ?_; intro ao2 cap2 w2 q21 q22 q23 q24; have hA2 := (hR1.ext (F := Nil) ((Ext.refl Nil _).alloc (.cells #[] 5 (0, 0))).drew fun _ _ h => h).ext q24.1 fun _ _ h => h; have c12 : w2.cell? ⟨kb, 1, none⟩ = some (.slice aow W.length capw) := hA2.cells.cell 1 rfl; have hl2 := hA2.cells.lt)
    | (refine step_append_row info_list rfl Try.underlying33 ((hA2.ext (F := Nil) ((Ext.refl _ _).alloc (.cells #[.slice ao2 l.length cap2] 29 (0, 0))) fun _ _ h => h).own 1 _ rfl) (src_one w2 (.slice ao2 l.length cap2) rfl) (by unfold maxLen; simp; omega) (by simp; omega) rfl _ _ rfl rfl rfl ?_; intro ao3 cap3 w3 q31 q32 q33 q34; have hU3 := up1 (hA2.ext (F := Nil) ((Ext.refl _ _).alloc (.cells #[.slice ao2 l.length cap2] 29 (0, 0))) fun _ _ h => h) q34 q33; have d1 := hU3.2.2.1; have f1 := hU3.2.2.2))
  all_goals
    have hR3 : RowsAt (w3.setCell ⟨kb, 1, none⟩ (.slice ao3 (W.length + 1) cap3)) kb 35 (slots (.slice ao1 (G.length + 1) cap1) (.slice ao3 (W.length + 1) cap3) (.slice aor R.length capr) (.slice aom M.length capm) (G ++ [.slice aoa l.length capa]) (W ++ [.slice ao2 l.length cap2]) R M) := hU3.1
    have hlw := q23.lt
    have hS2 : Step Nil W1 (inFoot (.slice ao2 l.length cap2)) w2 := ((step_alloc Nil W1 (.cells #[] 5 (0, 0))).trans (⟨(Ext.refl _ _).drew, fun _ h => .inl h⟩ : Step Nil _ Nil _)).trans q24
    have hUs : Step (RowsF kb (slots (.slice ao1 (G.length + 1) cap1) (.slice aow W.length capw) (.slice aor R.length capr) (.slice aom M.length capm) (G ++ [.slice aoa l.length capa]) W R M)) w2 (RowsF kb (slots (.slice ao1 (G.length + 1) cap1) (.slice ao3 (W.length + 1) cap3) (.slice aor R.length capr) (.slice aom M.length capm) (G ++ [.slice aoa l.length capa]) (W ++ [.slice ao2 l.length cap2]) R M)) (w3.setCell ⟨kb, 1, none⟩ (.slice ao3 (W.length + 1) cap3)) := (step_alloc _ _ _).trans hU3.2.1
    have hS3 : Step (RowsF kb (slots (.slice aog G.length capg) (.slice aow W.length capw) (.slice aor R.length capr) (.slice aom M.length capm) G W R M)) w (RowsF kb (slots (.slice ao1 (G.length + 1) cap1) (.slice ao3 (W.length + 1) cap3) (.slice aor R.length capr) (.slice aom M.length capm) (G ++ [.slice aoa l.length capa]) (W ++ [.slice ao2 l.length cap2]) R M)) (w3.setCell ⟨kb, 1, none⟩ (.slice ao3 (W.length + 1) cap3)) := (hS1.trans (step_any_nil hS2.1)).trans hUs
    have hwant1 : Sep (inFoot (.slice ao2 l.length cap2)) (RowsF kb (slots (.slice ao1 (G.length + 1) cap1) (.slice aow W.length capw) (.slice aor R.length capr) (.slice aom M.length capm) (G ++ [.slice aoa l.length capa]) W R M)) := hS2.sep (fun _ h => h.elim) hR1.lt
    have hwant3 : Sep (RowsF kb (slots (.slice ao1 (G.length + 1) cap1) (.slice ao3 (W.length + 1) cap3) (.slice aor R.length capr) (.slice aom M.length capm) (G ++ [.slice aoa l.length capa]) (W ++ [.slice ao2 l.length cap2]) R M)) (inFoot (.slice ao2 l.length cap2)) := hUs.sep hwant1.symm hlw
    have hB2 : Bytes (w3.setCell ⟨kb, 1, none⟩ (.slice ao3 (W.length + 1) cap3)) (.slice ao2 l.length cap2) l := q23.bytes.ext hUs.1 hwant1
    have hnew : ∀ k, inFoot (.slice ao2 l.length cap2) k → w.heap.size ≤ k := fun k hk => by
      have := (hS2.2 k hk).resolve_left fun h => h
      have := hS1.1.size
      omega
    have hlw3 : ∀ k, inFoot (.slice ao2 l.length cap2) k → k < (w3.setCell ⟨kb, 1, none⟩ (.slice ao3 (W.length + 1) cap3)).heap.size := fun k hk => Nat.lt_of_lt_of_le (hlw k hk) hUs.1.size
    generalize w3.setCell ⟨kb, 1, none⟩ (.slice ao3 (W.length + 1) cap3) = W3 at *
    clear hU3 d1 f1 hA2 c12 hl2 q33 q34 c1 hl1 hR1 hS1 q21 q22 q23 q24 hS2 hUs hlw hwant1 hc1
    have c3 : W3.cell? ⟨kb, 3, none⟩ = some (.slice aom M.length capm) := hR3.cells.cell 3 rfl
    have hl3 := hR3.cells.lt
    have hmb := Bytes.one W3 (n := (1 : Int) + (M.length : Int) % 250) (by omega) (by omega) 5
    have hmt : toB ((1 : Int) + (M.length : Int) % 250) = markB M.length := by unfold toB markB; congr 1
    rw [hmt] at hmb
    have hmo : OwnB (W3.alloc (.cells #[.int .u8 ((1 : Int) + (M.length : Int) % 250)] 5)) (.slice aom M.length capm) M := by
      have := (hR3.ext (F := Nil) ((Ext.refl _ _).alloc (.cells #[.int .u8 ((1 : Int) + (M.length : Int) % 250)] 5)) fun _ _ h => h).own 3 _ rfl
      simpa [OwnB, bvs] using this
    have hms := Reads.src (P := Try.prog) hmb Try.underlying29 (bvs_one _)
    have hR3A := hR3.ext (F := Nil) ((Ext.refl _ _).alloc (.cells #[.int .u8 ((1 : Int) + (M.length : Int) % 250)] 5)) fun _ _ h => h
    go_wp2_with (at_builtin; refine wpList_append_bytes hmo hms (by unfold Fits; simp; omega) rfl _ _ rfl rfl rfl ?_; simp only [List.length_singleton]; intro ao4 cap4 w4 q41 q42 q43 q44; have hU4 := up3 hR3A q44 q43; have d3 := hU4.2.2.1; have f3 := hU4.2.2.2)
    have hR4 : RowsAt (w4.setCell ⟨kb, 3, none⟩ (.slice ao4 (M.length + 1) cap4)) kb 35 (slots (.slice ao1 (G.length + 1) cap1) (.slice ao3 (W.length + 1) cap3) (.slice aor R.length capr) (.slice ao4 (M.length + 1) cap4) (G ++ [.slice aoa l.length capa]) (W ++ [.slice ao2 l.length cap2]) R (M ++ [markB M.length])) := hU4.1
    have hU43 : Step (RowsF kb (slots (.slice ao1 (G.length + 1) cap1) (.slice ao3 (W.length + 1) cap3) (.slice aor R.length capr) (.slice aom M.length capm) (G ++ [.slice aoa l.length capa]) (W ++ [.slice ao2 l.length cap2]) R M)) W3 (RowsF kb (slots (.slice ao1 (G.length + 1) cap1) (.slice ao3 (W.length + 1) cap3) (.slice aor R.length capr) (.slice ao4 (M.length + 1) cap4) (G ++ [.slice aoa l.length capa]) (W ++ [.slice ao2 l.length cap2]) R (M ++ [markB M.length]))) (w4.setCell ⟨kb, 3, none⟩ (.slice ao4 (M.length + 1) cap4)) := (step_alloc _ _ _).trans hU4.2.1
    have hS4 := hS3.trans hU43
    have hB4 := hB2.ext hU43.1 hwant3.symm
    have hwant4 := hU43.sep hwant3 hlw3
    have hlw4 : ∀ k, inFoot (.slice ao2 l.length cap2) k → k < (w4.setCell ⟨kb, 3, none⟩ (.slice ao4 (M.length + 1) cap4)).heap.size := fun k hk => Nat.lt_of_lt_of_le (hlw3 k hk) hU43.1.size
    generalize w4.setCell ⟨kb, 3, none⟩ (.slice ao4 (M.length + 1) cap4) = W4 at *
    clear hU4 d3 f3 hmo hms hR3A hR3 hS3 hU43 hB2 hwant3 hlw3 hmb hmt c3 hl3 q43 q44
    have hb4 := hb.ext hS4.1 hbF
    have hbs4 := hS4.sep (fun k h1 h2 => hbF k h2 h1) hb.lt
    have hf := full_any W4.drew _ l (markB M.length) (hb4.ext (F := Nil) (Ext.refl _ _).drew fun _ _ h => h) hfit
    rw [markB_toNat] at hf
    have c2 : W4.cell? ⟨kb, 2, none⟩ = some (.slice aor R.length capr) := hR4.cells.cell 2 rfl
    have hl4 := hR4.cells.lt
    go_region_law (first
      | (refine step_append_row info_list rfl Try.underlying33 ((hA5.ext (F := Nil) ((Ext.refl _ _).alloc (.cells #[.slice ao5 (l.length + 40) cap5] 29 (0, 0))) fun _ _ h => h).own 2 _ rfl) (src_one w5 (.slice ao5 (l.length + 40) cap5) rfl) (by unfold maxLen; simp; omega) (by simp; omega) rfl _ _ rfl rfl rfl ?_; intro ao6 cap6 w6 q61 q62 q63 q64; have hU6 := up2 (hA5.ext (F := Nil) ((Ext.refl _ _).alloc (.cells #[.slice ao5 (l.length + 40) cap5] 29 (0, 0))) fun _ _ h => h) q64 q63; have d2 := hU6.2.2.1; have f2 := hU6.2.2.2)
      | (go_simp; go_at_call 48; refine hf.mono ?_; rintro e w5 ⟨ao5, cap5, rfl, q51, q52⟩; have hA5 := (hR4.ext (F := Nil) (Ext.refl _ _).drew fun _ _ h => h).ext q52.1 hbs4; have c25 : w5.cell? ⟨kb, 2, none⟩ = some (.slice aor R.length capr) := hA5.cells.cell 2 rfl; have hl5 := hA5.cells.lt))
    all_goals
      have hR6 : RowsAt (w6.setCell ⟨kb, 2, none⟩ (.slice ao6 (R.length + 1) cap6)) kb 35 (slots (.slice ao1 (G.length + 1) cap1) (.slice ao3 (W.length + 1) cap3) (.slice ao6 (R.length + 1) cap6) (.slice ao4 (M.length + 1) cap4) (G ++ [.slice aoa l.length capa]) (W ++ [.slice ao2 l.length cap2]) (R ++ [.slice ao5 (l.length + 40) cap5]) (M ++ [markB M.length])) := hU6.1
      have hU65 : Step (RowsF kb (slots (.slice ao1 (G.length + 1) cap1) (.slice ao3 (W.length + 1) cap3) (.slice aor R.length capr) (.slice ao4 (M.length + 1) cap4) (G ++ [.slice aoa l.length capa]) (W ++ [.slice ao2 l.length cap2]) R (M ++ [markB M.length]))) w5 (RowsF kb (slots (.slice ao1 (G.length + 1) cap1) (.slice ao3 (W.length + 1) cap3) (.slice ao6 (R.length + 1) cap6) (.slice ao4 (M.length + 1) cap4) (G ++ [.slice aoa l.length capa]) (W ++ [.slice ao2 l.length cap2]) (R ++ [.slice ao5 (l.length + 40) cap5]) (M ++ [markB M.length]))) (w6.setCell ⟨kb, 2, none⟩ (.slice ao6 (R.length + 1) cap6)) := (step_alloc _ _ _).trans hU6.2.1
      have hgl := q51.lt
      have hfull : Step (inFoot (.slice aob l.length capb)) W4 (inFoot (.slice ao5 (l.length + 40) cap5)) w5 := (step_drew _ W4).trans q52
      have hgs5 := hfull.sep hbs4.symm hR4.lt
      have hB5 := hB4.ext hfull.1 fun k hk hk2 => by have := hnew k hk; have := hb.lt k hk2; omega
      have hlw5 : ∀ k, inFoot (.slice ao2 l.length cap2) k → k < w5.heap.size := fun k hk => Nat.lt_of_lt_of_le (hlw4 k hk) hfull.1.size
      have hall := ((hS4.or (inFoot (.slice aob l.length capb))).trans (hfull.or' _)).trans (hU65.or (inFoot (.slice ao5 (l.length + 40) cap5)))
      go_end0
      exact ⟨rfl, _, _, _, _, _, _, hR6, hB5.ext hU65.1 hwant4.symm, q51.bytes.ext hU65.1 hgs5, hall, hU65.sep hgs5.symm hgl, hU65.sep hwant4 hlw5, fun k hk => ⟨hnew k hk, Nat.lt_of_lt_of_le (hlw5 k hk) hU65.1.size⟩, fun k hk => Nat.lt_of_lt_of_le (hgl k hk) hU65.1.size⟩

end Go.Proofs.Ytdgagpoeefbdjaa
