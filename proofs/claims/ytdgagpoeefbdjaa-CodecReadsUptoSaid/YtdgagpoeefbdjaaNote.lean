/- The contract of the law's book's 'note'. Conditions: what is noted lies apart from the book; it fits into memory. -/
import Derived.Test.YtdgagpoeefbdjaaBook
namespace Go.Proofs.Ytdgagpoeefbdjaa
open Go.RowKit

set_option maxRecDepth 20000 in
theorem note_any (w : World) (kb n : Nat) (F : Nat → Prop) (h : Book w kb n F) (hn : n ≤ 4194304) (av bv' cv : Value) (l : List UInt8) (hfit : Fits (l.length + 40))
    (ha : Bytes w av l) (hb : OwnB w bv' l) (hc : Bytes w cv l) (haF : Sep (inFoot av) F) (hab : Sep (inFoot av) (inFoot bv')) (hal : ∀ k, inFoot av k → k < w.heap.size) (hbF : Sep (inFoot bv') F) (hcF : Sep (inFoot cv) F) :
    Calls Try.prog 47 #[.pointer (some ⟨kb, 0, none⟩), av, bv', cv] w fun e w' => e = .returned (.tuple #[]) ∧ ∃ F', Book w' kb (n + 1) F' ∧ Ext (fun k => F k ∨ inFoot bv' k) w w' ∧ (∀ k, F' k → F k ∨ inFoot av k ∨ inFoot bv' k ∨ w.heap.size ≤ k) := by
  obtain ⟨gv, wv, rv, mv, E, rfl, h, rfl⟩ := h
  have hR := h.rows
  obtain ⟨aog, capg, hgv, -, -⟩ := Own.shape (hR.own 0 _ rfl)
  obtain ⟨aow, capw, hwv, -, -⟩ := Own.shape (hR.own 1 _ rfl)
  obtain ⟨aor, capr, hrv, -, -⟩ := Own.shape (hR.own 2 _ rfl)
  obtain ⟨aom, capm, hmv, -, -⟩ := Own.shape (hR.own 3 _ rfl)
  have hgv : gv = .slice aog (E.map Ent.a).length capg := hgv
  have hwv : wv = .slice aow (E.map Ent.w).length capw := hwv
  have hrv : rv = .slice aor (E.map Ent.g).length capr := hrv
  have hmv : mv = .slice aom (E.map Ent.m).length capm := by simpa [bvs] using hmv
  subst hgv hwv hrv hmv
  have hbw : ∀ k, inFoot bv' k → k < w.heap.size := hb.lt
  have hq := note_walk w kb aog aow aor aom capg capw capr capm (E.map Ent.a) (E.map Ent.w) (E.map Ent.g) (E.map Ent.m) av bv' cv l hR (by simpa using hn) (by simpa using hn) (by simpa using hn) (by simpa using hn) hfit ha hb hc
    (fun k hk hr => hbF k hk (.inl hr)) (fun k hk hr => hcF k hk (.inl hr))
  refine hq.mono ?_
  rintro e w' ⟨rfl, gv', wv', rv', mv', wx, gx, q1, q2, q3, q4, q5, q6, q7, q8⟩
  generalize markB (E.map Ent.m).length = m at *
  have hE : ∀ k, Held E k → ¬ (RowsF kb (slots (.slice aog (E.map Ent.a).length capg) (.slice aow (E.map Ent.w).length capw) (.slice aor (E.map Ent.g).length capr) (.slice aom (E.map Ent.m).length capm) (E.map Ent.a) (E.map Ent.w) (E.map Ent.g) (E.map Ent.m)) k ∨ inFoot bv' k) := by
    intro k hk hr
    rcases hr with hr | hr
    · exact h.off k hk hr
    · exact hbF k hr (.inr hk)
  have hav : ∀ k, inFoot av k → ¬ (RowsF kb (slots (.slice aog (E.map Ent.a).length capg) (.slice aow (E.map Ent.w).length capw) (.slice aor (E.map Ent.g).length capr) (.slice aom (E.map Ent.m).length capm) (E.map Ent.a) (E.map Ent.w) (E.map Ent.g) (E.map Ent.m)) k ∨ inFoot bv' k) := by
    intro k hk hr
    rcases hr with hr | hr
    · exact haF k hk (.inl hr)
    · exact hab k hk hr
  have hold : ∀ k, k < w.heap.size → ¬ (RowsF kb (slots (.slice aog (E.map Ent.a).length capg) (.slice aow (E.map Ent.w).length capw) (.slice aor (E.map Ent.g).length capr) (.slice aom (E.map Ent.m).length capm) (E.map Ent.a) (E.map Ent.w) (E.map Ent.g) (E.map Ent.m)) k ∨ inFoot bv' k) →
      ¬ RowsF kb (slots gv' wv' rv' mv' (E.map Ent.a ++ [av]) (E.map Ent.w ++ [wx]) (E.map Ent.g ++ [gx]) (E.map Ent.m ++ [m])) k := by
    intro k hk hno hr
    rcases q4.2 k (.inl hr) with h2 | h2
    · exact hno h2
    · omega
  have e1 : (E ++ [(⟨av, wx, gx, l, m⟩ : Ent)]).map Ent.a = E.map Ent.a ++ [av] := by simp
  have e2 : (E ++ [(⟨av, wx, gx, l, m⟩ : Ent)]).map Ent.w = E.map Ent.w ++ [wx] := by simp
  have e3 : (E ++ [(⟨av, wx, gx, l, m⟩ : Ent)]).map Ent.g = E.map Ent.g ++ [gx] := by simp
  have e4 : (E ++ [(⟨av, wx, gx, l, m⟩ : Ent)]).map Ent.m = E.map Ent.m ++ [m] := by simp
  refine ⟨rfl, _, ⟨gv', wv', rv', mv', E ++ [⟨av, wx, gx, l, m⟩], by simp, ⟨?_, ?_, ?_, ?_⟩, rfl⟩, ?_, ?_⟩
  · rw [e1, e2, e3, e4]
    exact q1
  · intro d hd
    rcases List.mem_append.1 hd with hd | hd
    · obtain ⟨g1, g2, g3⟩ := h.each d hd
      exact ⟨g1.ext q4.1 fun k hk => hE k ⟨d, hd, .inl hk⟩, g2.ext q4.1 fun k hk => hE k ⟨d, hd, .inr (.inl hk)⟩, g3.ext q4.1 fun k hk => hE k ⟨d, hd, .inr (.inr hk)⟩⟩
    · simp only [List.mem_singleton] at hd
      subst hd
      exact ⟨ha.ext q4.1 hav, q2, q3⟩
  · intro k hk
    obtain ⟨d, hd, hk⟩ := hk
    rcases List.mem_append.1 hd with hd | hd
    · exact Nat.lt_of_lt_of_le (h.lt k ⟨d, hd, hk⟩) q4.1.size
    · simp only [List.mem_singleton] at hd
      subst hd
      rcases hk with hk | hk | hk
      · exact Nat.lt_of_lt_of_le (hal k hk) q4.1.size
      · exact (q7 k hk).2
      · exact q8 k hk
  · intro k hk
    rw [e1, e2, e3, e4]
    obtain ⟨d, hd, hk⟩ := hk
    rcases List.mem_append.1 hd with hd | hd
    · exact hold k (h.lt k ⟨d, hd, hk⟩) (hE k ⟨d, hd, hk⟩)
    · simp only [List.mem_singleton] at hd
      subst hd
      rcases hk with hk | hk | hk
      · exact hold k (hal k hk) (hav k hk)
      · exact fun hr => q6 k hr hk
      · exact fun hr => q5 k hr hk
  · refine q4.1.mono fun k _ hk => ?_
    rcases hk with hk | hk
    · exact .inl (.inl hk)
    · exact .inr hk
  · intro k hk
    have hkind : (RowsF kb (slots gv' wv' rv' mv' (E.map Ent.a ++ [av]) (E.map Ent.w ++ [wx]) (E.map Ent.g ++ [gx]) (E.map Ent.m ++ [m])) k ∨ inFoot gx k) ∨ Held E k ∨ inFoot av k ∨ inFoot wx k := by
      rcases hk with hk | hk
      · rw [e1, e2, e3, e4] at hk
        exact .inl (.inl hk)
      · obtain ⟨d, hd, hk⟩ := hk
        rcases List.mem_append.1 hd with hd | hd
        · exact .inr (.inl ⟨d, hd, hk⟩)
        · simp only [List.mem_singleton] at hd
          subst hd
          rcases hk with hk | hk | hk
          · exact .inr (.inr (.inl hk))
          · exact .inr (.inr (.inr hk))
          · exact .inl (.inr hk)
    rcases hkind with hk | hk | hk | hk
    · rcases q4.2 k hk with (h2 | h2) | h2
      · exact .inl (.inl h2)
      · exact .inr (.inr (.inl h2))
      · exact .inr (.inr (.inr h2))
    · exact .inl (.inr hk)
    · exact .inr (.inl hk)
    · exact .inr (.inr (.inr (q7 k hk).1))
end Go.Proofs.Ytdgagpoeefbdjaa
