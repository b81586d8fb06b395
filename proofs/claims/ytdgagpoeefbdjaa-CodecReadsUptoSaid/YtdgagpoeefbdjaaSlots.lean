/- Auxiliary: a struct of slices that own their rows; append in a region that draws. No condition. -/
import Derived.Test.YtdgagpoeefbdjaaGen
import Derived.Deep.RegionHeld3
namespace Go.Proofs.Ytdgagpoeefbdjaa
open Go.RowKit

def Sep (F G : Nat → Prop) : Prop := ∀ k, F k → ¬ G k
theorem Sep.symm {F G : Nat → Prop} (h : Sep F G) : Sep G F := fun k hk hF => h k hF hk

theorem Step.sep {F F' G : Nat → Prop} {w w' : World} (h : Step F w F' w') (hs : Sep F G) (hG : ∀ k, G k → k < w.heap.size) : Sep F' G := fun k hk hk2 => by
  rcases h.2 k hk with h2 | h2
  · exact hs k h2 hk2
  · have := hG k hk2; omega
theorem step_drew (F : Nat → Prop) (w : World) : Step F w F w.drew := ⟨(Ext.refl _ _).drew, fun _ h => .inl h⟩
theorem Step.or {F F' : Nat → Prop} {w w' : World} (h : Step F w F' w') (G : Nat → Prop) : Step (fun k => F k ∨ G k) w (fun k => F' k ∨ G k) w' :=
  ⟨h.1.mono fun _ _ h => .inl h, fun k hk => by
    rcases hk with hk | hk
    · exact (h.2 k hk).imp .inl id
    · exact .inl (.inr hk)⟩
theorem Step.or' {F F' : Nat → Prop} {w w' : World} (h : Step F w F' w') (G : Nat → Prop) : Step (fun k => G k ∨ F k) w (fun k => G k ∨ F' k) w' :=
  ⟨h.1.mono fun _ _ h => .inr h, fun k hk => by
    rcases hk with hk | hk
    · exact .inl (.inl hk)
    · exact (h.2 k hk).imp .inr id⟩

/-- append onto a row of one's own, as a step of a region -/
theorem step_append_row {P : Program} {ops : Array Oper} {o : Oper} {a : Act} {K : Act → World → Prop} {Q : Exit → Act → World → Prop} {E : Prop} {w : World} {v : Value} {n m size bytes : Nat} {e t tx : TypeId} {z : Value} {xs news : List Value} {vx : Value}
    (hinfo : (P.info? e).map (fun i => (i.zero, i.size, i.bytes)) = some (some z, size, bytes)) (hz : z.cells.size = size) (hu : P.underlying t = some (.slice e)) (hown : Own w e size v n xs)
    (hsrc : Src P size tx vx m news w) (h63 : n + m ≤ maxLen) (hbytes : (n + m) * bytes ≤ 140737488355328) (hgd : o.guard = none) (s x : Operand)
    (ho : o.op = .call { callee := .builtin .append, args := #[s, x], argTypes := #[t, tx] }) (hs : a.eval s = v) (hx : a.eval x = vx)
    (h : ∀ ao cap w', n + m ≤ cap → cap ≤ maxLen → Own w' e size (.slice ao (n + m) cap) (n + m) (xs ++ news) → Step (inFoot v) w (inFoot (.slice ao (n + m) cap)) w' →
      K (a.put o.dst (.slice ao (n + m) cap)) w') : if Region.wanted o (yielded ops a.tmps) = true then Oper.wp P o a w K Q else E := by
  have hw : Region.wanted o (yielded ops a.tmps) = true := by simp [Region.wanted, hgd]
  rw [if_pos hw]
  obtain ⟨i, hi, h0, h1, h2⟩ := info_parts hinfo
  obtain ⟨v', w', hr, h3, h4, h5⟩ := run_append (P := P) w t tx o.type e i z size bytes hu hi h0 h1 h2 hz v n xs hown vx m news hsrc h63 hbytes
  obtain ⟨ao, cap, rfl, h6, h7⟩ := h3.shape
  unfold Oper.wp execOp
  simp only [ho, resolve, invoke, builtin, Sem.run_bind, Sem.run_pure, Result.andThen_ok, List.map_toArray, List.map_cons, List.map_nil, hs, hx, hr]
  exact h ao cap w' h6 h7 h3 ⟨h4, h5⟩

structure Slot where
  v : Value
  t : TypeId
  xs : List Value

/-- a struct at kb whose fields are slices that own their rows, each apart from the others -/
structure RowsAt (w : World) (kb : Nat) (T : TypeId) (ss : List Slot) : Prop where
  cells : At w kb T (ss.map Slot.v)
  own : ∀ (i : Nat) (s : Slot), ss[i]? = some s → Own w s.t 1 s.v s.xs.length s.xs
  far : ∀ (i : Nat) (s : Slot), ss[i]? = some s → ¬ inFoot s.v kb
  apart : ∀ (i j : Nat) (a b : Slot), i ≠ j → ss[i]? = some a → ss[j]? = some b → Sep (inFoot a.v) (inFoot b.v)
def RowsF (kb : Nat) (ss : List Slot) : Nat → Prop := fun k => k = kb ∨ ∃ (i : Nat) (s : Slot), ss[i]? = some s ∧ inFoot s.v k

theorem RowsAt.lt {w : World} {kb : Nat} {T : TypeId} {ss : List Slot} (h : RowsAt w kb T ss) : ∀ k, RowsF kb ss k → k < w.heap.size := by
  intro k hk
  rcases hk with rfl | ⟨i, s, hs, hk⟩
  · exact h.cells.lt
  · exact (h.own i s hs).lt k hk
theorem RowsAt.ext {F : Nat → Prop} {w w' : World} {kb : Nat} {T : TypeId} {ss : List Slot} (h : RowsAt w kb T ss) (e : Ext F w w') (hf : Sep (RowsF kb ss) F) : RowsAt w' kb T ss :=
  ⟨h.cells.ext e (hf kb (.inl rfl)), fun i s hs => (h.own i s hs).ext e fun k hk => hf k (.inr ⟨i, s, hs, hk⟩), h.far, h.apart⟩

/-- one of the rows grown, and laid back -/
theorem RowsAt.push {w w1 : World} {kb : Nat} {T : TypeId} {ss : List Slot} (h : RowsAt w kb T ss) (i : Nat) (s : Slot) (hi : ss[i]? = some s) {v' : Value} {xs' : List Value} (hst : Step (inFoot s.v) w (inFoot v') w1) (hown : Own w1 s.t 1 v' xs'.length xs') :
    RowsAt (w1.setCell ⟨kb, i, none⟩ v') kb T (ss.set i ⟨v', s.t, xs'⟩) ∧ Step (RowsF kb ss) w (RowsF kb (ss.set i ⟨v', s.t, xs'⟩)) (w1.setCell ⟨kb, i, none⟩ v') := by
  have hlt : i < ss.length := (List.getElem?_eq_some_iff.1 hi).1
  have hget : ∀ (j : Nat) (a : Slot), (ss.set i ⟨v', s.t, xs'⟩)[j]? = some a → (j = i ∧ a = ⟨v', s.t, xs'⟩) ∨ (j ≠ i ∧ ss[j]? = some a) := by
    intro j a ha
    rw [List.getElem?_set] at ha
    by_cases hj : i = j
    · subst hj
      rw [if_pos rfl, if_pos hlt] at ha
      exact .inl ⟨rfl, (Option.some.inj ha).symm⟩
    · rw [if_neg hj] at ha
      exact .inr ⟨fun e => hj e.symm, ha⟩
  have hnew : ∀ k, inFoot v' k → k ≠ kb := fun k hk e => by
    subst e
    rcases hst.2 k hk with h2 | h2
    · exact h.far i s hi h2
    · have := h.cells.lt; omega
  have hX : Ext (One kb) w1 (w1.setCell ⟨kb, i, none⟩ v') := (Ext.refl (One kb) w1).setCell (p := ⟨kb, i, none⟩) (fun _ => (rfl : kb = kb)) v'
  have hsepj : ∀ (j : Nat) (a : Slot), j ≠ i → ss[j]? = some a → Sep (inFoot v') (inFoot a.v) := by
    intro j a hj ha k hk hk2
    rcases hst.2 k hk with h2 | h2
    · exact h.apart i j s a (fun e => hj e.symm) hi ha k h2 hk2
    · have := (h.own j a ha).lt k hk2; omega
  refine ⟨⟨?_, ?_, ?_, ?_⟩, ?_, ?_⟩
  · have := (h.cells.ext hst.1 (h.far i s hi)).set i v'
    rwa [List.map_set]
  · intro j a ha
    rcases hget j a ha with ⟨rfl, rfl⟩ | ⟨hj, ha⟩
    · exact hown.ext hX fun k hk e => hnew k hk e
    · refine ((h.own j a ha).ext hst.1 fun k hk hk2 => ?_).ext hX fun k hk e => ?_
      · exact h.apart j i a s hj ha hi k hk hk2
      · have e : k = kb := e
        subst e
        exact h.far j a ha hk
  · intro j a ha
    rcases hget j a ha with ⟨rfl, rfl⟩ | ⟨hj, ha⟩
    · exact fun hk => hnew kb hk rfl
    · exact h.far j a ha
  · intro j l a b hjl ha hb
    rcases hget j a ha with ⟨rfl, rfl⟩ | ⟨hj2, ha2⟩
    · rcases hget l b hb with ⟨rfl, rfl⟩ | ⟨hl, hb⟩
      · exact absurd rfl hjl
      · exact hsepj l b hl hb
    · rcases hget l b hb with ⟨hl2, hb2⟩ | ⟨hl2, hb2⟩
      · rw [hb2]
        exact (hsepj j a hj2 ha2).symm
      · exact h.apart j l a b hjl ha2 hb2
  · refine (hst.1.mono fun k _ hk => (.inr ⟨i, s, hi, hk⟩ : RowsF kb ss k)).trans hX fun k _ e => ?_
    have e : k = kb := e
    exact .inl e
  · intro k hk
    rcases hk with rfl | ⟨j, a, ha, hk⟩
    · exact .inl (.inl rfl)
    · rcases hget j a ha with ⟨rfl, rfl⟩ | ⟨hj, ha⟩
      · rcases hst.2 k hk with h2 | h2
        · exact .inl (.inr ⟨j, s, hi, h2⟩)
        · exact .inr h2
      · exact .inl (.inr ⟨j, a, ha, hk⟩)
end Go.Proofs.Ytdgagpoeefbdjaa
