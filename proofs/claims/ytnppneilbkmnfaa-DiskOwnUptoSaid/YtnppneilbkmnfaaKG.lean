/- DiskOwn: an append that tells where its answer lies; a slice grown one place at a time. No condition. -/
import Derived.Test.YtnppneilbkmnfaaKF
namespace Go.Proofs.Ytnppneilbkmnfaa
open Go.RowKit

/-- the law of append over a row of one's own, and where the answer lies -/
theorem run_append2 {P : Program} (w : World) (t tx ty e : TypeId) (i : TypeInfo) (z : Value) (size bytes : Nat) (ht : P.underlying t = some (.slice e)) (hi : P.info? e = some i) (hz : i.zero = some z)
    (hsize : i.size = size) (hby : i.bytes = bytes) (hzs : z.cells.size = size)
    (v : Value) (n : Nat) (xs : List Value) (hown : Own w e size v n xs) (x : Value) (m : Nat) (news : List Value) (hs : Src P size tx x m news w)
    (h63 : n + m ≤ maxLen) (hbytes : (n + m) * bytes ≤ 140737488355328) :
    ∃ v' w', (Builtin.append_ #[t, tx] ty #[v, x]).run P w = .ok v' w' ∧ Own w' e size v' (n + m) (xs ++ news) ∧ Ext (inFoot v) w w' ∧ (∀ k, inFoot v' k → inFoot v k ∨ w.heap.size ≤ k) ∧ ((Ext Nil w w' ∧ ∀ k, inFoot v' k → w.heap.size ≤ k) ∨ ∃ ao cap, v = .slice ao n cap ∧ v' = .slice ao (n + m) cap) := by
  subst hsize
  subst hby
  have hsmall : n + m ≤ 9223372036854775807 := by simp only [maxLen] at h63; omega
  have hlen : (xs ++ news).length = (n + m) * i.size := by rw [List.length_append, hown.1, hs.newsLen, Nat.add_mul]
  have grow : ∀ (base : Option Addr) (old : Nat), old < n + m → v = .slice base n old → (Builtin.firstCells i.size n (.slice base n old)).run P w.drew = .ok xs.toArray w.drew →
      ∃ v' w', (Builtin.append_ #[t, tx] ty #[v, x]).run P w = .ok v' w' ∧ Own w' e i.size v' (n + m) (xs ++ news) ∧ Ext (inFoot v) w w' ∧ (∀ k, inFoot v' k → inFoot v k ∨ w.heap.size ≤ k) ∧ ((Ext Nil w w' ∧ ∀ k, inFoot v' k → w.heap.size ≤ k) ∨ ∃ ao cap, v = .slice ao n cap ∧ v' = .slice ao (n + m) cap) := by
    intro base old ho hv hf
    have hr := run_append_grow_src (P := P) w t tx ty e i z ht hi hz base n old xs hf x m news hs ho (by omega) (growslice_fits (by omega) hbytes)
    have hge := grownCap_ge w (n + m) old e
    have hcm : grownCap w (n + m) old e ≤ maxLen := grownCap_le_maxLen w (n + m) old e h63
    subst hv
    obtain ⟨c, hc⟩ : ∃ c, grownCap w (n + m) old e = c + 1 := ⟨grownCap w (n + m) old e - 1, by omega⟩
    refine ⟨_, _, hr, ⟨hlen, .inr ⟨w.heap.size, c, ((xs ++ news).toArray ++ Builtin.zeroCells z.cells (grownCap w (n + m) old e - (n + m))).toList, by rw [hc], ?_, by omega, by omega, ?_, ?_⟩⟩, (Ext.refl _ _).drew.alloc _, ?_, .inl ⟨(Ext.refl _ _).drew.alloc _, ?_⟩⟩
    · have := At.new w.drew ((xs ++ news).toArray ++ Builtin.zeroCells z.cells (grownCap w (n + m) old e - (n + m))).toList e
      rw [Array.toArray_toList] at this
      exact this
    · simp only [Array.toList_append, List.length_append, Array.length_toList, size_zeroCells, hzs]
      rw [List.length_append] at hlen
      rw [hlen, ← Nat.add_mul]
      congr 1
      omega
    · simp only [Array.toList_append]
      rw [← hlen]
      exact List.take_left
    · intro k hk
      simp [inFoot, hc, foot] at hk
      right
      omega
    · intro k hk
      simp [inFoot, hc, foot] at hk
      omega
  rcases hown.2 with ⟨ao, rfl, rfl⟩ | ⟨g, cap, cs, rfl, hg, hnc, hcm, hcs, htake⟩
  · have hx : xs = [] := List.eq_nil_of_length_eq_zero (by simpa using hown.1)
    subst hx
    by_cases hm : m = 0
    · subst hm
      have hn : news = [] := List.eq_nil_of_length_eq_zero (by simpa using hs.newsLen)
      subst hn
      refine ⟨.slice ao 0 0, w, ?_, Own.none w e i.size ao, Ext.refl _ _, fun k hk => .inl hk, .inr ⟨ao, 0, rfl, rfl⟩⟩
      have hl := hs.len
      have hc := hs.cells
      rcases hs.kind with ⟨e', hk⟩ | hk <;> cases ao <;> simp [Builtin.append_, run_underlying ht, run_underlying hk, sizeOf, typeInfo, hi, hl, hc, storeCells]
    · exact grow ao 0 (by omega) rfl (by cases ao <;> simp [Builtin.firstCells, loadCells, loadCellsFrom])
  · by_cases hroom : n + m ≤ cap + 1
    · have hfit : n * i.size + news.length ≤ cs.length := by rw [hs.newsLen, hcs, ← Nat.add_mul]; exact Nat.mul_le_mul_right _ hroom
      have hr := run_append_room_src (P := P) w t tx ty e i ht hi g 0 n (cap + 1) x m news hs hroom
        (fun j hj => by
          have hlt : 0 + n * i.size + j < cs.length := by omega
          rw [hg.cell (0 + n * i.size + j) (List.getElem?_eq_getElem hlt)]
          rfl)
        (fun j hj => hg.frozen _ (by omega))
      have hset : At (w.setCells g (0 + n * i.size) news) g e (cs.take (n * i.size) ++ news ++ cs.drop (n * i.size + news.length)) ∧ Ext (One g) w (w.setCells g (0 + n * i.size) news) := by
        have gen : ∀ (news : List Value) (o : Nat) (u : World) (ds : List Value), At u g e ds → o + news.length ≤ ds.length →
            At (u.setCells g o news) g e (ds.take o ++ news ++ ds.drop (o + news.length)) ∧ Ext (One g) u (u.setCells g o news) := by
          intro news
          induction news with
          | nil =>
            intro o u ds hu _
            refine ⟨?_, ?_⟩
            · simp only [World.setCells, List.length_nil, Nat.add_zero, List.append_nil, List.take_append_drop]; exact hu
            · simp only [World.setCells]; exact Ext.refl _ _
          | cons y ys ih =>
            intro o u ds hu hle
            simp only [List.length_cons] at hle
            have hu2 := hu.set o y
            have h2 := ih (o + 1) (u.setCell ⟨g, o, none⟩ y) (ds.set o y) hu2 (by simp; omega)
            simp only [World.setCells]
            refine ⟨?_, ((Ext.refl (One g) u).setCell (p := ⟨g, o, none⟩) (fun _ => rfl) y).same h2.2⟩
            have e1 := splice_cons ds o y ys (by omega)
            rw [← e1]
            exact h2.1
        have := gen news (0 + n * i.size) w cs hg (by omega)
        simpa using this
      refine ⟨_, _, hr, ⟨hlen, .inr ⟨g, cap, _, rfl, hset.1, hroom, hcm, ?_, ?_⟩⟩, hset.2.mono (fun k _ hk => by
        have hk : k = g := hk
        subst hk
        rfl), fun k hk => .inl hk, .inr ⟨_, _, rfl, rfl⟩⟩
      · simp only [List.length_append, List.length_take, List.length_drop]
        omega
      · rw [htake, ← hlen]
        exact List.take_left
    · refine grow (some ⟨g, 0, none⟩) (cap + 1) (by omega) rfl ?_
      refine run_firstCells_some (P := P) w.drew i.size n ⟨g, 0, none⟩ n (cap + 1) xs hown.1 (fun j u hu => ?_)
      have : w.cell? ⟨g, j, none⟩ = some u := by
        refine hg.cell j ?_
        rw [← htake, List.getElem?_take] at hu
        split at hu
        · exact hu
        · cases hu
      unfold Addr.add
      split
      · next h0 => subst h0; exact this
      · simpa using this

theorem inFoot_len {ao : Option Addr} {n m cap k : Nat} (h : inFoot (.slice ao n cap) k) : inFoot (.slice ao m cap) k := by
  cases ao <;> cases cap <;> exact h
theorem Own.shrink {w : World} {t : TypeId} {s : Nat} {ao : Option Addr} {n m cap : Nat} {xs ys : List Value} (h : Own w t s (.slice ao (n + m) cap) (n + m) (xs ++ ys)) (hx : xs.length = n * s) : Own w t s (.slice ao n cap) n xs := by
  refine ⟨hx, ?_⟩
  rcases h.2 with ⟨ao', h1, h2⟩ | ⟨g, c, cs, h1, h2, h3, h4, h5, h6⟩
  · simp only [Value.slice.injEq] at h1
    obtain ⟨rfl, -, rfl⟩ := h1
    have : n = 0 := by omega
    exact .inl ⟨ao, by rw [this], this⟩
  · simp only [Value.slice.injEq, true_and] at h1
    obtain ⟨rfl, rfl⟩ := h1
    refine .inr ⟨g, c, cs, rfl, h2, by omega, h4, h5, ?_⟩
    have e : cs.take (n * s) = (cs.take ((n + m) * s)).take (n * s) := by rw [List.take_take, Nat.min_eq_left (Nat.mul_le_mul_right s (by omega))]
    rw [e, h6, ← hx, List.take_left]
/-- v lies in memory of its own since w0; x is v, k places longer -/
def Gr (t : TypeId) (s : Nat) (w0 w : World) (v : Value) (n : Nat) (cs : List Value) (x : Value) (k : Nat) : Prop :=
  Own w t s v n cs ∧ (∀ j, inFoot v j → j < w0.heap.size) ∧ Ext (inFoot v) w0 w ∧ ∃ ys, Own w t s x (n + k) ys ∧ ((∀ j, inFoot x j → w0.heap.size ≤ j) ∨ ∃ ao cap es, v = .slice ao n cap ∧ x = .slice ao (n + k) cap ∧ ys = cs ++ es)
theorem Gr.start {t : TypeId} {s : Nat} {w : World} {v : Value} {n : Nat} {cs : List Value} (h : Own w t s v n cs) : Gr t s w w v n cs v 0 := by
  obtain ⟨ao, cap, rfl, -, -⟩ := Own.shape h
  exact ⟨h, h.lt, Ext.refl _ _, cs, h, .inr ⟨ao, cap, [], rfl, rfl, (List.append_nil cs).symm⟩⟩
theorem wpList_append_gr {P : Program} {ops : Array Oper} {rest : List Oper} {o : Oper} {a : Act} {Q : Exit → Act → World → Prop} {w0 w w1 : World} {v x : Value} {n k s bytes : Nat} {t ts tx : TypeId} {z : Value} {cs news : List Value} {vx : Value}
    (hG : Gr t s w0 w v n cs x k) (e1 : Ext Nil w w1) (hinfo : (P.info? t).map (fun i => (i.zero, i.size, i.bytes)) = some (some z, s, bytes)) (hz : z.cells.size = s) (hu : P.underlying ts = some (.slice t))
    (hsrc : Src P s tx vx 1 news w1) (hfit : n + k ≤ 1099511627776) (hby : bytes ≤ 64) (hgd : o.guard = none) (sx xo : Operand)
    (ho : o.op = .call { callee := .builtin .append, args := #[sx, xo], argTypes := #[ts, tx] }) (hs : a.eval sx = x) (hx : a.eval xo = vx)
    (h : ∀ ao cap w', Gr t s w0 w' v n cs (.slice ao (n + k + 1) cap) (k + 1) → wpList P ops Q rest (a.put o.dst (.slice ao (n + k + 1) cap)) w') : wpList P ops Q (o :: rest) a w1 := by
  obtain ⟨i, hi, h0, h1, h2⟩ := info_parts hinfo
  obtain ⟨g1, g2, g3, ys, g4, g5⟩ := hG
  have e : Ext Nil w w1 := e1
  obtain ⟨v', w', hr, r1, r2, r3, r4⟩ := run_append2 (P := P) w1 ts tx o.type t i z s bytes hu hi h0 h1 h2 hz x (n + k) ys (g4.ext e fun _ _ h => h) vx 1 news hsrc (by unfold maxLen; omega) (by
    have : (n + k + 1) * bytes ≤ (n + k + 1) * 64 := Nat.mul_le_mul_left _ hby
    omega)
  obtain ⟨ao, cap, rfl, h6, h7⟩ := Own.shape r1
  refine wpList_plain hgd fun K hK => ?_
  unfold Oper.wp execOp
  simp only [ho, resolve, invoke, builtin, Sem.run_bind, Sem.run_pure, Result.andThen_ok, List.map_toArray, List.map_cons, List.map_nil, hs, hx, hr]
  refine hK _ _ (h ao cap w' ?_)
  have hv1 := g1.ext e fun _ _ h => h
  have hs0 := g3.size
  have hs1 := e.size
  have hs2 := r2.size
  have e01 : Ext (inFoot v) w0 w1 := g3.trans e fun _ _ h => h.elim
  have e0 : Ext (inFoot v) w0 w' := e01.trans r2 fun j hj hx => by
    rcases g5 with g5 | ⟨ao1, c1, es, rfl, rfl, -⟩
    · have := g5 j hx
      omega
    · exact inFoot_len hx
  rcases r4 with ⟨r4, r5⟩ | ⟨ao1, c1, rfl, r5⟩
  · exact ⟨hv1.ext r4 fun _ _ h => h, g2, e0, _, r1, .inl fun j hj => by have := r5 j hj; omega⟩
  · simp only [Value.slice.injEq, true_and] at r5
    obtain ⟨rfl, rfl⟩ := r5
    rcases g5 with g5 | ⟨ao2, c2, es, rfl, e2, rfl⟩
    · exact ⟨hv1.ext r2 fun j hj hx => by have := g2 j hj; have := g5 j hx; omega, g2, e0, _, r1, .inl fun j hj => g5 j (inFoot_len hj)⟩
    · simp only [Value.slice.injEq, true_and] at e2
      obtain ⟨rfl, rfl⟩ := e2
      rw [List.append_assoc] at r1
      refine ⟨?_, g2, e0, _, r1, .inr ⟨_, _, _, rfl, rfl, rfl⟩⟩
      have r1' : Own w' t s (.slice ao (n + (k + 1)) cap) (n + (k + 1)) (cs ++ (es ++ news)) := r1
      exact Own.shrink r1' g1.1
end Go.Proofs.Ytnppneilbkmnfaa
