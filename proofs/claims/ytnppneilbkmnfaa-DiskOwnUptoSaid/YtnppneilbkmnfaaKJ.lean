/- DiskOwn: the state of the law's Book.mark between its items. No condition. | DiskOwn: the law's Book.mark, the bytes of an image. No condition. -/
import Derived.Test.YtnppneilbkmnfaaKI
namespace Go.Proofs.Ytnppneilbkmnfaa
open Go.RowKit

/-- what the six rows hold: the marked ones, then the items -/
structure Rw (a : Nat → List Value) (xs : Nat → List Value) (its : Nat → List (Value × Value)) : Prop where
  p : ∀ c, c < 3 → xs (2 * c) = a (2 * c) ++ (its c).map Prod.fst
  q : ∀ c, c < 3 → xs (2 * c + 1) = a (2 * c + 1) ++ (its c).map Prod.snd
  la : ∀ c, c < 3 → (a (2 * c)).length = (a (2 * c + 1)).length
structure St (a : Nat → List Value) (i0 : Nat → List (Value × Value)) (w W : World) (bp : Nat) (r : Nat → Value) (xs : Nat → List Value) (its : Nat → List (Value × Value)) (m : Nat → Nat) : Prop where
  kk : Mk w.heap.size W bp r xs (a 0).length (a 2).length (a 4).length its m
  rws : Rw a xs its
  len : ∀ c, (its c).length = (i0 c).length
  fe : ∀ k, ifeet its k ↔ ifeet i0 k
  ext : Step (fun k => bkBlk r bp k ∨ ifeet i0 k) w (fun k => bkBlk r bp k ∨ ifeet i0 k) W
section
variable {a : Nat → List Value} {i0 : Nat → List (Value × Value)} {w W : World} {bp : Nat} {r : Nat → Value} {xs : Nat → List Value} {its : Nat → List (Value × Value)} {m : Nat → Nat} (h : St a i0 w W bp r xs its m)
include h
theorem St.lenp {c : Nat} (hc : c < 3) : (xs (2 * c)).length = (a (2 * c)).length + (i0 c).length := by
  rw [h.rws.p c hc, List.length_append, List.length_map, h.len]
theorem St.lenq {c : Nat} (hc : c < 3) : (xs (2 * c + 1)).length = (a (2 * c)).length + (i0 c).length := by
  rw [h.rws.q c hc, List.length_append, List.length_map, h.len, h.rws.la c hc]
theorem St.head {c : Nat} (hc : c < 3) {L : Nat} (hL : (a (2 * c)).length + (i0 c).length = L) : ∃ ao cap, L ≤ cap ∧ cap ≤ maxLen ∧ W.cell? ⟨bp, 2 * c, none⟩ = some (.slice ao L cap) := by
  subst hL
  exact h.kk.bk.lenAt (i := 2 * c) (by omega) (h.lenp hc)
theorem St.nums : W.cell? ⟨bp, 6, none⟩ = some (.int .i64 (a 0).length) ∧ W.cell? ⟨bp, 7, none⟩ = some (.int .i64 (a 2).length) ∧ W.cell? ⟨bp, 8, none⟩ = some (.int .i64 (a 4).length) :=
  ⟨h.kk.bk.cells.cell 6 rfl, h.kk.bk.cells.cell 7 rfl, h.kk.bk.cells.cell 8 rfl⟩
/-- one item -/
theorem St.item {c k : Nat} (hc : c < 3) {L : Nat} (hLL : (a (2 * c)).length + (i0 c).length = L) (hk1 : (a (2 * c)).length ≤ k) (hk2 : k < L) (hm : m c = k - (a (2 * c)).length) :
    ∃ v n cs g cap g' cap', Own W (cty c) (csz c) v n cs ∧ n ≤ 1073741824 ∧
      W.cell? ⟨bp, 2 * c, none⟩ = some (.slice (some ⟨g, 0, none⟩) L (cap + 1)) ∧ L ≤ cap + 1 ∧ W.cell? ⟨g, k, none⟩ = some v ∧ L ≤ cap' + 1 ∧
      ∀ w', Ext (inFoot v) W w' → w'.cell? ⟨bp, 2 * c + 1, none⟩ = some (.slice (some ⟨g', 0, none⟩) L (cap' + 1)) ∧ w'.frozen? ⟨g', k, none⟩ = false ∧ (∃ u, w'.cell? ⟨g', k, none⟩ = some u) ∧
        ∀ q n2 cs2, Own w' (cty c) (csz c) v n2 cs2 → Own w' (cty c) (csz c) q n2 cs2 → cgd c cs2 → n2 ≤ 1073741824 → (∀ k, inFoot q k → W.heap.size ≤ k) →
          ∃ xs' its', St a i0 w (w'.setCell ⟨g', k, none⟩ q) bp r xs' its' (upd m c (k + 1 - (a (2 * c)).length)) := by
  subst hLL
  have hL := h.lenp hc
  have hLq := h.lenq hc
  obtain ⟨p, hp, hp2, hp3⟩ := row_at (h.rws.p c hc) hk1 (by omega)
  obtain ⟨n, cs, hO, hn⟩ := h.kk.fr c p hc (List.mem_of_getElem? hp)
  obtain ⟨g, cap, u, e1, e2, e3, e4, e5, e6, e7⟩ := h.kk.bk.elem (i := 2 * c) (by omega) (k := k) (by omega)
  obtain ⟨g', cap', u', f1, f2, f3, f4, f5, f6, f7⟩ := h.kk.bk.elem (i := 2 * c + 1) (by omega) (k := k) (by omega)
  obtain rfl : p.1 = u := by rw [e4] at hp2; exact (Option.some.inj hp2).symm
  rw [hL] at e2 e7
  rw [hLq] at f2 f7
  have hpf : ∀ k, inFoot p.1 k → ifeet its k := fun k hk => ⟨c, p, hc, List.mem_of_getElem? hp, hk⟩
  refine ⟨p.1, n, cs, g, cap, g', cap', hO, hn, e2, e7, e5, f7, fun w' eX => ?_⟩
  have hb' := h.kk.bk.ext eX fun k hk hk2 => h.kk.ap k (hpf k hk2) hk
  obtain ⟨g2, cap2, u2, y1, y2, y3, y4, y5, y6, y7⟩ := hb'.elem (i := 2 * c + 1) (by omega) (k := k) (by omega)
  rw [f1] at y1
  simp only [Value.slice.injEq, Option.some.injEq, Addr.mk.injEq, and_true, true_and] at y1
  obtain ⟨rfl, y1⟩ := y1
  obtain rfl : cap2 = cap' := by omega
  rw [hLq] at y2
  refine ⟨y2, y6, ⟨u2, y5⟩, fun q n2 cs2 q1 q2 q3 q4 q5 => ?_⟩
  have hS0 := h.ext.1.size
  obtain ⟨hM, hSt⟩ := h.kk.write hc hm.symm hp eX q1 q2 q3 q4 (fun k hk => ⟨by have := q5 k hk; omega, q5 k hk⟩) (j := k) (by omega) f1
  have hki : k = (a (2 * c + 1)).length + (k - (a (2 * c)).length) := by have := h.rws.la c hc; omega
  have hXF : (fun k => bkBlk r bp k ∨ ifeet its k) = fun k => bkBlk r bp k ∨ ifeet i0 k := by
    funext k
    rw [h.fe k]
  rw [hXF] at hSt
  refine ⟨upd xs (2 * c + 1) ((xs (2 * c + 1)).set k q), upd its c ((its c).set (k - (a (2 * c)).length) (p.1, q)), ⟨?_, ⟨fun d hd => ?_, fun d hd => ?_, h.rws.la⟩, fun d => ?_, fun k0 => ?_, h.ext.trans hSt⟩⟩
  · have e9 : k - (a (2 * c)).length + 1 = k + 1 - (a (2 * c)).length := by omega
    rw [e9] at hM
    exact hM
  · rw [upd_ne _ _ (show 2 * d ≠ 2 * c + 1 by omega), h.rws.p d hd]
    by_cases hdc : d = c
    · subst hdc
      rw [upd_self, List.map_set]
      congr 1
      refine List.ext_getElem? fun j => ?_
      by_cases hj : j = k - (a (2 * d)).length
      · subst hj
        rw [List.getElem?_set_self (by rw [List.length_map]; exact hp3), List.getElem?_map, hp]
        rfl
      · rw [List.getElem?_set_ne (by omega)]
    · rw [upd_ne _ _ hdc]
  · by_cases hdc : d = c
    · subst hdc
      rw [upd_self, upd_self, h.rws.q d hd, List.map_set]
      have e9 : (a (2 * d + 1) ++ List.map Prod.snd (its d)).set k q = (a (2 * d + 1) ++ List.map Prod.snd (its d)).set ((a (2 * d + 1)).length + (k - (a (2 * d)).length)) q := by rw [← hki]
      rw [e9, List.set_append_right _ _ (by omega)]
      congr 2
      omega
    · rw [upd_ne _ _ (show 2 * d + 1 ≠ 2 * c + 1 by omega), upd_ne _ _ hdc, h.rws.q d hd]
  · by_cases hdc : d = c
    · subst hdc
      rw [upd_self, List.length_set, h.len]
    · rw [upd_ne _ _ hdc, h.len]
  · rw [← h.fe k0]
    constructor
    · rintro ⟨d, p', hd, hp', hk⟩
      by_cases hdc : d = c
      · subst hdc
        rw [upd_self] at hp'
        rcases List.mem_or_eq_of_mem_set hp' with h9 | rfl
        · exact ⟨d, p', hd, h9, hk⟩
        · exact hpf k0 hk
      · rw [upd_ne _ _ hdc] at hp'
        exact ⟨d, p', hd, hp', hk⟩
    · rintro ⟨d, p', hd, hp', hk⟩
      by_cases hdc : d = c
      · subst hdc
        obtain ⟨j', hj'⟩ := List.mem_iff_getElem?.1 hp'
        by_cases hji : j' = k - (a (2 * d)).length
        · subst hji
          rw [hp] at hj'
          cases hj'
          exact ⟨d, (p.1, q), hd, by rw [upd_self]; exact List.mem_of_getElem? (i := k - (a (2 * d)).length) (by rw [List.getElem?_set_self hp3]), hk⟩
        · exact ⟨d, p', hd, by rw [upd_self]; exact List.mem_of_getElem? (i := j') (by rw [List.getElem?_set_ne (by omega)]; exact hj'), hk⟩
      · exact ⟨d, p', hd, by rw [upd_ne _ _ hdc]; exact hp', hk⟩
end
/-- a byte of a slice of one's own is written -/
theorem own_byte {w : World} {v : Value} {n : Nat} {cs : List Value} {l : List UInt8} (h : Own w 5 1 v n (bvs l ++ cs.drop l.length)) (hc : cs.length = n) (hl : l.length < n) :
    ∃ g cap u, v = .slice (some ⟨g, 0, none⟩) n (cap + 1) ∧ n ≤ cap + 1 ∧ w.cell? ⟨g, l.length, none⟩ = some u ∧ w.frozen? ⟨g, l.length, none⟩ = false ∧ ∀ b : UInt8, Own (w.setCell ⟨g, l.length, none⟩ (.int .u8 (b.toNat : Int))) 5 1 v n (bvs (l ++ [b]) ++ cs.drop (l ++ [b]).length) := by
  obtain ⟨ao, cap, rfl, h1, h2⟩ := Own.shape h
  obtain ⟨g, c, u, rfl, rfl, -, h3, h4, h5, h6⟩ := own1_at h hl
  refine ⟨g, c, u, rfl, h1, h4, h5, fun b => ?_⟩
  have h7 := h6 (.int .u8 (b.toNat : Int))
  have e : (bvs l ++ cs.drop l.length).set l.length (.int .u8 (b.toNat : Int)) = bvs (l ++ [b]) ++ cs.drop (l ++ [b]).length := by
    have hl2 : (bvs l).length = l.length := by simp [bvs]
    rw [List.set_append_right _ _ (by omega), hl2, Nat.sub_self, List.length_append, List.length_singleton]
    rw [List.drop_eq_getElem_cons (by omega), List.set_cons_zero]
    unfold bvs
    rw [List.map_append, List.append_assoc]
    rfl
  rw [e] at h7
  exact h7
theorem own_name {w : World} {v : Value} {n : Nat} {cs : List Value} {l : List Nm} (h : Own w 9 1 v n (namesV l ++ cs.drop l.length)) (hc : cs.length = n) (hl : l.length < n) :
    ∃ g cap u, v = .slice (some ⟨g, 0, none⟩) n (cap + 1) ∧ n ≤ cap + 1 ∧ w.cell? ⟨g, l.length, none⟩ = some u ∧ w.frozen? ⟨g, l.length, none⟩ = false ∧ g < w.heap.size ∧ ∀ b : Nm, Own (w.setCell ⟨g, l.length, none⟩ (.string ⟨b.toArray⟩)) 9 1 v n (namesV (l ++ [b]) ++ cs.drop (l ++ [b]).length) := by
  -- own_name_c
  obtain ⟨ao, cap, rfl, h1, h2⟩ := Own.shape h
  obtain ⟨g, c, u, rfl, rfl, h8, h3, h4, h5, h6⟩ := own1_at h hl
  refine ⟨g, c, u, rfl, h1, h4, h5, h8, fun b => ?_⟩
  have h7 := h6 (.string ⟨b.toArray⟩)
  have e : (namesV l ++ cs.drop l.length).set l.length (.string ⟨b.toArray⟩) = namesV (l ++ [b]) ++ cs.drop (l ++ [b]).length := by
    have hl2 : (namesV l).length = l.length := by simp [namesV]
    rw [List.set_append_right _ _ (by omega), hl2, Nat.sub_self, List.length_append, List.length_singleton]
    rw [List.drop_eq_getElem_cons (by omega), List.set_cons_zero]
    unfold namesV
    rw [List.map_append, List.append_assoc]
    rfl
  rw [e] at h7
  exact h7
def filesV (l : List Nm) : List Value := l.flatMap fun s => [encS s, .slice none 0 0]
theorem filesV_len (l : List Nm) : (filesV l).length = l.length * 2 := by
  unfold filesV
  induction l with
  | nil => rfl
  | cons a l ih => simp only [List.flatMap_cons, List.length_append, List.length_cons, List.length_nil, ih]; omega
theorem filesV_snoc (l : List Nm) (s : Nm) : filesV (l ++ [s]) = filesV l ++ [encS s, .slice none 0 0] := by
  unfold filesV
  rw [List.flatMap_append]
  rfl
theorem own_file {w : World} {v : Value} {n : Nat} {cs : List Value} {l : List Nm} (h : Own w 41 2 v n (filesV l ++ cs.drop (l.length * 2))) (hc : cs.length = n * 2) (hl : l.length < n) :
    ∃ g cap u1 u2, v = .slice (some ⟨g, 0, none⟩) n (cap + 1) ∧ n ≤ cap + 1 ∧ w.cell? ⟨g, l.length * 2, none⟩ = some u1 ∧ w.cell? ⟨g, l.length * 2 + 1, none⟩ = some u2 ∧ w.frozen? ⟨g, l.length * 2, none⟩ = false ∧ w.frozen? ⟨g, l.length * 2 + 1, none⟩ = false ∧ g < w.heap.size ∧
      ∀ b : Nm, Own ((w.setCell ⟨g, l.length * 2, none⟩ (.string ⟨b.toArray⟩)).setCell ⟨g, l.length * 2 + 1, none⟩ (.slice none 0 0)) 41 2 v n (filesV (l ++ [b]) ++ cs.drop ((l ++ [b]).length * 2)) := by
  rcases h.2 with ⟨ao', h1, h2⟩ | ⟨g, c, ds, rfl, h2, h3, h4, h5, h6⟩
  · omega
  · have hlen := h.1
    have hd1 : l.length * 2 < ds.length := by omega
    have hd2 : l.length * 2 + 1 < ds.length := by omega
    refine ⟨g, c, ds[l.length * 2], ds[l.length * 2 + 1], rfl, h3, h2.cell _ (List.getElem?_eq_getElem hd1), h2.cell _ (List.getElem?_eq_getElem hd2), h2.frozen _ hd1, h2.frozen _ hd2, h2.lt, fun b => ?_⟩
    have h7 := (h2.set (l.length * 2) (.string ⟨b.toArray⟩)).set (l.length * 2 + 1) (.slice none 0 0)
    refine ⟨?_, .inr ⟨g, c, _, rfl, h7, h3, h4, by rw [List.length_set, List.length_set]; exact h5, ?_⟩⟩
    · rw [List.length_append, filesV_len, List.length_append, List.length_drop, List.length_singleton]
      omega
    · rw [List.take_set, List.take_set, h6, List.set_append_right _ _ (by rw [filesV_len]; exact Nat.le_refl _), filesV_len, Nat.sub_self, List.set_append_right _ _ (by rw [filesV_len]; omega), filesV_len, show l.length * 2 + 1 - l.length * 2 = 1 by omega]
      rw [List.drop_eq_getElem_cons (show l.length * 2 < cs.length by omega), List.drop_eq_getElem_cons (show l.length * 2 + 1 < cs.length by omega), filesV_snoc, List.length_append, List.length_singleton, List.append_assoc, show (l.length + 1) * 2 = l.length * 2 + 1 + 1 by omega]
      rfl
/-- a copy grows beside a slice of one's own -/
theorem turn_next {wo wr W2 w3 : World} {t : TypeId} {s : Nat} {v z : Value} {n : Nat} {xs : List Value} {F' : Nat → Prop} (hW2 : Own W2 t s v n xs) (e2 : Ext (inFoot v) wr W2) (hz : ∀ k, inFoot z k → wo.heap.size ≤ k) (hEq : Ext (inFoot v) wo wr) (hlt : ∀ k, inFoot v k → k < wo.heap.size) (hst : Step (inFoot z) W2 F' w3) :
    Own w3 t s v n xs ∧ Ext (inFoot v) wo w3 ∧ ∀ k, F' k → wo.heap.size ≤ k := by
  have h1 := hEq.size
  have h2 := e2.size
  refine ⟨hW2.ext hst.1 fun k hk hk2 => by have := hlt k hk; have := hz k hk2; omega, (hEq.same e2).trans hst.1 fun i hi hk2 => by have := hz i hk2; omega, fun k hk => ?_⟩
  rcases hst.2 k hk with h3 | h3
  · exact hz k h3
  · omega
theorem Mk.less {S : Nat} {w : World} {bp : Nat} {r : Nat → Value} {xs : Nat → List Value} {B N F : Nat} {its : Nat → List (Value × Value)} {m m' : Nat → Nat} (h : Mk S w bp r xs B N F its m) (hm : ∀ c, c < 3 → m' c ≤ m c) : Mk S w bp r xs B N F its m' :=
  ⟨h.bk, h.fr, fun c i p hc hi hp => h.wn c i p hc (Nat.lt_of_lt_of_le hi (hm c hc)) hp, h.nd, h.ap⟩
theorem Mk.low {S S' : Nat} {w : World} {bp : Nat} {r : Nat → Value} {xs : Nat → List Value} {B N F : Nat} {its : Nat → List (Value × Value)} {m : Nat → Nat} (h : Mk S w bp r xs B N F its m) (hS : S' ≤ S) : Mk S' w bp r xs B N F its m :=
  ⟨h.bk, h.fr, fun c i p hc hi hp => by
    obtain ⟨n, cs, h1, h2, h3, h4, h5⟩ := h.wn c i p hc hi hp
    exact ⟨n, cs, h1, h2, h3, h4, fun k hk => ⟨Nat.le_trans hS (h5 k hk).1, (h5 k hk).2⟩⟩, h.nd, h.ap⟩
theorem St.done {a : Nat → List Value} {i0 : Nat → List (Value × Value)} {w W : World} {bp : Nat} {r : Nat → Value} {xs : Nat → List Value} {its : Nat → List (Value × Value)} {m : Nat → Nat} (h : St a i0 w W bp r xs its m) (hm : ∀ c, c < 3 → (i0 c).length ≤ m c) {w9 : World}
    (hM : Mk w.heap.size w9 bp r xs (a 0).length (a 2).length (a 4).length its m) (e : Ext (ifeet its) W w9) {n0 n1 n2 : Nat} (h0 : (a (2 * 0)).length + (i0 0).length = n0) (h1 : (a (2 * 1)).length + (i0 1).length = n1) (h2 : (a (2 * 2)).length + (i0 2).length = n2) {w' : World}
    (hw : w' = ((w9.setCell ⟨bp, 6, none⟩ (.int .i64 n0)).setCell ⟨bp, 7, none⟩ (.int .i64 n1)).setCell ⟨bp, 8, none⟩ (.int .i64 n2)) :
    ∃ ys jts, Mk w.heap.size w' bp r ys (ys 0).length (ys 2).length (ys 4).length jts (fun c => (jts c).length) ∧ Rw a ys jts ∧ (∀ k, ifeet jts k ↔ ifeet i0 k) ∧ (∀ c, (jts c).length = (i0 c).length) ∧ Step (fun k => bkBlk r bp k ∨ ifeet i0 k) w (fun k => bkBlk r bp k ∨ ifeet i0 k) w' := by
  subst hw
  obtain ⟨hb, hS⟩ := hM.bk.nums n0 n1 n2
  have l0 := h.lenp (c := 0) (by omega)
  have l1 := h.lenp (c := 1) (by omega)
  have l2 := h.lenp (c := 2) (by omega)
  rw [h0] at l0
  rw [h1] at l1
  rw [h2] at l2
  have hM2 := (hM.rows hb hS).less (m' := fun c => (its c).length) fun c hc => by rw [h.len]; exact hm c hc
  subst l0 l1 l2
  have e2 : Ext (fun k => bkBlk r bp k ∨ ifeet its k) W w9 := e.mono fun k _ hk => .inr hk
  have e3 := e2.trans hS.1 fun k _ hk => .inl hk
  exact ⟨xs, its, hM2, h.rws, h.fe, h.len, h.ext.1.trans e3 fun k _ hk => hk.imp id (h.fe k).1, fun k hk => .inl hk⟩
theorem wpList_append_own {P : Program} {ops : Array Oper} {rest : List Oper} {o : Oper} {a : Act} {Q : Exit → Act → World → Prop} {w : World} {v : Value} {n m size bytes : Nat} {e t tx : TypeId} {z : Value} {xs news : List Value} {vx : Value}
    (hinfo : (P.info? e).map (fun i => (i.zero, i.size, i.bytes)) = some (some z, size, bytes)) (hz : z.cells.size = size) (hu : P.underlying t = some (.slice e)) (hown : Own w e size v n xs)
    (hsrc : Src P size tx vx m news w) (h63 : n + m ≤ maxLen) (hbytes : (n + m) * bytes ≤ 140737488355328) (hgd : o.guard = none) (s x : Operand)
    (ho : o.op = .call { callee := .builtin .append, args := #[s, x], argTypes := #[t, tx] }) (hs : a.eval s = v) (hx : a.eval x = vx)
    (h : ∀ ao cap w', n + m ≤ cap → cap ≤ maxLen → Own w' e size (.slice ao (n + m) cap) (n + m) (xs ++ news) → Step (inFoot v) w (inFoot (.slice ao (n + m) cap)) w' →
      wpList P ops Q rest (a.put o.dst (.slice ao (n + m) cap)) w') : wpList P ops Q (o :: rest) a w := by
  obtain ⟨i, hi, h0, h1, h2⟩ := info_parts hinfo
  obtain ⟨v', w', hr, h3, h4, h5⟩ := run_append (P := P) w t tx o.type e i z size bytes hu hi h0 h1 h2 hz v n xs hown vx m news hsrc h63 hbytes
  obtain ⟨ao, cap, rfl, h6, h7⟩ := h3.shape
  refine wpList_plain hgd fun K hK => ?_
  unfold Oper.wp execOp
  simp only [ho, resolve, invoke, builtin, Sem.run_bind, Sem.run_pure, Result.andThen_ok, List.map_toArray, List.map_cons, List.map_nil, hs, hx, hr]
  exact hK _ _ (h ao cap w' h6 h7 h3 ⟨h4, h5⟩)
theorem wrap_byte (x : Int) : ∃ b : UInt8, IntKind.u8.wrap x = (b.toNat : Int) := by
  refine ⟨UInt8.ofNat (x % 256).toNat, ?_⟩
  rw [IntKind.wrap_u8']
  have h1 := Int.emod_nonneg x (show (256 : Int) ≠ 0 by omega)
  have h2 := Int.emod_lt_of_pos x (show (0 : Int) < 256 by omega)
  rw [UInt8.toNat_ofNat']
  omega
theorem two_bytes (w : World) (a b : UInt8) : (convert 31 9 (.slice (some ⟨w.heap.size, 0, none⟩) 2 2)).run Try.prog (w.alloc (.cells #[.int .u8 (a.toNat : Int), .int .u8 (b.toNat : Int)] 5 (0, 0))) = .ok (.string ⟨[a, b].toArray⟩) (w.alloc (.cells #[.int .u8 (a.toNat : Int), .int .u8 (b.toNat : Int)] 5 (0, 0))) :=
  to_str _ _ [a, b] (Bytes.lit w [a, b] 5 (by simp [maxLen]))
end Go.Proofs.Ytnppneilbkmnfaa
namespace Go.Proofs.Ytnppneilbkmnfaa
open Go.RowKit

theorem cgd_b (l : List UInt8) : cgd 0 (bvs l) := (⟨l, rfl⟩ : ∃ l' : List UInt8, bvs l = bvs l')
theorem cgd_n (l : List Nm) : cgd 1 (namesV l) := (⟨l, rfl⟩ : ∃ l' : List Nm, namesV l = namesV l')
theorem cgd_f (l : List Nm) : cgd 2 (filesV l) := (⟨l, rfl⟩ : ∃ l' : List Nm, filesV l = l'.flatMap fun s => [encS s, .slice none 0 0])
theorem Mk.anew {S S' : Nat} {w : World} {bp : Nat} {r : Nat → Value} {xs : Nat → List Value} {B N F : Nat} {its : Nat → List (Value × Value)} (h : Mk S w bp r xs B N F its (fun _ => 0)) : Mk S' w bp r xs B N F its (fun _ => 0) :=
  ⟨h.bk, h.fr, fun _ _ _ _ hi _ => absurd hi (Nat.not_lt_zero _), h.nd, h.ap⟩
def fileIt (x : FI) : Value × Value := (x.v, .slice none 0 0)
structure Pre (a : Nat → List Value) (its : Nat → List (Value × Value)) (w : World) (bp : Nat) (r : Nat → Value) (ib : List (Value × Value)) (xs : Nat → List Value) (W : World) (r1 : Nat → Value) (xs1 : Nat → List Value) (lm : List FI) : Prop where
  kk : Mk w.heap.size W bp r1 xs1 (a 0).length (a 2).length (a 4).length its (fun _ => 0)
  r0 : xs1 0 = a 0 ++ (ib ++ lm.map fileIt).map Prod.fst
  r1' : xs1 1 = a 1 ++ (ib ++ lm.map fileIt).map Prod.snd
  rj : ∀ j, 2 ≤ j → xs1 j = xs j
  ext : Step (bkBlk r bp) w (bkBlk r1 bp) W
theorem info_bty01 {i : Nat} (hi : i < 2) : (Try.prog.info? (bty i)).map (fun i => (i.zero, i.size, i.bytes)) = some (some (.slice none 0 0), 1, 24) := by
  have : bty i = 31 := if_pos hi
  rw [this]
  exact info_bytes31
/-- a file's bytes are put behind the row of bytes -/
theorem Pre.first {a : Nat → List Value} {its : Nat → List (Value × Value)} {w : World} {bp : Nat} {r : Nat → Value} {ib : List (Value × Value)} {xs : Nat → List Value} {W : World} {r1 : Nat → Value} {xs1 : Nat → List Value} {lm : List FI} (h : Pre a its w bp r ib xs W r1 xs1 lm)
    {X : World} (eX : Ext Nil W X) (hfit : (xs1 0).length ≤ 1099511627776) (hfit1 : (xs1 1).length ≤ 1099511627776) (ga : Option Addr) (gn gc : Nat) (ty : TypeId) :
    ∃ ao cap w2, (Builtin.append_ #[92, 92] ty #[r1 0, .slice (some ⟨X.heap.size, 0, none⟩) 1 1]).run Try.prog (X.alloc (.cells #[.slice ga gn gc] 31 (0, 0))) = .ok (.slice ao ((xs1 0).length + 1) cap) w2 ∧
      w2.cell? ⟨bp, 0, none⟩ = some (r1 0) ∧ w2.frozen? ⟨bp, 0, none⟩ = false ∧ Ext (inFoot (r1 0)) X w2 ∧
      ∀ X3, X3 = w2.setCell ⟨bp, 0, none⟩ (.slice ao ((xs1 0).length + 1) cap) → X3.cell? ⟨bp, 1, none⟩ = some (r1 1) ∧
        ∀ ty', ∃ ao' cap' w4, (Builtin.append_ #[92, 92] ty' #[r1 1, .slice (some ⟨X3.heap.size, 0, none⟩) 1 1]).run Try.prog (X3.alloc (.cells #[.slice none 0 0] 31 (0, 0))) = .ok (.slice ao' ((xs1 1).length + 1) cap') w4 ∧
          w4.cell? ⟨bp, 1, none⟩ = some (r1 1) ∧ w4.frozen? ⟨bp, 1, none⟩ = false ∧
          ∀ x : FI, x.v = .slice ga gn gc → ∃ r2 xs2, Pre a its w bp r ib xs (w4.setCell ⟨bp, 1, none⟩ (.slice ao' ((xs1 1).length + 1) cap')) r2 xs2 (lm ++ [x]) := by
  obtain ⟨ao, cap, w2, h1, h2, h3, h4, hb, hS⟩ := (h.kk.bk.ext0 eX).append (i := 0) (by omega) (ts := 92) Try.underlying92 (info_bty01 (by omega)) rfl (by omega) hfit ga gn gc ty
  refine ⟨ao, cap, w2, h1, h2, h3, h4, ?_⟩
  rintro X3 rfl
  have e1 : upd r1 0 (.slice ao ((xs1 0).length + 1) cap) 1 = r1 1 := upd_ne _ _ (by omega)
  have e2 : upd xs1 0 (xs1 0 ++ [.slice ga gn gc]) 1 = xs1 1 := upd_ne _ _ (by omega)
  have hc1 := hb.cells.cell 1 (bk_at _ _ _ _ (show 1 < 6 by omega))
  rw [e1] at hc1
  refine ⟨hc1, fun ty' => ?_⟩
  obtain ⟨ao', cap', w4, i1, i2, i3, i4, ib', iS⟩ := hb.append (i := 1) (by omega) (ts := 92) Try.underlying92 (info_bty01 (by omega)) rfl (by omega) (by rw [e2]; exact hfit1) none 0 0 ty'
  rw [e1, e2] at i1
  rw [e1] at i2
  refine ⟨ao', cap', w4, i1, i2, i3, ?_⟩
  intro x hx
  rw [e2] at ib' iS
  have hS2 := hS.trans iS
  have hS0 : Step (bkBlk r1 bp) W _ _ := ⟨(eX.mono fun _ _ h => h.elim).same hS2.1, fun k hk => (hS2.2 k hk).imp id fun h9 => Nat.le_trans eX.size h9⟩
  refine ⟨_, _, h.kk.rows ib' hS0, ?_, ?_, fun j hj => ?_, h.ext.trans hS0⟩
  · rw [upd_ne _ _ (show 0 ≠ 1 by omega), upd_self, h.r0]
    simp [fileIt, hx]
  · rw [upd_self, h.r1']
    simp [fileIt]
  · rw [upd_ne _ _ (show j ≠ 1 by omega), upd_ne _ _ (show j ≠ 0 by omega)]
    exact h.rj j hj
end Go.Proofs.Ytnppneilbkmnfaa
