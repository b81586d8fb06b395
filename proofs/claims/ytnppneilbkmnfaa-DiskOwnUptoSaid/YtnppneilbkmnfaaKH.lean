/- DiskOwn: the items of a round that are not marked yet. No condition. -/
import Derived.Test.YtnppneilbkmnfaaKG
namespace Go.Proofs.Ytnppneilbkmnfaa
open Go.RowKit

def cty (c : Nat) : TypeId := if c = 1 then 9 else if c = 2 then 41 else 5
def csz (c : Nat) : Nat := if c = 2 then 2 else 1
def cgd (c : Nat) (cs : List Value) : Prop := if c = 1 then ∃ l : List Nm, cs = namesV l else if c = 2 then ∃ l : List Nm, cs = l.flatMap (fun s => [encS s, .slice none 0 0]) else ∃ l : List UInt8, cs = bvs l
def Fr (c : Nat) (w : World) (v : Value) : Prop := ∃ n cs, Own w (cty c) (csz c) v n cs ∧ n ≤ 1073741824
def Wn (c : Nat) (S : Nat) (w : World) (X : Nat → Prop) (p : Value × Value) : Prop := ∃ n cs, Own w (cty c) (csz c) p.1 n cs ∧ Own w (cty c) (csz c) p.2 n cs ∧ cgd c cs ∧ n ≤ 1073741824 ∧ ∀ k, inFoot p.2 k → S ≤ k ∧ k < w.heap.size ∧ ¬ X k
theorem Fr.ext {c : Nat} {w w' : World} {v : Value} {Y : Nat → Prop} (h : Fr c w v) (e : Ext Y w w') (hx : ∀ k, inFoot v k → ¬ Y k) : Fr c w' v := by
  obtain ⟨n, cs, h1, h2⟩ := h
  exact ⟨n, cs, h1.ext e hx, h2⟩
theorem Fr.lt {c : Nat} {w : World} {v : Value} (h : Fr c w v) : ∀ k, inFoot v k → k < w.heap.size := by
  obtain ⟨n, cs, h1, h2⟩ := h
  exact h1.lt
theorem Wn.fr {c S : Nat} {w : World} {X : Nat → Prop} {p : Value × Value} (h : Wn c S w X p) : Fr c w p.1 := by
  obtain ⟨n, cs, h1, h2, h3, h4, h5⟩ := h
  exact ⟨n, cs, h1, h4⟩
theorem Wn.ext {c S : Nat} {w w' : World} {X X' Y : Nat → Prop} {p : Value × Value} (h : Wn c S w X p) (e : Ext Y w w') (hx : ∀ k, inFoot p.1 k → ¬ Y k) (hy : ∀ k, Y k → X k) (hX : ∀ k, X' k → X k ∨ w.heap.size ≤ k) : Wn c S w' X' p := by
  obtain ⟨n, cs, h1, h2, h3, h4, h5⟩ := h
  exact ⟨n, cs, h1.ext e hx, h2.ext e fun k hk hk2 => (h5 k hk).2.2 (hy k hk2), h3, h4, fun k hk => ⟨(h5 k hk).1, Nat.lt_of_lt_of_le (h5 k hk).2.1 e.size, fun hk2 => (hX k hk2).elim (h5 k hk).2.2 fun h6 => by have := (h5 k hk).2.1; omega⟩⟩

def ifeet (its : Nat → List (Value × Value)) (k : Nat) : Prop := ∃ c p, c < 3 ∧ p ∈ its c ∧ inFoot p.1 k
def Nd (its : Nat → List (Value × Value)) : Prop := ∀ (c i : Nat) (p : Value × Value) (c' j : Nat) (p' : Value × Value) (k : Nat), c < 3 → c' < 3 → (its c)[i]? = some p → (its c')[j]? = some p' → inFoot p.1 k → inFoot p'.1 k → c = c' ∧ i = j
theorem Nd.none : Nd (fun _ => []) := fun c i p c' j p' k _ _ h => by simp at h
theorem ifeet.none {k : Nat} : ¬ ifeet (fun _ => []) k := by
  rintro ⟨c, p, -, h, -⟩
  cases h
theorem ifeet_snoc {its : Nat → List (Value × Value)} {c : Nat} {p : Value × Value} (hc : c < 3) {k : Nat} : ifeet (upd its c (its c ++ [p])) k ↔ ifeet its k ∨ inFoot p.1 k := by
  constructor
  · rintro ⟨d, q, hd, hq, hk⟩
    by_cases h : d = c
    · subst h
      rw [upd_self, List.mem_append, List.mem_singleton] at hq
      rcases hq with hq | rfl
      · exact .inl ⟨d, q, hd, hq, hk⟩
      · exact .inr hk
    · rw [upd_ne _ _ h] at hq
      exact .inl ⟨d, q, hd, hq, hk⟩
  · rintro (⟨d, q, hd, hq, hk⟩ | hk)
    · refine ⟨d, q, hd, ?_, hk⟩
      by_cases h : d = c
      · subst h
        rw [upd_self, List.mem_append]
        exact .inl hq
      · rw [upd_ne _ _ h]
        exact hq
    · exact ⟨c, p, hc, by rw [upd_self]; simp, hk⟩
theorem upd_get {its : Nat → List (Value × Value)} {c : Nat} {p : Value × Value} {d i : Nat} {q : Value × Value} (h : (upd its c (its c ++ [p]) d)[i]? = some q) : (its d)[i]? = some q ∨ (d = c ∧ i = (its c).length ∧ q = p) := by
  by_cases hd : d = c
  · subst hd
    rw [upd_self, List.getElem?_append] at h
    split at h
    · exact .inl h
    · next hl =>
      obtain ⟨h1, h2⟩ := List.getElem?_eq_some_iff.1 h
      simp only [List.length_singleton] at h1
      refine .inr ⟨rfl, by omega, ?_⟩
      have : i - (its d).length = 0 := by omega
      simp only [this, List.getElem_cons_zero] at h2
      exact h2.symm
  · rw [upd_ne _ _ hd] at h
    exact .inl h
theorem Nd.snoc {its : Nat → List (Value × Value)} (h : Nd its) {c : Nat} {p : Value × Value} (hp : ∀ k, inFoot p.1 k → ¬ ifeet its k) : Nd (upd its c (its c ++ [p])) := by
  intro d i q d' j q' k hd hd' h1 h2 k1 k2
  rcases upd_get h1 with a1 | ⟨rfl, rfl, rfl⟩
  · rcases upd_get h2 with a2 | ⟨rfl, rfl, rfl⟩
    · exact h d i q d' j q' k hd hd' a1 a2 k1 k2
    · exact absurd ⟨d, q, hd, List.mem_of_getElem? a1, k1⟩ (hp k k2)
  · rcases upd_get h2 with a2 | ⟨rfl, rfl, rfl⟩
    · exact absurd ⟨d', q', hd', List.mem_of_getElem? a2, k2⟩ (hp k k1)
    · exact ⟨rfl, rfl⟩

/-- a round's book: the book, and the items that are not marked; of class c the first m c are written full already -/
structure Mk (S : Nat) (w : World) (bp : Nat) (r : Nat → Value) (xs : Nat → List Value) (B N F : Nat) (its : Nat → List (Value × Value)) (m : Nat → Nat) : Prop where
  bk : BK w bp r xs B N F
  fr : ∀ c p, c < 3 → p ∈ its c → Fr c w p.1
  wn : ∀ c i p, c < 3 → i < m c → (its c)[i]? = some p → Wn c S w (fun k => bkBlk r bp k ∨ ifeet its k) p
  nd : Nd its
  ap : ∀ k, ifeet its k → ¬ bkBlk r bp k
section
variable {S : Nat} {w : World} {bp : Nat} {r : Nat → Value} {xs : Nat → List Value} {B N F : Nat} {its : Nat → List (Value × Value)} {m : Nat → Nat} (h : Mk S w bp r xs B N F its m)
include h
theorem Mk.lt {k : Nat} (hk : ifeet its k) : k < w.heap.size := by
  obtain ⟨c, p, hc, hp, hk⟩ := hk
  exact (h.fr c p hc hp).lt k hk
/-- an item's memory turns -/
theorem Mk.frame {w' : World} {Y : Nat → Prop} (e : Ext Y w w') {c i : Nat} {p : Value × Value} (hc : c < 3) (hp : (its c)[i]? = some p) (hY : ∀ k, Y k → inFoot p.1 k) (hF : Fr c w' p.1) (hW : i < m c → Wn c S w' (fun k => bkBlk r bp k ∨ ifeet its k) p) : Mk S w' bp r xs B N F its m := by
  have hYf : ∀ k, Y k → ifeet its k := fun k hk => ⟨c, p, hc, List.mem_of_getElem? hp, hY k hk⟩
  refine ⟨h.bk.ext e fun k hk hy => h.ap k (hYf k hy) hk, fun c' p' hc' hp' => ?_, fun c' j p' hc' hj hp' => ?_, h.nd, h.ap⟩
  · obtain ⟨j, hj⟩ := List.mem_iff_getElem?.1 hp'
    by_cases hex : ∃ k, inFoot p'.1 k ∧ Y k
    · obtain ⟨k, k1, k2⟩ := hex
      obtain ⟨rfl, rfl⟩ := h.nd c' j p' c i p k hc' hc hj hp k1 (hY k k2)
      rw [hp] at hj
      cases hj
      exact hF
    · exact (h.fr c' p' hc' hp').ext e fun k k1 k2 => hex ⟨k, k1, k2⟩
  · by_cases hex : ∃ k, inFoot p'.1 k ∧ Y k
    · obtain ⟨k, k1, k2⟩ := hex
      obtain ⟨rfl, rfl⟩ := h.nd c' j p' c i p k hc' hc hp' hp k1 (hY k k2)
      rw [hp] at hp'
      cases hp'
      exact hW hj
    · exact (h.wn c' j p' hc' hj hp').ext e (fun k k1 k2 => hex ⟨k, k1, k2⟩) (fun k hk => .inr (hYf k hk)) fun k hk => .inl hk
theorem Mk.ext0 {w' : World} (e : Ext Nil w w') : Mk S w' bp r xs B N F its m :=
  ⟨h.bk.ext0 e, fun c p hc hp => (h.fr c p hc hp).ext e fun _ _ h => h, fun c i p hc hi hp => (h.wn c i p hc hi hp).ext e (fun _ _ h => h) (fun _ h => h.elim) fun _ hk => .inl hk, h.nd, h.ap⟩
/-- the book turns -/
theorem Mk.rows {w' : World} {r' : Nat → Value} {xs' : Nat → List Value} {B' N' F' : Nat} (hb : BK w' bp r' xs' B' N' F') (hS : Step (bkBlk r bp) w (bkBlk r' bp) w') : Mk S w' bp r' xs' B' N' F' its m := by
  refine ⟨hb, fun c p hc hp => (h.fr c p hc hp).ext hS.1 fun k hk => h.ap k ⟨c, p, hc, hp, hk⟩, fun c i p hc hi hp => (h.wn c i p hc hi hp).ext hS.1 (fun k hk => h.ap k ⟨c, p, hc, List.mem_of_getElem? hp, hk⟩) (fun k hk => .inl hk) fun k hk => ?_, h.nd, fun k hk hk2 => ?_⟩
  · rcases hk with hk | hk
    · exact (hS.2 k hk).imp .inl id
    · exact .inl (.inr hk)
  · rcases hS.2 k hk2 with h2 | h2
    · exact h.ap k hk h2
    · have := h.lt hk
      omega
/-- an item is written full, and its copy lies in the book -/
theorem Mk.write {w' : World} {c i : Nat} {p : Value × Value} (hc : c < 3) (hi : i = m c) (hp : (its c)[i]? = some p) (e : Ext (inFoot p.1) w w') {n : Nat} {cs : List Value} {q : Value} (h1 : Own w' (cty c) (csz c) p.1 n cs) (h2 : Own w' (cty c) (csz c) q n cs) (h3 : cgd c cs) (h4 : n ≤ 1073741824) (h5 : ∀ k, inFoot q k → S ≤ k ∧ w.heap.size ≤ k)
    {j : Nat} (hj : j < (xs (2 * c + 1)).length) {g n' c' : Nat} (hr : r (2 * c + 1) = .slice (some ⟨g, 0, none⟩) n' c') :
    Mk S (w'.setCell ⟨g, j, none⟩ q) bp r (upd xs (2 * c + 1) ((xs (2 * c + 1)).set j q)) B N F (upd its c ((its c).set i (p.1, q))) (upd m c (i + 1)) ∧ Step (fun k => bkBlk r bp k ∨ ifeet its k) w (fun k => bkBlk r bp k ∨ ifeet its k) (w'.setCell ⟨g, j, none⟩ q) := by
  have hmem := List.mem_of_getElem? hp
  have hpf : ∀ k, inFoot p.1 k → ifeet its k := fun k hk => ⟨c, p, hc, hmem, hk⟩
  have hil := (List.getElem?_eq_some_iff.1 hp).1
  have hM := h.frame e hc hp (fun _ hk => hk) ⟨n, cs, h1, h4⟩ (fun hlt => by omega)
  obtain ⟨hb, hS⟩ := hM.bk.store (i := 2 * c + 1) (by omega) hj hr q
  have hM2 := hM.rows hb hS
  have hfe : ∀ k, ifeet (upd its c ((its c).set i (p.1, q))) k ↔ ifeet its k := by
    intro k
    constructor
    · rintro ⟨d, p', hd, hp', hk⟩
      by_cases hdc : d = c
      · subst hdc
        rw [upd_self] at hp'
        rcases List.mem_or_eq_of_mem_set hp' with h9 | rfl
        · exact ⟨d, p', hd, h9, hk⟩
        · exact hpf k hk
      · rw [upd_ne _ _ hdc] at hp'
        exact ⟨d, p', hd, hp', hk⟩
    · rintro ⟨d, p', hd, hp', hk⟩
      by_cases hdc : d = c
      · subst hdc
        obtain ⟨j', hj'⟩ := List.mem_iff_getElem?.1 hp'
        by_cases hji : j' = i
        · subst hji
          rw [hp] at hj'
          cases hj'
          exact ⟨d, (p.1, q), hd, by rw [upd_self]; exact List.mem_of_getElem? (i := j') (by rw [List.getElem?_set_self hil]), hk⟩
        · exact ⟨d, p', hd, by rw [upd_self]; exact List.mem_of_getElem? (i := j') (by rw [List.getElem?_set_ne (by omega)]; exact hj'), hk⟩
      · exact ⟨d, p', hd, by rw [upd_ne _ _ hdc]; exact hp', hk⟩
  have hget : ∀ d j' p', d < 3 → (upd its c ((its c).set i (p.1, q)) d)[j']? = some p' → (∃ p0, (its d)[j']? = some p0 ∧ p0.1 = p'.1 ∧ ((d = c ∧ j' = i) ∨ p0 = p')) ∧ (d = c → j' = i → p' = (p.1, q)) := by
    intro d j' p' hd hp'
    by_cases hdc : d = c
    · subst hdc
      rw [upd_self] at hp'
      by_cases hji : j' = i
      · subst hji
        rw [List.getElem?_set_self hil] at hp'
        cases hp'
        exact ⟨⟨p, hp, rfl, .inl ⟨rfl, rfl⟩⟩, fun _ _ => rfl⟩
      · rw [List.getElem?_set_ne (by omega)] at hp'
        exact ⟨⟨p', hp', rfl, .inr rfl⟩, fun _ h => absurd h hji⟩
    · rw [upd_ne _ _ hdc] at hp'
      exact ⟨⟨p', hp', rfl, .inr rfl⟩, fun h => absurd h hdc⟩
  have hX : (fun k => bkBlk r bp k ∨ ifeet (upd its c ((its c).set i (p.1, q))) k) = fun k => bkBlk r bp k ∨ ifeet its k := by
    funext k
    rw [hfe k]
  refine ⟨⟨hM2.bk, fun d p' hd hp' => ?_, fun d j' p' hd hj' hp' => ?_, fun d j' p' d' j2 p2 k hd hd' a1 a2 k1 k2 => ?_, fun k hk => h.ap k ((hfe k).1 hk)⟩, (e.mono fun k _ hk => .inr (hpf k hk)).trans hS.1 fun k _ hk => .inl hk, fun k hk => .inl hk⟩
  · obtain ⟨j', hj'⟩ := List.mem_iff_getElem?.1 hp'
    obtain ⟨⟨p0, a1, a2, -⟩, -⟩ := hget d j' p' hd hj'
    rw [← a2]
    exact hM2.fr d p0 hd (List.mem_of_getElem? a1)
  · rw [hX]
    obtain ⟨⟨p0, a1, a2, a3⟩, a4⟩ := hget d j' p' hd hp'
    by_cases hdi : d = c ∧ j' = i
    · obtain ⟨rfl, rfl⟩ := hdi
      rw [a4 rfl rfl]
      refine ⟨n, cs, h1.ext hS.1 fun k hk => h.ap k (hpf k hk), h2.ext hS.1 fun k hk hk2 => ?_, h3, h4, fun k hk => ⟨(h5 k hk).1, Nat.lt_of_lt_of_le (h2.lt k hk) hS.1.size, fun hk2 => ?_⟩⟩
      · have := (h5 k hk).2
        have := h.bk.lt k hk2
        omega
      · have h6 := (h5 k hk).2
        rcases hk2 with hk2 | hk2
        · have := h.bk.lt k hk2
          omega
        · have := h.lt hk2
          omega
    · obtain rfl := a3.resolve_left hdi
      refine hM2.wn d j' p0 hd ?_ a1
      by_cases hdc : d = c
      · subst hdc
        rw [upd_self] at hj'
        have : j' ≠ i := fun h => hdi ⟨rfl, h⟩
        omega
      · rw [upd_ne _ _ hdc] at hj'
        exact hj'
  · obtain ⟨⟨p0, b1, b2, -⟩, -⟩ := hget d j' p' hd a1
    obtain ⟨⟨p3, b3, b4, -⟩, -⟩ := hget d' j2 p2 hd' a2
    rw [← b2] at k1
    rw [← b4] at k2
    exact h.nd d j' p0 d' j2 p3 k hd hd' b1 b3 k1 k2
/-- all are written: the lists read alike -/
theorem Mk.twins (hm : ∀ c, c < 3 → (its c).length ≤ m c) (Z : Nat → Prop) (hZ1 : ∀ k, Z k → k < S) (hZ2 : ∀ k, Z k → ¬ ifeet its k) : Twins w (fun k => Z k ∨ bkBlk r bp k) (its 0) (its 1) (its 2) := by
  have key : ∀ c p, c < 3 → p ∈ its c → Wn c S w (fun k => bkBlk r bp k ∨ ifeet its k) p ∧ ∀ k, inFoot p.1 k ∨ inFoot p.2 k → k < w.heap.size ∧ ¬ (Z k ∨ bkBlk r bp k) := by
    intro c p hc hp
    obtain ⟨i, hi⟩ := List.mem_iff_getElem?.1 hp
    have hW := h.wn c i p hc (Nat.lt_of_lt_of_le (List.getElem?_eq_some_iff.1 hi).1 (hm c hc)) hi
    refine ⟨hW, ?_⟩
    obtain ⟨n, cs, -, -, -, -, h5⟩ := hW
    rintro k (hk | hk)
    · have hf : ifeet its k := ⟨c, p, hc, hp, hk⟩
      exact ⟨h.lt hf, fun hz => hz.elim (fun hz => hZ2 k hz hf) fun hz => h.ap k hf hz⟩
    · obtain ⟨a1, a2, a3⟩ := h5 k hk
      exact ⟨a2, fun hz => hz.elim (fun hz => by have := hZ1 k hz; omega) fun hz => a3 (.inl hz)⟩
  refine ⟨fun p hp => ?_, fun p hp => ?_, fun p hp => ?_⟩
  · obtain ⟨⟨n, cs, h1, h2, h3, h4, -⟩, h6⟩ := key 0 p (by omega) hp
    obtain ⟨l, rfl⟩ : ∃ l : List UInt8, cs = bvs l := h3
    have hn : n = l.length := by
      have : (bvs l).length = n * 1 := h1.1
      rw [Nat.mul_one] at this
      rw [← this]
      simp [bvs]
    subst hn
    exact ⟨l, h1.reads, h2.reads, h6⟩
  · obtain ⟨⟨n, cs, h1, h2, h3, h4, -⟩, h6⟩ := key 1 p (by omega) hp
    obtain ⟨l, rfl⟩ : ∃ l : List Nm, cs = namesV l := h3
    have hn : n = l.length := by
      have : (namesV l).length = n * 1 := h1.1
      rw [Nat.mul_one] at this
      rw [← this]
      simp [namesV]
    subst hn
    exact ⟨l, h1, h2, h6⟩
  · obtain ⟨⟨n, cs, h1, h2, h3, h4, -⟩, h6⟩ := key 2 p (by omega) hp
    obtain ⟨l, rfl⟩ : ∃ l : List Nm, cs = l.flatMap (fun s => [encS s, .slice none 0 0]) := h3
    have hl : ∀ l : List Nm, (l.flatMap fun s => [encS s, Value.slice none 0 0]).length = l.length * 2 := by
      intro l
      induction l with
      | nil => rfl
      | cons a l ih => simp only [List.flatMap_cons, List.length_append, List.length_cons, List.length_nil, ih]; omega
    have hn : n = l.length := by
      have : (l.flatMap fun s => [encS s, Value.slice none 0 0]).length = n * 2 := h1.1
      rw [hl] at this
      omega
    subst hn
    have hfl : (l.map fun s => (⟨s, [], .slice none 0 0⟩ : FI)).flatMap FI.cells = l.flatMap fun s => [encS s, Value.slice none 0 0] := by
      rw [List.flatMap_map]
      rfl
    have hI : ∀ v, Reads w 2 v l.length (l.flatMap fun s => [encS s, Value.slice none 0 0]) → ImgV w v (l.map fun s => (⟨s, [], .slice none 0 0⟩ : FI)) := by
      intro v hv
      refine ⟨?_, fun x hx => ?_⟩
      · rw [hfl, List.length_map]
        exact hv
      · obtain ⟨s, -, rfl⟩ := List.mem_map.1 hx
        exact ⟨rfl, none, 0, rfl, Nat.le_refl _, by simp [maxLen], fun h => absurd rfl h⟩
    have hib : ∀ v k, k ∈ ibl v (l.map fun s => (⟨s, [], .slice none 0 0⟩ : FI)) → inFoot v k := by
      intro v k hk
      simp only [ibl, List.mem_append, List.mem_flatMap, List.mem_map] at hk
      rcases hk with hk | ⟨x, ⟨s, -, rfl⟩, hk⟩
      · exact mem_footL.1 hk
      · simp [footL, foot] at hk
    exact ⟨_, _, hI _ h1.reads, hI _ h2.reads, rfl, fun k hk => h6 k (hk.imp (hib _ k) (hib _ k))⟩
end
end Go.Proofs.Ytnppneilbkmnfaa
