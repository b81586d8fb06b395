/- Auxiliary for DiskOwn: the law's Book in memory (six rows, three numbers); lists that read alike. No condition. -/
import Derived.Test.YtnppneilbkmnfaaKD
namespace Go.Proofs.Ytnppneilbkmnfaa
open Go.RowKit

def upd {α : Type} (r : Nat → α) (i : Nat) (v : α) : Nat → α := fun j => if j = i then v else r j
theorem upd_self {α : Type} (r : Nat → α) (i : Nat) (v : α) : upd r i v i = v := if_pos rfl
theorem upd_ne {α : Type} (r : Nat → α) {i j : Nat} (v : α) (h : j ≠ i) : upd r i v j = r j := if_neg h
/-- the element types of the six rows -/
def bty (i : Nat) : TypeId := if i < 2 then 31 else if i < 4 then 78 else 34
def bkCells (r : Nat → Value) (B N F : Nat) : List Value := [r 0, r 1, r 2, r 3, r 4, r 5, .int .i64 B, .int .i64 N, .int .i64 F]
def bkBlk (r : Nat → Value) (bp : Nat) : Nat → Prop := fun k => k = bp ∨ ∃ i, i < 6 ∧ inFoot (r i) k
structure BK (w : World) (bp : Nat) (r : Nat → Value) (xs : Nat → List Value) (B N F : Nat) : Prop where
  cells : At w bp 96 (bkCells r B N F)
  rows : ∀ i, i < 6 → Own w (bty i) 1 (r i) (xs i).length (xs i)
  apart : ∀ i j k, i < 6 → j < 6 → inFoot (r i) k → inFoot (r j) k → i = j
  abp : ∀ i, i < 6 → ¬ inFoot (r i) bp
theorem BK.lt {w : World} {bp : Nat} {r : Nat → Value} {xs : Nat → List Value} {B N F : Nat} (h : BK w bp r xs B N F) : ∀ k, bkBlk r bp k → k < w.heap.size := by
  rintro k (rfl | ⟨i, hi, hk⟩)
  · exact h.cells.lt
  · exact (h.rows i hi).lt k hk
theorem BK.ext {X : Nat → Prop} {w w' : World} {bp : Nat} {r : Nat → Value} {xs : Nat → List Value} {B N F : Nat} (h : BK w bp r xs B N F) (e : Ext X w w') (hx : ∀ k, bkBlk r bp k → ¬ X k) : BK w' bp r xs B N F :=
  ⟨h.cells.ext e (hx bp (.inl rfl)), fun i hi => (h.rows i hi).ext e fun k hk => hx k (.inr ⟨i, hi, hk⟩), h.apart, h.abp⟩
theorem BK.ext0 {w w' : World} {bp : Nat} {r : Nat → Value} {xs : Nat → List Value} {B N F : Nat} (h : BK w bp r xs B N F) (e : Ext Nil w w') : BK w' bp r xs B N F := h.ext e fun _ _ h => h
theorem bk_set (r : Nat → Value) (B N F : Nat) {i : Nat} (hi : i < 6) (v : Value) : (bkCells r B N F).set i v = bkCells (upd r i v) B N F := by
  have : i = 0 ∨ i = 1 ∨ i = 2 ∨ i = 3 ∨ i = 4 ∨ i = 5 := by omega
  rcases this with rfl | rfl | rfl | rfl | rfl | rfl <;> rfl
theorem bk_at (r : Nat → Value) (B N F : Nat) {i : Nat} (hi : i < 6) : (bkCells r B N F)[i]? = some (r i) := by
  have : i = 0 ∨ i = 1 ∨ i = 2 ∨ i = 3 ∨ i = 4 ∨ i = 5 := by omega
  rcases this with rfl | rfl | rfl | rfl | rfl | rfl <;> rfl
theorem BK.row {w : World} {bp : Nat} {r : Nat → Value} {xs : Nat → List Value} {B N F : Nat} (h : BK w bp r xs B N F) {i : Nat} (hi : i < 6) : ∃ ao cap, r i = .slice ao (xs i).length cap ∧ (xs i).length ≤ cap ∧ cap ≤ maxLen ∧ w.cell? ⟨bp, i, none⟩ = some (.slice ao (xs i).length cap) ∧ w.frozen? ⟨bp, i, none⟩ = false := by
  obtain ⟨ao, cap, e, h1, h2⟩ := (h.rows i hi).shape
  refine ⟨ao, cap, e, h1, h2, ?_, h.cells.frozen i (by simp [bkCells]; omega)⟩
  rw [← e]
  exact h.cells.cell i (bk_at r B N F hi)
/-- an element of a row -/
theorem BK.elem {w : World} {bp : Nat} {r : Nat → Value} {xs : Nat → List Value} {B N F : Nat} (h : BK w bp r xs B N F) {i : Nat} (hi : i < 6) {k : Nat} (hk : k < (xs i).length) :
    ∃ g c u, r i = .slice (some ⟨g, 0, none⟩) (xs i).length (c + 1) ∧ w.cell? ⟨bp, i, none⟩ = some (.slice (some ⟨g, 0, none⟩) (xs i).length (c + 1)) ∧ g < w.heap.size ∧ (xs i)[k]? = some u ∧ w.cell? ⟨g, k, none⟩ = some u ∧ w.frozen? ⟨g, k, none⟩ = false ∧ (xs i).length ≤ c + 1 := by
  obtain ⟨ao, cap, e, h1, h2, h3, -⟩ := h.row hi
  have ho := h.rows i hi
  rw [e] at ho
  obtain ⟨g, c, u, rfl, rfl, q3, q4, q5, q6, -⟩ := own1_at ho hk
  exact ⟨g, c, u, e, h3, q3, q4, q5, q6, h1⟩
/-- a store into a row -/
theorem BK.store {w : World} {bp : Nat} {r : Nat → Value} {xs : Nat → List Value} {B N F : Nat} (h : BK w bp r xs B N F) {i : Nat} (hi : i < 6) {k : Nat} (hk : k < (xs i).length) {g n c : Nat} (hr : r i = .slice (some ⟨g, 0, none⟩) n c) (v : Value) :
    BK (w.setCell ⟨g, k, none⟩ v) bp r (upd xs i ((xs i).set k v)) B N F ∧ Step (bkBlk r bp) w (bkBlk r bp) (w.setCell ⟨g, k, none⟩ v) := by
  have ho := h.rows i hi
  obtain ⟨ao, cap, e, -, -⟩ := ho.shape
  have e' := e
  rw [hr] at e'
  simp only [Value.slice.injEq] at e'
  obtain ⟨rfl, rfl, rfl⟩ := e'
  rw [hr] at ho
  obtain ⟨g', c', u, q1, rfl, -, -, -, -, hset⟩ := own1_at ho hk
  simp only [Option.some.injEq, Addr.mk.injEq, and_true] at q1
  subst q1
  have hin : inFoot (r i) g := by rw [hr]; rfl
  have eS : Ext (One g) w (w.setCell ⟨g, k, none⟩ v) := (Ext.refl (One g) w).setCell (p := ⟨g, k, none⟩) (fun _ => rfl) v
  refine ⟨⟨h.cells.ext eS fun e => h.abp i hi (by have e : bp = g := e; rw [e]; exact hin), fun j hj => ?_, h.apart, h.abp⟩, eS.mono fun k' _ e => .inr ⟨i, hi, by have e : k' = g := e; rw [e]; exact hin⟩, fun k hk => .inl hk⟩
  by_cases hji : j = i
  · subst hji
    rw [upd_self, List.length_set]
    have := hset v
    rw [← hr] at this
    exact this
  · rw [upd_ne _ _ hji]
    exact (h.rows j hj).ext eS fun k' hk' e => hji (h.apart j i g hj hi (by have e : k' = g := e; rw [← e]; exact hk') hin)
/-- a number of the book's -/
theorem BK.nums {w : World} {bp : Nat} {r : Nat → Value} {xs : Nat → List Value} {B N F : Nat} (h : BK w bp r xs B N F) (B' N' F' : Nat) : BK (((w.setCell ⟨bp, 6, none⟩ (.int .i64 B')).setCell ⟨bp, 7, none⟩ (.int .i64 N')).setCell ⟨bp, 8, none⟩ (.int .i64 F')) bp r xs B' N' F' ∧ Step (bkBlk r bp) w (bkBlk r bp) (((w.setCell ⟨bp, 6, none⟩ (.int .i64 B')).setCell ⟨bp, 7, none⟩ (.int .i64 N')).setCell ⟨bp, 8, none⟩ (.int .i64 F')) := by
  have eS : Ext (One bp) w (((w.setCell ⟨bp, 6, none⟩ (.int .i64 B')).setCell ⟨bp, 7, none⟩ (.int .i64 N')).setCell ⟨bp, 8, none⟩ (.int .i64 F')) :=
    (((Ext.refl (One bp) w).setCell (p := ⟨bp, 6, none⟩) (fun _ => rfl) _).setCell (p := ⟨bp, 7, none⟩) (fun _ => rfl) _).setCell (p := ⟨bp, 8, none⟩) (fun _ => rfl) _
  exact ⟨⟨((h.cells.set 6 (.int .i64 B')).set 7 (.int .i64 N')).set 8 (.int .i64 F'), fun j hj => (h.rows j hj).ext eS fun k hk e => h.abp j hj (by have e : k = bp := e; rw [← e]; exact hk), h.apart, h.abp⟩, eS.mono fun k _ e => .inl e, fun k hk => .inl hk⟩
/-- append of a slice onto a row, and the store of the row into the book -/
theorem BK.append {w : World} {bp : Nat} {r : Nat → Value} {xs : Nat → List Value} {B N F : Nat} (h : BK w bp r xs B N F) {i : Nat} (hi : i < 6) {ts : TypeId} (hu : Try.prog.underlying ts = some (.slice (bty i))) {z : Value} {by_ : Nat} (hinf : (Try.prog.info? (bty i)).map (fun i => (i.zero, i.size, i.bytes)) = some (some z, 1, by_)) (hz : z.cells.size = 1) (hby : by_ ≤ 64) (hfit : (xs i).length ≤ 1099511627776) (ga : Option Addr) (gn gc : Nat) (ty : TypeId) :
    ∃ ao cap w', (Builtin.append_ #[ts, ts] ty #[r i, .slice (some ⟨w.heap.size, 0, none⟩) 1 1]).run Try.prog (w.alloc (.cells #[.slice ga gn gc] (bty i) (0, 0))) = .ok (.slice ao ((xs i).length + 1) cap) w' ∧
      w'.cell? ⟨bp, i, none⟩ = some (r i) ∧ w'.frozen? ⟨bp, i, none⟩ = false ∧
      Ext (inFoot (r i)) w w' ∧
      BK (w'.setCell ⟨bp, i, none⟩ (.slice ao ((xs i).length + 1) cap)) bp (upd r i (.slice ao ((xs i).length + 1) cap)) (upd xs i (xs i ++ [.slice ga gn gc])) B N F ∧
      Step (bkBlk r bp) w (bkBlk (upd r i (.slice ao ((xs i).length + 1) cap)) bp) (w'.setCell ⟨bp, i, none⟩ (.slice ao ((xs i).length + 1) cap)) := by
  have ho := h.rows i hi
  have e : Ext Nil w (w.alloc (.cells #[.slice ga gn gc] (bty i) (0, 0))) := (Ext.refl _ _).alloc _
  obtain ⟨ti, hti, hz', h1, h2⟩ := info_parts hinf
  obtain ⟨v', w', hr, h3, h4, h5⟩ := run_append (P := Try.prog) (w.alloc (.cells #[.slice ga gn gc] (bty i) (0, 0))) ts ts ty (bty i) ti z 1 by_ hu hti hz' h1 h2 hz (r i) (xs i).length (xs i) (ho.ext e fun _ _ h => h) (.slice (some ⟨w.heap.size, 0, none⟩) 1 1) 1 [.slice ga gn gc]
    (Reads.src (P := Try.prog) (Reads.item w [.slice ga gn gc] (bty i) 1 rfl) hu (by intro u hu; rw [List.mem_singleton] at hu; subst hu; rfl)) (by unfold maxLen; omega) (by
      have : ((xs i).length + 1) * by_ ≤ ((xs i).length + 1) * 64 := Nat.mul_le_mul_left _ hby
      omega)
  obtain ⟨ao, cap, rfl, h6, h7⟩ := h3.shape
  have hbl := h.cells.lt
  have hsz := e.size
  have hA := (h.cells.ext e fun h => h).ext h4 (h.abp i hi)
  have hnew : ∀ k, inFoot (.slice ao ((xs i).length + 1) cap) k → inFoot (r i) k ∨ w.heap.size ≤ k := fun k hk => (h5 k hk).imp id fun h => Nat.le_trans hsz h
  have hnbp : ¬ inFoot (.slice ao ((xs i).length + 1) cap) bp := fun hk => (hnew bp hk).elim (h.abp i hi) fun h => by omega
  have eS : Ext (One bp) w' (w'.setCell ⟨bp, i, none⟩ (.slice ao ((xs i).length + 1) cap)) := (Ext.refl (One bp) w').setCell (p := ⟨bp, i, none⟩) (fun _ => rfl) _
  refine ⟨ao, cap, w', hr, hA.cell i (bk_at r B N F hi), hA.frozen i (by simp [bkCells]; omega), (e.mono (G := inFoot (r i)) fun _ _ h => h.elim).same h4, ⟨?_, fun j hj => ?_, fun j l k hj hl hk1 hk2 => ?_, fun j hj hk => ?_⟩, ?_, fun k hk => ?_⟩
  · have := hA.set i (.slice ao ((xs i).length + 1) cap)
    rwa [bk_set r B N F hi] at this
  · by_cases hji : j = i
    · subst hji
      rw [upd_self, upd_self, List.length_append]
      exact h3.ext eS fun k hk e => hnbp (by have e : k = bp := e; rw [← e]; exact hk)
    · rw [upd_ne _ _ hji, upd_ne _ _ hji]
      exact (((h.rows j hj).ext e fun _ _ h => h).ext h4 fun k hk hf => hji (h.apart j i k hj hi hk hf)).ext eS fun k hk e => h.abp j hj (by have e : k = bp := e; rw [← e]; exact hk)
  · by_cases h1 : j = i
    · by_cases h2 : l = i
      · omega
      · subst h1
        rw [upd_self] at hk1
        rw [upd_ne _ _ h2] at hk2
        rcases hnew k hk1 with h9 | h9
        · exact h.apart j l k hj hl h9 hk2
        · have := (h.rows l hl).lt k hk2
          omega
    · by_cases h2 : l = i
      · subst h2
        rw [upd_self] at hk2
        rw [upd_ne _ _ h1] at hk1
        rcases hnew k hk2 with h9 | h9
        · exact h.apart j l k hj hl hk1 h9
        · have := (h.rows j hj).lt k hk1
          omega
      · rw [upd_ne _ _ h1] at hk1
        rw [upd_ne _ _ h2] at hk2
        exact h.apart j l k hj hl hk1 hk2
  · by_cases h1 : j = i
    · subst h1
      rw [upd_self] at hk
      exact hnbp hk
    · rw [upd_ne _ _ h1] at hk
      exact h.abp j hj hk
  · exact ((e.mono fun _ _ h => h.elim).same (h4.mono fun k _ hk => .inr ⟨i, hi, hk⟩)).same (eS.mono fun k _ e => .inl e) |> fun h => h
  · rcases hk with rfl | ⟨j, hj, hk⟩
    · exact .inl (.inl rfl)
    · by_cases h1 : j = i
      · subst h1
        rw [upd_self] at hk
        exact (hnew k hk).imp (fun h => .inr ⟨j, hj, h⟩) id
      · rw [upd_ne _ _ h1] at hk
        exact .inl (.inr ⟨j, hj, hk⟩)

/-! ### lists that read alike -/
def TwB (w : World) (X : Nat → Prop) (p : Value × Value) : Prop := ∃ c : List UInt8, Bytes w p.1 c ∧ Bytes w p.2 c ∧ ∀ k, inFoot p.1 k ∨ inFoot p.2 k → k < w.heap.size ∧ ¬ X k
def TwN (w : World) (X : Nat → Prop) (p : Value × Value) : Prop := ∃ c : List Nm, Own w 9 1 p.1 c.length (namesV c) ∧ Own w 9 1 p.2 c.length (namesV c) ∧ ∀ k, inFoot p.1 k ∨ inFoot p.2 k → k < w.heap.size ∧ ¬ X k
def TwF (w : World) (X : Nat → Prop) (p : Value × Value) : Prop := ∃ c d : List FI, ImgV w p.1 c ∧ ImgV w p.2 d ∧ c.map FI.pair = d.map FI.pair ∧ ∀ k, k ∈ ibl p.1 c ∨ k ∈ ibl p.2 d → k < w.heap.size ∧ ¬ X k
theorem twin_feet {w w' : World} {X X' : Nat → Prop} {P : Nat → Prop} (h : ∀ k, P k → k < w.heap.size ∧ ¬ X k) (e : Step X w X' w') : ∀ k, P k → k < w'.heap.size ∧ ¬ X' k :=
  fun k hk => ⟨Nat.lt_of_lt_of_le (h k hk).1 e.1.size, fun hx => (e.2 k hx).elim (h k hk).2 fun h9 => by have := (h k hk).1; omega⟩
theorem TwB.step {w w' : World} {X X' : Nat → Prop} {p : Value × Value} (h : TwB w X p) (e : Step X w X' w') : TwB w' X' p := by
  obtain ⟨c, h1, h2, h3⟩ := h
  exact ⟨c, h1.ext e.1 fun k hk => (h3 k (.inl hk)).2, h2.ext e.1 fun k hk => (h3 k (.inr hk)).2, twin_feet h3 e⟩
theorem TwN.step {w w' : World} {X X' : Nat → Prop} {p : Value × Value} (h : TwN w X p) (e : Step X w X' w') : TwN w' X' p := by
  obtain ⟨c, h1, h2, h3⟩ := h
  exact ⟨c, h1.ext e.1 fun k hk => (h3 k (.inl hk)).2, h2.ext e.1 fun k hk => (h3 k (.inr hk)).2, twin_feet h3 e⟩
theorem TwF.step {w w' : World} {X X' : Nat → Prop} {p : Value × Value} (h : TwF w X p) (e : Step X w X' w') : TwF w' X' p := by
  obtain ⟨c, d, h1, h2, h3, h4⟩ := h
  exact ⟨c, d, h1.ext e.1 fun k hk => (h4 k (.inl hk)).2, h2.ext e.1 fun k hk => (h4 k (.inr hk)).2, h3, twin_feet h4 e⟩
structure Twins (w : World) (X : Nat → Prop) (lb ln lf : List (Value × Value)) : Prop where
  b : ∀ p ∈ lb, TwB w X p
  n : ∀ p ∈ ln, TwN w X p
  f : ∀ p ∈ lf, TwF w X p
theorem Twins.step {w w' : World} {X X' : Nat → Prop} {lb ln lf : List (Value × Value)} (h : Twins w X lb ln lf) (e : Step X w X' w') : Twins w' X' lb ln lf :=
  ⟨fun p hp => (h.b p hp).step e, fun p hp => (h.n p hp).step e, fun p hp => (h.f p hp).step e⟩
theorem Twins.ext0 {w w' : World} {X : Nat → Prop} {lb ln lf : List (Value × Value)} (h : Twins w X lb ln lf) (e : Ext Nil w w') : Twins w' X lb ln lf := h.step ⟨e.mono fun _ _ h => h.elim, fun _ h => .inl h⟩
/-- what the six rows hold -/
structure Holds6 (xs : Nat → List Value) (lb ln lf : List (Value × Value)) : Prop where
  b : xs 0 = lb.map Prod.fst ∧ xs 1 = lb.map Prod.snd
  n : xs 2 = ln.map Prod.fst ∧ xs 3 = ln.map Prod.snd
  f : xs 4 = lf.map Prod.fst ∧ xs 5 = lf.map Prod.snd
end Go.Proofs.Ytnppneilbkmnfaa
