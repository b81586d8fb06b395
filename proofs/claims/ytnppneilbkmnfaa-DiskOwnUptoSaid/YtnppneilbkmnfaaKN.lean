/- DiskOwn: the states of a round. No condition. | DiskOwn: a round's calls over its states. No condition. | DiskOwn: right, mark and kept over a round's states. No condition. | DiskOwn: a step over a round's state. No condition. -/
import Derived.Test.YtnppneilbkmnfaaKM
namespace Go.Proofs.Ytnppneilbkmnfaa
open Go.RowKit

theorem Mk.begin {S : Nat} {w : World} {bp : Nat} {r : Nat → Value} {xs : Nat → List Value} {B N F : Nat} (h : BK w bp r xs B N F) : Mk S w bp r xs B N F (fun _ => []) (fun _ => 0) :=
  ⟨h, fun c p _ hp => (by cases hp), fun c i p _ hi _ => absurd hi (Nat.not_lt_zero _), Nd.none, fun k hk => absurd hk ifeet.none⟩
theorem Mk.grab {S : Nat} {w : World} {bp : Nat} {r : Nat → Value} {xs : Nat → List Value} {B N F : Nat} {its : Nat → List (Value × Value)} (h : Mk S w bp r xs B N F its (fun _ => 0)) {c : Nat} (hc : c < 3) {p : Value × Value} (hF : Fr c w p.1) (hn : ∀ k, inFoot p.1 k → ¬ ifeet its k ∧ ¬ bkBlk r bp k) :
    Mk S w bp r xs B N F (upd its c (its c ++ [p])) (fun _ => 0) := by
  refine ⟨h.bk, fun d q hd hq => ?_, fun _ _ _ _ hi _ => absurd hi (Nat.not_lt_zero _), h.nd.snoc fun k hk => (hn k hk).1, fun k hk => ?_⟩
  · by_cases hdc : d = c
    · subst hdc
      rw [upd_self, List.mem_append, List.mem_singleton] at hq
      rcases hq with hq | rfl
      · exact h.fr d q hd hq
      · exact hF
    · rw [upd_ne _ _ hdc] at hq
      exact h.fr d q hd hq
  · rcases (ifeet_snoc hc).1 hk with hk | hk
    · exact h.ap k hk
    · exact (hn k hk).2
theorem Mk.grabs {S : Nat} {w : World} {bp : Nat} {r : Nat → Value} {xs : Nat → List Value} {B N F : Nat} : ∀ (l : List FI) {its : Nat → List (Value × Value)}, Mk S w bp r xs B N F its (fun _ => 0) → (∀ x ∈ l, OwnB w x.v x.b ∧ x.b.length ≤ 1073741824) → (l.flatMap fun x => footL x.v).Nodup →
    (∀ k ∈ l.flatMap (fun x => footL x.v), ¬ ifeet its k ∧ ¬ bkBlk r bp k) → Mk S w bp r xs B N F (upd its 0 (its 0 ++ l.map fileIt)) (fun _ => 0) ∧ ∀ k, ifeet (upd its 0 (its 0 ++ l.map fileIt)) k → ifeet its k ∨ k ∈ l.flatMap fun x => footL x.v := by
  intro l
  induction l with
  | nil =>
    intro its h _ _ _
    have e : upd its 0 (its 0 ++ ([] : List FI).map fileIt) = its := by
      funext d
      by_cases hd : d = 0
      · subst hd
        rw [upd_self]
        simp
      · rw [upd_ne _ _ hd]
    rw [e]
    exact ⟨h, fun k hk => .inl hk⟩
  | cons x l ih =>
    intro its h hO hnd hn
    rw [List.flatMap_cons, List.nodup_append] at hnd
    obtain ⟨n1, n2, n3⟩ := hnd
    have hx := hO x (List.mem_cons_self ..)
    have h1 := h.grab (c := 0) (by omega) (p := fileIt x) ⟨x.b.length, bvs x.b, hx.1, hx.2⟩ fun k hk => hn k (by rw [List.flatMap_cons]; exact List.mem_append_left _ (mem_footL.2 hk))
    have h2 := ih h1 (fun y hy => hO y (List.mem_cons_of_mem _ hy)) n2 fun k hk => ⟨fun hf => by
      rcases (ifeet_snoc (by omega)).1 hf with hf | hf
      · exact (hn k (by rw [List.flatMap_cons]; exact List.mem_append_right _ hk)).1 hf
      · exact n3 k (mem_footL.2 hf) k hk rfl, (hn k (by rw [List.flatMap_cons]; exact List.mem_append_right _ hk)).2⟩
    have e : upd (upd its 0 (its 0 ++ [fileIt x])) 0 (upd its 0 (its 0 ++ [fileIt x]) 0 ++ l.map fileIt) = upd its 0 (its 0 ++ (x :: l).map fileIt) := by
      funext d
      by_cases hd : d = 0
      · subst hd
        rw [upd_self, upd_self, upd_self]
        simp
      · rw [upd_ne _ _ hd, upd_ne _ _ hd, upd_ne _ _ hd]
    rw [e] at h2
    refine ⟨h2.1, fun k hk => ?_⟩
    rcases h2.2 k hk with h3 | h3
    · rcases (ifeet_snoc (by omega)).1 h3 with h3 | h3
      · exact .inl h3
      · exact .inr (by rw [List.flatMap_cons]; exact List.mem_append_left _ (mem_footL.2 h3))
    · exact .inr (by rw [List.flatMap_cons]; exact List.mem_append_right _ h3)
theorem TwB.mono {w : World} {X X' : Nat → Prop} {p : Value × Value} (h : TwB w X p) (hX : ∀ k, X' k → X k) : TwB w X' p := by
  obtain ⟨c, h1, h2, h3⟩ := h
  exact ⟨c, h1, h2, fun k hk => ⟨(h3 k hk).1, fun hx => (h3 k hk).2 (hX k hx)⟩⟩
theorem Twins.mono {w : World} {X X' : Nat → Prop} {lb ln lf : List (Value × Value)} (h : Twins w X lb ln lf) (hX : ∀ k, X' k → X k) : Twins w X' lb ln lf := by
  refine ⟨fun p hp => (h.b p hp).mono hX, fun p hp => ?_, fun p hp => ?_⟩
  · obtain ⟨c, h1, h2, h3⟩ := h.n p hp
    exact ⟨c, h1, h2, fun k hk => ⟨(h3 k hk).1, fun hx => (h3 k hk).2 (hX k hx)⟩⟩
  · obtain ⟨c, d, h1, h2, h3, h4⟩ := h.f p hp
    exact ⟨c, d, h1, h2, h3, fun k hk => ⟨(h4 k hk).1, fun hx => (h4 k hk).2 (hX k hx)⟩⟩
theorem Twins.append {w : World} {X : Nat → Prop} {lb ln lf lb' ln' lf' : List (Value × Value)} (h : Twins w X lb ln lf) (h' : Twins w X lb' ln' lf') : Twins w X (lb ++ lb') (ln ++ ln') (lf ++ lf') :=
  ⟨fun p hp => (List.mem_append.1 hp).elim (h.b p) (h'.b p), fun p hp => (List.mem_append.1 hp).elim (h.n p) (h'.n p), fun p hp => (List.mem_append.1 hp).elim (h.f p) (h'.f p)⟩
end Go.Proofs.Ytnppneilbkmnfaa
namespace Go.Proofs.Ytnppneilbkmnfaa
open Go.RowKit

theorem Play.turn {W w w' : World} {d q p : Nat} {D : Dk} {K Y : Nat → Prop} (h : Play W w d q D K p) (e : Ext Y w w') (hK : ∀ k, K k → ¬ Y k) (hY : ∀ k, Y k → W.heap.size ≤ k ∧ k ≠ p) : Play W w' d q D K p :=
  ⟨h.pq.ext e hK, h.new, h.ext.trans e fun i hi hy => by have := (hY i hy).1; omega, h.box.ext e fun hy => (hY p hy).2 rfl⟩
def cbl (cr : List (Value × Value)) (l : List FI) : Nat → Prop := fun k => ∃ pr ∈ cr, k ∈ ibl pr.1 l
/-- what a crash left in the book in this round -/
def CrOk (W0 w : World) (K : Nat → Prop) (p bp : Nat) (r : Nat → Value) (cr : List (Value × Value)) (l : List FI) : Prop :=
  (cr = [] ∧ l = []) ∨ ∃ va vb l2, cr = [(va, vb)] ∧ ImgO w va l ∧ ImgV w vb l2 ∧ l.map FI.pair = l2.map FI.pair ∧ (∀ k ∈ ibl va l, W0.heap.size ≤ k ∧ k ≠ p ∧ ¬ K k ∧ ¬ bkBlk r bp k) ∧ (∀ k ∈ ibl vb l2, k < w.heap.size ∧ ¬ (K k ∨ bkBlk r bp k)) ∧ l.length ≤ 65536 ∧ ∀ x ∈ l, x.b.length ≤ 1073741824
theorem CrOk.step {W0 w w' : World} {K : Nat → Prop} {p bp : Nat} {r r' : Nat → Value} {cr : List (Value × Value)} {l : List FI} (h : CrOk W0 w K p bp r cr l) (e : Ext (bkBlk r bp) w w') (hr : ∀ k, bkBlk r' bp k → bkBlk r bp k ∨ w.heap.size ≤ k) : CrOk W0 w' K p bp r' cr l := by
  rcases h with h | ⟨va, vb, l2, h1, h2, h3, h4, h5, h6, h7⟩
  · exact .inl h
  · refine .inr ⟨va, vb, l2, h1, h2.ext e fun k hk => (h5 k hk).2.2.2, h3.ext e fun k hk hb => (h6 k hk).2 (.inr hb), h4, fun k hk => ⟨(h5 k hk).1, (h5 k hk).2.1, (h5 k hk).2.2.1, fun hb => ?_⟩, fun k hk => ⟨Nat.lt_of_lt_of_le (h6 k hk).1 e.size, fun hb => ?_⟩, h7⟩
    · rcases hr k hb with hb | hb
      · exact (h5 k hk).2.2.2 hb
      · have := h2.lt k hk
        omega
    · rcases hb with hb | hb
      · exact (h6 k hk).2 (.inl hb)
      · rcases hr k hb with hb | hb
        · exact (h6 k hk).2 (.inr hb)
        · have := (h6 k hk).1
          omega
theorem CrOk.lt {W0 w : World} {K : Nat → Prop} {p bp : Nat} {r : Nat → Value} {cr : List (Value × Value)} {l : List FI} (h : CrOk W0 w K p bp r cr l) {k : Nat} (hk : cbl cr l k) : k < w.heap.size ∧ W0.heap.size ≤ k ∧ k ≠ p ∧ ¬ K k ∧ ¬ bkBlk r bp k := by
  obtain ⟨pr, hp, hk⟩ := hk
  rcases h with ⟨h, -⟩ | ⟨va, vb, l2, h1, h2, h3, h4, h5, -⟩
  · rw [h] at hp
    cases hp
  · rw [h1, List.mem_singleton] at hp
    subst hp
    exact ⟨h2.lt k hk, h5 k hk⟩
/-- ahead of the look -/
structure Os (W0 w : World) (d q : Nat) (D : Dk) (K : Nat → Prop) (p bp : Nat) (r : Nat → Value) (xs : Nat → List Value) (lb ln lf cr : List (Value × Value)) (l : List FI) : Prop where
  play : Play W0 w d q D K p
  bk : BK w bp r xs lb.length ln.length lf.length
  h6 : Holds6 xs lb ln (lf ++ cr)
  tw : Twins w (fun k => K k ∨ bkBlk r bp k ∨ cbl cr l k) lb ln lf
  kb : ∀ k, K k → ¬ bkBlk r bp k
  bn : ∀ k, bkBlk r bp k → W0.heap.size ≤ k ∧ k ≠ p
  co : CrOk W0 w K p bp r cr l
/-- behind the look -/
structure Ol (W0 w : World) (S : Nat) (d q : Nat) (D : Dk) (K : Nat → Prop) (p bp : Nat) (r : Nat → Value) (xs : Nat → List Value) (lb ln lf cr : List (Value × Value)) (l : List FI) (its : Nat → List (Value × Value)) : Prop where
  play : Play W0 w d q D K p
  mk' : Mk S w bp r xs lb.length ln.length lf.length its (fun c => (its c).length)
  h6 : Holds6 xs (lb ++ its 0) (ln ++ its 1) (lf ++ cr)
  tw : Twins w (fun k => K k ∨ bkBlk r bp k ∨ cbl cr l k ∨ ifeet its k) lb ln lf
  kb : ∀ k, K k → ¬ bkBlk r bp k
  bn : ∀ k, bkBlk r bp k → W0.heap.size ≤ k ∧ k ≠ p
  co : CrOk W0 w K p bp r cr l
  i2 : its 2 = []
  n0 : (its 0).length = 3 ∧ (its 1).length = 3
  lo : ∀ k, ifeet its k → S ≤ k
  sz : W0.heap.size ≤ S ∧ p < S ∧ (∀ k, K k → k < S) ∧ ∀ k, cbl cr l k → k < S
theorem Os.look {W0 w : World} {d q : Nat} {D : Dk} {K : Nat → Prop} {p bp : Nat} {r : Nat → Value} {xs : Nat → List Value} {lb ln lf cr : List (Value × Value)} {l : List FI} (h : Os W0 w d q D K p bp r xs lb ln lf cr l) (o : OpD) (other : ByteArray) (hs : o.s.size ≤ maxLen) (ho : other.size ≤ maxLen) (hfit : ∀ i, i < 6 → (xs i).length ≤ 1099511627770) :
    Calls Try.prog 45 #[.agg #[.pointer (some ⟨d, 0, none⟩), .pointer (some ⟨q, 0, none⟩)], .pointer (some ⟨bp, 0, none⟩), .agg o.cells.toArray, .string other] w fun e w' => e = .returned (.tuple #[]) ∧ ∃ r' xs' its, Ol W0 w' w.heap.size d q D K p bp r' xs' lb ln lf cr l its := by
  refine (look_m w d q D K h.play.pq bp r xs _ _ _ (Mk.begin h.bk) h.kb o other hs ho hfit).mono ?_
  rintro e w' ⟨rfl, W2, e2, r', xs', its, hL, n0, n1, n2⟩
  have eL : Ext (bkBlk r bp) w w' := (e2.mono fun _ _ h => h.elim).same hL.ext.1
  have hb : ∀ k, bkBlk r' bp k → bkBlk r bp k ∨ w.heap.size ≤ k := fun k hk => (hL.ext.2 k hk).imp id fun h9 => Nat.le_trans e2.size h9
  have hws := h.play.ext.size
  have hpl := h.play.box.lt
  have hKl := h.play.pq.lt
  have i2 : its 2 = [] := List.eq_nil_of_length_eq_zero n2
  refine ⟨rfl, r', xs', its, h.play.turn eL h.kb h.bn, hL.kk, ⟨?_, ?_, ?_⟩, h.tw.step ⟨eL.mono fun k _ hk => .inr (.inl hk), fun k hk => ?_⟩, fun k hk hk2 => ?_, fun k hk => ?_, h.co.step eL hb, i2, ⟨n0, n1⟩, hL.lo, hws, hpl, hKl, fun k hk => (h.co.lt hk).1⟩
  · have a1 := hL.rp 0 (by omega)
    have a2 := hL.rq 0 (by omega)
    have a1 : xs' 0 = xs 0 ++ (its 0).map Prod.fst := a1
    have a2 : xs' 1 = xs 1 ++ (its 0).map Prod.snd := a2
    rw [a1, a2, h.h6.b.1, h.h6.b.2, List.map_append, List.map_append]
    exact ⟨rfl, rfl⟩
  · have a1 : xs' 2 = xs 2 ++ (its 1).map Prod.fst := hL.rp 1 (by omega)
    have a2 : xs' 3 = xs 3 ++ (its 1).map Prod.snd := hL.rq 1 (by omega)
    rw [a1, a2, h.h6.n.1, h.h6.n.2, List.map_append, List.map_append]
    exact ⟨rfl, rfl⟩
  · have a1 : xs' 4 = xs 4 ++ (its 2).map Prod.fst := hL.rp 2 (by omega)
    have a2 : xs' 5 = xs 5 ++ (its 2).map Prod.snd := hL.rq 2 (by omega)
    rw [i2] at a1 a2
    rw [a1, a2, List.map_nil, List.map_nil, List.append_nil, List.append_nil]
    exact h.h6.f
  · rcases hk with hk | hk | hk | hk
    · exact .inl (.inl hk)
    · exact (hb k hk).imp (fun h9 => .inr (.inl h9)) id
    · exact .inl (.inr (.inr hk))
    · exact .inr (hL.lo k hk)
  · rcases hb k hk2 with h9 | h9
    · exact h.kb k hk h9
    · have := hKl k hk
      omega
  · rcases hb k hk with h9 | h9
    · exact h.bn k h9
    · exact ⟨by omega, by omega⟩
end Go.Proofs.Ytnppneilbkmnfaa
namespace Go.Proofs.Ytnppneilbkmnfaa
open Go.RowKit

theorem CrOk.twins {W0 w : World} {K : Nat → Prop} {p bp : Nat} {r : Nat → Value} {cr : List (Value × Value)} {l : List FI} (h : CrOk W0 w K p bp r cr l) : ∀ pr ∈ cr, TwF w (fun k => K k ∨ bkBlk r bp k) pr := by
  intro pr hp
  rcases h with ⟨h, -⟩ | ⟨va, vb, l2, h1, h2, h3, h4, h5, h6, -⟩
  · rw [h] at hp
    cases hp
  · rw [h1, List.mem_singleton] at hp
    subst hp
    refine ⟨l, l2, h2.see, h3, h4, fun k hk => ?_⟩
    rcases hk with hk | hk
    · exact ⟨h2.lt k hk, fun hx => hx.elim (h5 k hk).2.2.1 (h5 k hk).2.2.2⟩
    · exact h6 k hk
section
variable {W0 w : World} {S d q : Nat} {D : Dk} {K : Nat → Prop} {p bp : Nat} {r : Nat → Value} {xs : Nat → List Value} {lb ln lf cr : List (Value × Value)} {l : List FI} {its : Nat → List (Value × Value)} (h : Ol W0 w S d q D K p bp r xs lb ln lf cr l its)
include h
theorem Ol.ext0 {w' : World} (e : Ext Nil w w') : Ol W0 w' S d q D K p bp r xs lb ln lf cr l its :=
  ⟨h.play.ext0 e, h.mk'.ext0 e, h.h6, h.tw.step ⟨e.mono fun _ _ h => h.elim, fun _ hk => .inl hk⟩, h.kb, h.bn, h.co.step (e.mono fun _ _ h => h.elim) fun _ hk => .inl hk, h.i2, h.n0, h.lo, h.sz⟩
theorem Ol.right : Calls Try.prog 46 #[.pointer (some ⟨bp, 0, none⟩)] w fun e w' => e = .returned (.bool true) ∧ Ol W0 w' S d q D K p bp r xs lb ln lf cr l its := by
  have hT := h.mk'.twins (fun c _ => Nat.le_refl _) K h.sz.2.2.1 fun k hk hf => by have := h.sz.2.2.1 k hk; have := h.lo k hf; omega
  have hC := h.co.twins
  have hO := h.tw.mono (X' := fun k => K k ∨ bkBlk r bp k) fun k hk => hk.imp id .inl
  have hA : Twins w (fun k => K k ∨ bkBlk r bp k) (lb ++ its 0) (ln ++ its 1) (lf ++ cr) :=
    ⟨fun p hp => (List.mem_append.1 hp).elim (hO.b p) (hT.b p), fun p hp => (List.mem_append.1 hp).elim (hO.n p) (hT.n p), fun p hp => (List.mem_append.1 hp).elim (hO.f p) (hC p)⟩
  exact (right_m w bp r xs _ _ _ _ _ _ _ h.mk'.bk h.h6 hA (by rw [List.length_append]; omega) (by rw [List.length_append]; omega) (by rw [List.length_append]; omega)).mono fun e w' hq => ⟨hq.1, h.ext0 hq.2⟩
end
theorem Os.kept {W0 w : World} {d q : Nat} {D : Dk} {K : Nat → Prop} {p bp : Nat} {r : Nat → Value} {xs : Nat → List Value} {lb ln lf : List (Value × Value)} (h : Os W0 w d q D K p bp r xs lb ln lf [] []) :
    Calls Try.prog 48 #[.pointer (some ⟨bp, 0, none⟩)] w fun e w' => e = .returned (.bool true) ∧ Os W0 w' d q D K p bp r xs lb ln lf [] [] := by
  have h6 : Holds6 xs lb ln lf := by have := h.h6; rw [List.append_nil] at this; exact this
  exact (kept_m w bp r xs _ lb ln lf h.bk h6 h.tw).mono fun e w' hq => ⟨hq.1, h.play.ext0 hq.2, h.bk.ext0 hq.2, h.h6, h.tw.step ⟨hq.2.mono fun _ _ h => h.elim, fun k hk => .inl hk⟩, h.kb, h.bn, .inl ⟨rfl, rfl⟩⟩
def aOf (lb ln lf : List (Value × Value)) (i : Nat) : List Value := if i = 0 then lb.map Prod.fst else if i = 1 then lb.map Prod.snd else if i = 2 then ln.map Prod.fst else if i = 3 then ln.map Prod.snd else if i = 4 then lf.map Prod.fst else lf.map Prod.snd
theorem Ol.mark {W0 w : World} {S d q : Nat} {D : Dk} {K : Nat → Prop} {p bp : Nat} {r : Nat → Value} {xs : Nat → List Value} {lb ln lf cr : List (Value × Value)} {l : List FI} {its : Nat → List (Value × Value)} (h : Ol W0 w S d q D K p bp r xs lb ln lf cr l its)
    (hbig : lb.length + 3 + l.length ≤ 1099511627776 ∧ ln.length + 3 ≤ 1099511627776 ∧ lf.length + 1 ≤ 1099511627776) :
    Calls Try.prog 47 #[.pointer (some ⟨bp, 0, none⟩)] w fun e w' => e = .returned (.tuple #[]) ∧ ∃ r' xs' lb' ln' lf', Os W0 w' d q D K p bp r' xs' lb' ln' lf' [] [] ∧ lb'.length = lb.length + 3 + l.length ∧ ln'.length = ln.length + 3 ∧ lf'.length = lf.length + cr.length := by
  have hKl := h.play.pq.lt
  have hM0 : Mk w.heap.size w bp r xs lb.length ln.length lf.length its (fun _ => 0) := (h.mk'.less (m' := fun _ => 0) fun _ _ => Nat.zero_le _).anew
  have hcl : cr.length ≤ 1 ∧ l.length ≤ 65536 := by
    rcases h.co with ⟨h1, h2⟩ | ⟨va, vb, l2, h1, -, -, -, -, -, h7, -⟩
    · rw [h1, h2]
      exact ⟨by simp, by simp⟩
    · rw [h1]
      exact ⟨by simp, h7⟩
  -- the items with the crash's row and its bytes
  obtain ⟨i1, hM1, hi0, hi1, hi2, hfe⟩ : ∃ i1, Mk w.heap.size w bp r xs lb.length ln.length lf.length i1 (fun _ => 0) ∧ i1 0 = its 0 ++ l.map fileIt ∧ i1 1 = its 1 ∧ i1 2 = cr ∧ ∀ k, ifeet i1 k → ifeet its k ∨ cbl cr l k := by
    rcases h.co with ⟨h1, h2⟩ | ⟨va, vb, l2, h1, h2, h3, h4, h5, h6, h7, h8⟩
    · refine ⟨its, hM0, ?_, rfl, ?_, fun k hk => .inl hk⟩
      · rw [h2]; simp
      · rw [h1]; exact h.i2
    · have hnd := h2.nodup
      unfold ibl at hnd
      rw [List.nodup_append] at hnd
      obtain ⟨d1, d2, d3⟩ := hnd
      have hin : ∀ k, k ∈ ibl va l → ¬ ifeet its k ∧ ¬ bkBlk r bp k := fun k hk => ⟨fun hf => by
        have h9 := h.sz.2.2.2 k ⟨(va, vb), by rw [h1]; simp, hk⟩
        have := h.lo k hf
        omega, (h5 k hk).2.2.2⟩
      have g1 := hM0.grab (c := 2) (by omega) (p := (va, vb)) ⟨l.length, l.flatMap FI.cells, h2.row, by omega⟩ fun k hk => hin k (by unfold ibl; exact List.mem_append_left _ (mem_footL.2 hk))
      have g2 := Mk.grabs l g1 (fun x hx => ⟨h2.bytes x hx, h8 x hx⟩) d2 fun k hk => ⟨fun hf => by
        rcases (ifeet_snoc (by omega)).1 hf with hf | hf
        · exact (hin k (by unfold ibl; exact List.mem_append_right _ hk)).1 hf
        · exact d3 k (mem_footL.2 hf) k hk rfl, (hin k (by unfold ibl; exact List.mem_append_right _ hk)).2⟩
      refine ⟨_, g2.1, ?_, ?_, ?_, fun k hk => ?_⟩
      · rw [upd_self, upd_ne _ _ (show 0 ≠ 2 by omega)]
      · rw [upd_ne _ _ (show 1 ≠ 0 by omega), upd_ne _ _ (show 1 ≠ 2 by omega)]
      · rw [upd_ne _ _ (show 2 ≠ 0 by omega), upd_self, h.i2, h1]
        rfl
      · rcases g2.2 k hk with hf | hf
        · rcases (ifeet_snoc (by omega)).1 hf with hf | hf
          · exact .inl hf
          · exact .inr ⟨(va, vb), by rw [h1]; simp, by unfold ibl; exact List.mem_append_left _ (mem_footL.2 hf)⟩
        · exact .inr ⟨(va, vb), by rw [h1]; simp, by unfold ibl; exact List.mem_append_right _ hf⟩
  have hi1K : ∀ k, ifeet i1 k → W0.heap.size ≤ k ∧ k ≠ p ∧ ¬ K k := by
    intro k hk
    rcases hfe k hk with hk | hk
    · have h1 := h.lo k hk
      refine ⟨by have := h.sz.1; omega, by have := h.sz.2.1; omega, fun hK => by have := h.sz.2.2.1 k hK; omega⟩
    · have h1 := h.co.lt hk
      exact ⟨h1.2.1, h1.2.2.1, h1.2.2.2.1⟩
  have e0 : (aOf lb ln lf 0).length = lb.length := by simp [aOf]
  have e2 : (aOf lb ln lf 2).length = ln.length := by simp [aOf]
  have e4 : (aOf lb ln lf 4).length = lf.length := by simp [aOf]
  have hn := h.n0
  refine (mark_m w bp r xs (aOf lb ln lf) i1 (its 0) l (by rw [e0, e2, e4]; exact hM1) hi0 ?_ ?_ ?_ (fun c hc hc0 => ?_) (fun c hc => ?_) (fun c hc => ?_)).mono ?_
  · rw [hi2]
    rcases h.co with h1 | ⟨va, vb, l2, h1, h2, -⟩
    · exact .inl h1
    · exact .inr ⟨_, h1, h2.see⟩
  · rw [h.h6.b.1, List.map_append]; rfl
  · rw [h.h6.b.2, List.map_append]; rfl
  · have : c = 1 ∨ c = 2 := by omega
    rcases this with rfl | rfl
    · rw [hi1]
      refine ⟨?_, ?_⟩
      · show xs 2 = _
        rw [h.h6.n.1, List.map_append]; rfl
      · show xs 3 = _
        rw [h.h6.n.2, List.map_append]; rfl
    · rw [hi2]
      refine ⟨?_, ?_⟩
      · show xs 4 = _
        rw [h.h6.f.1, List.map_append]; rfl
      · show xs 5 = _
        rw [h.h6.f.2, List.map_append]; rfl
  · have : c = 0 ∨ c = 1 ∨ c = 2 := by omega
    rcases this with rfl | rfl | rfl <;> simp [aOf]
  · have : c = 0 ∨ c = 1 ∨ c = 2 := by omega
    rcases this with rfl | rfl | rfl
    · show (aOf lb ln lf 0).length + _ ≤ _
      rw [e0, hi0, List.length_append, List.length_map]; omega
    · show (aOf lb ln lf 2).length + _ ≤ _
      rw [e2, hi1]; omega
    · show (aOf lb ln lf 4).length + _ ≤ _
      rw [e4, hi2]; omega
  rintro e w' ⟨rfl, r', ys, jts, m1, m2, m3, m4, m5⟩
  have y0 : ys 0 = lb.map Prod.fst ++ (jts 0).map Prod.fst := m2.p 0 (by omega)
  have y1 : ys 1 = lb.map Prod.snd ++ (jts 0).map Prod.snd := m2.q 0 (by omega)
  have y2 : ys 2 = ln.map Prod.fst ++ (jts 1).map Prod.fst := m2.p 1 (by omega)
  have y3 : ys 3 = ln.map Prod.snd ++ (jts 1).map Prod.snd := m2.q 1 (by omega)
  have y4 : ys 4 = lf.map Prod.fst ++ (jts 2).map Prod.fst := m2.p 2 (by omega)
  have y5 : ys 5 = lf.map Prod.snd ++ (jts 2).map Prod.snd := m2.q 2 (by omega)
  have hb5 : ∀ k, bkBlk r' bp k → bkBlk r bp k ∨ ifeet i1 k ∨ w.heap.size ≤ k := fun k hk => (m5.2 k (.inl hk)).elim (fun h9 => h9.imp id .inl) fun h9 => .inr (.inr h9)
  have hws := h.play.ext.size
  have hpl := h.play.box.lt
  have hbk : BK w' bp r' ys (lb ++ jts 0).length (ln ++ jts 1).length (lf ++ jts 2).length := by
    have := m1.bk
    rw [y0, y2, y4] at this
    simpa using this
  refine ⟨rfl, r', ys, lb ++ jts 0, ln ++ jts 1, lf ++ jts 2, ⟨?_, hbk, ⟨?_, ?_, ?_⟩, ?_, fun k hk hk2 => ?_, fun k hk => ?_, .inl ⟨rfl, rfl⟩⟩, ?_, ?_, ?_⟩
  · exact h.play.turn m5.1 (fun k hk hy => hy.elim (h.kb k hk) fun hf => (hi1K k hf).2.2 hk) fun k hy => hy.elim (h.bn k) fun hf => ⟨(hi1K k hf).1, (hi1K k hf).2.1⟩
  · rw [y0, y1, List.map_append, List.map_append]; exact ⟨rfl, rfl⟩
  · rw [y2, y3, List.map_append, List.map_append]; exact ⟨rfl, rfl⟩
  · rw [y4, y5, List.append_nil, List.map_append, List.map_append]; exact ⟨rfl, rfl⟩
  · have hold : Twins w' (fun k => K k ∨ bkBlk r' bp k ∨ cbl [] [] k) lb ln lf := h.tw.step ⟨m5.1.mono fun k _ hk => ?_, fun k hk => ?_⟩
    · have hnew := m1.twins (fun c _ => Nat.le_refl _) K hKl fun k hk hf => (hi1K k ((m3 k).1 hf)).2.2 hk
      exact hold.append (hnew.mono fun k hk => hk.imp id fun h9 => h9.resolve_right fun ⟨_, h0, _⟩ => by cases h0)
    · rcases hk with hk | hk
      · exact .inr (.inl hk)
      · exact (hfe k hk).elim (fun h9 => .inr (.inr (.inr h9))) fun h9 => .inr (.inr (.inl h9))
    · rcases hk with hk | hk | ⟨_, h0, _⟩
      · exact .inl (.inl hk)
      · rcases hb5 k hk with h9 | h9 | h9
        · exact .inl (.inr (.inl h9))
        · exact .inl ((hfe k h9).elim (fun h9 => .inr (.inr (.inr h9))) fun h9 => .inr (.inr (.inl h9)))
        · exact .inr h9
      · cases h0
  · rcases hb5 k hk2 with h9 | h9 | h9
    · exact h.kb k hk h9
    · exact (hi1K k h9).2.2 hk
    · have := hKl k hk
      omega
  · rcases hb5 k hk with h9 | h9 | h9
    · exact h.bn k h9
    · exact ⟨(hi1K k h9).1, (hi1K k h9).2.1⟩
    · exact ⟨by omega, by omega⟩
  · rw [List.length_append, m4, hi0, List.length_append, List.length_map, hn.1]; omega
  · rw [List.length_append, m4, hi1, hn.2]
  · rw [List.length_append, m4, hi2]
end Go.Proofs.Ytnppneilbkmnfaa
namespace Go.Proofs.Ytnppneilbkmnfaa
open Go.RowKit

theorem Os.stepped {W0 w w' : World} {d q : Nat} {D D' : Dk} {K : Nat → Prop} {p bp : Nat} {r : Nat → Value} {xs : Nat → List Value} {lb ln lf : List (Value × Value)} {e : Ending} (h : Os W0 w d q D K p bp r xs lb ln lf [] []) (hS : Stepped w d q K D' e w') :
    e = .returned (.bool true) ∧ ∃ K', Os W0 w' d q D' K' p bp r xs lb ln lf [] [] := by
  obtain ⟨he, K', hP, hS⟩ := hS
  have hws := h.play.ext.size
  have hpl := h.play.box.lt
  have hbl := h.bk.lt
  refine ⟨he, K', ⟨hP, fun k hk => ?_, h.play.ext.trans hS.1 fun i hi hk => by have := (h.play.new i hk).1; omega, h.play.box.ext hS.1 fun hk => (h.play.new p hk).2 rfl⟩, h.bk.ext hS.1 fun k hk hK => h.kb k hK hk, h.h6, h.tw.step ⟨hS.1.mono fun k _ hk => .inl hk, fun k hk => ?_⟩, fun k hk hb => ?_, h.bn, .inl ⟨rfl, rfl⟩⟩
  · rcases hS.2 k hk with h1 | h1
    · exact h.play.new k h1
    · exact ⟨by omega, by omega⟩
  · rcases hk with hk | hk
    · exact (hS.2 k hk).imp .inl id
    · exact .inl (.inr hk)
  · rcases hS.2 k hk with h1 | h1
    · exact h.kb k h1 hb
    · have := hbl k hb
      omega
theorem Os.ext0 {W0 w w' : World} {d q : Nat} {D : Dk} {K : Nat → Prop} {p bp : Nat} {r : Nat → Value} {xs : Nat → List Value} {lb ln lf cr : List (Value × Value)} {l : List FI} (h : Os W0 w d q D K p bp r xs lb ln lf cr l) (e : Ext Nil w w') : Os W0 w' d q D K p bp r xs lb ln lf cr l :=
  ⟨h.play.ext0 e, h.bk.ext0 e, h.h6, h.tw.step ⟨e.mono fun _ _ h => h.elim, fun _ hk => .inl hk⟩, h.kb, h.bn, h.co.step (e.mono fun _ _ h => h.elim) fun _ hk => .inl hk⟩
/-- what both crashes left is put behind the rows of files -/
theorem Os.crash {W0 w w4 : World} {d q : Nat} {D D' : Dk} {K : Nat → Prop} {p bp : Nat} {r : Nat → Value} {xs : Nat → List Value} {lb ln lf : List (Value × Value)} (h : Os W0 w d q D K p bp r xs lb ln lf [] []) (hP : PQ w4 d q D' D' K) (e4 : Ext K w w4)
    {ga gb : Option Addr} {gn gc hn' hc' : Nat} {l l2 : List FI} (hO : ImgO w4 (.slice ga gn gc) l) (hV : ImgV w4 (.slice gb hn' hc') l2) (hpr : l.map FI.pair = l2.map FI.pair) (f1 : ∀ k ∈ ibl (.slice ga gn gc) l, w.heap.size ≤ k) (f2 : ∀ k ∈ ibl (.slice gb hn' hc') l2, w.heap.size ≤ k ∧ k < w4.heap.size) (hsm : l.length ≤ 65536 ∧ ∀ x ∈ l, x.b.length ≤ 1073741824)
    (hfit : (xs 4).length ≤ 1099511627776) (hfit1 : (xs 5).length ≤ 1099511627776) {X : World} (eX : Ext Nil w4 X) (ty : TypeId) :
    ∃ ao cap w5, (Builtin.append_ #[94, 94] ty #[r 4, .slice (some ⟨X.heap.size, 0, none⟩) 1 1]).run Try.prog (X.alloc (.cells #[.slice ga gn gc] 34 (0, 0))) = .ok (.slice ao ((xs 4).length + 1) cap) w5 ∧
      w5.cell? ⟨bp, 4, none⟩ = some (r 4) ∧ w5.frozen? ⟨bp, 4, none⟩ = false ∧ Ext (inFoot (r 4)) X w5 ∧
      ∀ X3, X3 = w5.setCell ⟨bp, 4, none⟩ (.slice ao ((xs 4).length + 1) cap) → Ext (fun k => k = bp ∨ inFoot (r 4) k) X X3 ∧ X3.cell? ⟨bp, 5, none⟩ = some (r 5) ∧
        ∀ X4, Ext Nil X3 X4 → ∀ ty', ∃ ao' cap' w6, (Builtin.append_ #[94, 94] ty' #[r 5, .slice (some ⟨X4.heap.size, 0, none⟩) 1 1]).run Try.prog (X4.alloc (.cells #[.slice gb hn' hc'] 34 (0, 0))) = .ok (.slice ao' ((xs 5).length + 1) cap') w6 ∧
          w6.cell? ⟨bp, 5, none⟩ = some (r 5) ∧ w6.frozen? ⟨bp, 5, none⟩ = false ∧ Ext (inFoot (r 5)) X4 w6 ∧
          ∃ r2 xs2, Os W0 (w6.setCell ⟨bp, 5, none⟩ (.slice ao' ((xs 5).length + 1) cap')) d q D' K p bp r2 xs2 lb ln lf [((.slice ga gn gc : Value), (.slice gb hn' hc' : Value))] l := by
  have hbl := h.bk.lt
  have hws := h.play.ext.size
  have hpl := h.play.box.lt
  have h4s := e4.size
  have b4 := h.bk.ext e4 fun k hk hK => h.kb k hK hk
  obtain ⟨ao, cap, w5, h1, h2, h3, hE, hb, hS⟩ := (b4.ext0 eX).append (i := 4) (by omega) (ts := 94) Try.underlying94 (z := .slice none 0 0) (by_ := 24) info_file34 rfl (by omega) hfit ga gn gc ty
  refine ⟨ao, cap, w5, h1, h2, h3, hE, ?_⟩
  rintro X3 rfl
  have u1 : upd r 4 (.slice ao ((xs 4).length + 1) cap) 5 = r 5 := upd_ne _ _ (by omega)
  have u2 : upd xs 4 (xs 4 ++ [.slice ga gn gc]) 5 = xs 5 := upd_ne _ _ (by omega)
  have hc1 := hb.cells.cell 5 (bk_at _ _ _ _ (show 5 < 6 by omega))
  rw [u1] at hc1
  refine ⟨(hE.mono fun k _ hk => .inr hk : Ext (fun k => k = bp ∨ inFoot (r 4) k) X w5).setCell (p := ⟨bp, 4, none⟩) (fun _ => .inl rfl) _, hc1, fun X4 e34 ty' => ?_⟩
  obtain ⟨ao', cap', w6, i1, i2, i3, iE, ib, iS⟩ := (hb.ext0 e34).append (i := 5) (by omega) (ts := 94) Try.underlying94 (z := .slice none 0 0) (by_ := 24) info_file34 rfl (by omega) (by rw [u2]; exact hfit1) gb hn' hc' ty'
  rw [u1, u2] at i1
  rw [u1] at i2 iE
  rw [u2] at ib iS
  refine ⟨ao', cap', w6, i1, i2, i3, iE, ?_⟩
  have hS1 : Step (bkBlk r bp) w4 _ _ := ⟨(eX.mono fun _ _ h => h.elim).same hS.1, fun k hk => (hS.2 k hk).imp id fun h9 => Nat.le_trans eX.size h9⟩
  have hS2 : Step _ (w5.setCell ⟨bp, 4, none⟩ (.slice ao ((xs 4).length + 1) cap)) _ _ := ⟨(e34.mono fun _ _ h => h.elim).same iS.1, fun k hk => (iS.2 k hk).imp id fun h9 => Nat.le_trans e34.size h9⟩
  have hSS := hS1.trans hS2
  have hPl : Play W0 w4 d q D' K p := ⟨hP, h.play.new, h.play.ext.trans e4 fun i hi hk => by have := (h.play.new i hk).1; omega, h.play.box.ext e4 fun hk => (h.play.new p hk).2 rfl⟩
  have nb : ∀ k, w.heap.size ≤ k → ¬ bkBlk r bp k := fun k hk hb9 => by have := hbl k hb9; omega
  have nK : ∀ k, w.heap.size ≤ k → ¬ K k := fun k hk hK => by have := h.play.pq.lt k hK; omega
  have hco : CrOk W0 w4 K p bp r [((.slice ga gn gc : Value), (.slice gb hn' hc' : Value))] l := .inr ⟨_, _, l2, rfl, hO, hV, hpr, fun k hk => ⟨by have := f1 k hk; omega, by have := f1 k hk; omega, nK k (f1 k hk), nb k (f1 k hk)⟩, fun k hk => ⟨(f2 k hk).2, fun hx => hx.elim (nK k (f2 k hk).1) (nb k (f2 k hk).1)⟩, hsm⟩
  refine ⟨_, _, hPl.turn hSS.1 h.kb h.bn, ib, ⟨?_, ?_, ?_⟩, h.tw.step ⟨?_, fun k hk => ?_⟩, fun k hk hb9 => ?_, fun k hk => ?_, hco.step hSS.1 hSS.2⟩
  · rw [upd_ne _ _ (show 0 ≠ 5 by omega), upd_ne _ _ (show 0 ≠ 4 by omega), upd_ne _ _ (show 1 ≠ 5 by omega), upd_ne _ _ (show 1 ≠ 4 by omega)]
    exact h.h6.b
  · rw [upd_ne _ _ (show 2 ≠ 5 by omega), upd_ne _ _ (show 2 ≠ 4 by omega), upd_ne _ _ (show 3 ≠ 5 by omega), upd_ne _ _ (show 3 ≠ 4 by omega)]
    exact h.h6.n
  · have hf := h.h6.f
    rw [List.append_nil] at hf
    rw [upd_ne _ _ (show 4 ≠ 5 by omega), upd_self, upd_self, hf.1, hf.2, List.map_append, List.map_append]
    exact ⟨rfl, rfl⟩
  · exact (e4.mono fun k _ hk => .inl hk : Ext (fun k => K k ∨ bkBlk r bp k ∨ cbl [] [] k) w w4).trans hSS.1 fun k _ hk => .inr (.inl hk)
  · rcases hk with hk | hk | ⟨pr, hp, hk⟩
    · exact .inl (.inl hk)
    · exact (hSS.2 k hk).imp (fun h9 => .inr (.inl h9)) fun h9 => by omega
    · rw [List.mem_singleton] at hp
      subst hp
      exact .inr (f1 k hk)
  · rcases hSS.2 k hb9 with h9 | h9
    · exact h.kb k hk h9
    · have := h.play.pq.lt k hk
      omega
  · rcases hSS.2 k hk with h9 | h9
    · exact h.bn k h9
    · exact ⟨by omega, by omega⟩
end Go.Proofs.Ytnppneilbkmnfaa
