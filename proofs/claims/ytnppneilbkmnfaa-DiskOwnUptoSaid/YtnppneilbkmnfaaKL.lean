/- DiskOwn: a new item in the law's Book. No condition. -/
import Derived.Test.YtnppneilbkmnfaaKK
namespace Go.Proofs.Ytnppneilbkmnfaa
open Go.RowKit

theorem Mk.add {S : Nat} {w : World} {bp : Nat} {r : Nat → Value} {xs : Nat → List Value} {B N F : Nat} {its : Nat → List (Value × Value)} {m : Nat → Nat} (h : Mk S w bp r xs B N F its m) {c : Nat} (hc : c < 3) (hm : m c = (its c).length) (hS : S ≤ w.heap.size)
    {X w' : World} (eX : Ext Nil w X) {p : Value × Value} {n : Nat} {cs : List Value} (O1 : Own X (cty c) (csz c) p.1 n cs) (O2 : Own X (cty c) (csz c) p.2 n cs) (hg : cgd c cs) (hn : n ≤ 1073741824) (f1 : ∀ k, inFoot p.1 k → w.heap.size ≤ k) (f2 : ∀ k, inFoot p.2 k → w.heap.size ≤ k ∧ ¬ inFoot p.1 k)
    {r' : Nat → Value} {xs' : Nat → List Value} (hb : BK w' bp r' xs' B N F) (hSt : Step (bkBlk r bp) X (bkBlk r' bp) w') : Mk S w' bp r' xs' B N F (upd its c (its c ++ [p])) (upd m c (m c + 1)) := by
  have h1 := h.ext0 eX
  have hXs := eX.size
  have hbl := h.bk.lt
  have hft : ∀ {k}, ifeet its k → k < w.heap.size := h.lt
  have hb' : ∀ k, bkBlk r' bp k → bkBlk r bp k ∨ X.heap.size ≤ k := hSt.2
  have n1 : ∀ k, inFoot p.1 k → ¬ bkBlk r bp k := fun k hk hb => by have := f1 k hk; have := hbl k hb; omega
  have n2 : ∀ k, inFoot p.2 k → ¬ bkBlk r bp k := fun k hk hb => by have := (f2 k hk).1; have := hbl k hb; omega
  have hM := h1.rows hb hSt
  refine ⟨hb, fun d q hd hq => ?_, fun d i q hd hi hq => ?_, hM.nd.snoc fun k hk hk2 => ?_, fun k hk hk2 => ?_⟩
  · by_cases hdc : d = c
    · subst hdc
      rw [upd_self, List.mem_append, List.mem_singleton] at hq
      rcases hq with hq | rfl
      · exact hM.fr d q hd hq
      · exact ⟨n, cs, O1.ext hSt.1 n1, hn⟩
    · rw [upd_ne _ _ hdc] at hq
      exact hM.fr d q hd hq
  · have hold : ∀ j, j < m d → (its d)[j]? = some q → Wn d S w' (fun k => bkBlk r' bp k ∨ ifeet (upd its c (its c ++ [p])) k) q := by
      intro j hj hq
      refine (h.wn d j q hd hj hq).ext ((eX.mono fun _ _ h => h.elim : Ext (bkBlk r bp) w X).same hSt.1) (fun k hk => h.ap k ⟨d, q, hd, List.mem_of_getElem? hq, hk⟩) (fun k hk => .inl hk) fun k hk => ?_
      rcases hk with hk | hk
      · exact (hb' k hk).imp .inl fun h9 => by omega
      · rcases (ifeet_snoc hc).1 hk with hk | hk
        · exact .inl (.inr hk)
        · exact .inr (f1 k hk)
    rcases upd_get hq with hq9 | ⟨rfl, rfl, rfl⟩
    · refine hold i ?_ hq9
      by_cases hdc : d = c
      · subst hdc
        rw [hm]
        exact (List.getElem?_eq_some_iff.1 hq9).1
      · rw [upd_ne _ _ hdc] at hi
        exact hi
    · refine ⟨n, cs, O1.ext hSt.1 n1, O2.ext hSt.1 n2, hg, hn, fun k hk => ⟨by have := (f2 k hk).1; omega, Nat.lt_of_lt_of_le (O2.lt k hk) hSt.1.size, fun hk2 => ?_⟩⟩
      rcases hk2 with hk2 | hk2
      · rcases hb' k hk2 with h9 | h9
        · exact n2 k hk h9
        · have := O2.lt k hk
          omega
      · rcases (ifeet_snoc hc).1 hk2 with hk2 | hk2
        · have := hft hk2
          have := (f2 k hk).1
          omega
        · exact (f2 k hk).2 hk2
  · have := f1 k hk
    have := hft hk2
    omega
  · rcases (ifeet_snoc hc).1 hk with hk | hk
    · rcases hb' k hk2 with h9 | h9
      · exact h.ap k hk h9
      · have := hft hk
        omega
    · rcases hb' k hk2 with h9 | h9
      · exact n1 k hk h9
      · have := O1.lt k hk
        omega
/-- an item is put behind both rows of its class -/
theorem Mk.push {S : Nat} {w : World} {bp : Nat} {r : Nat → Value} {xs : Nat → List Value} {B N F : Nat} {its : Nat → List (Value × Value)} {m : Nat → Nat} (h : Mk S w bp r xs B N F its m) {c : Nat} (hc : c < 3) (hm : m c = (its c).length) (hS : S ≤ w.heap.size)
    {X : World} (eX : Ext Nil w X) {ga gb : Option Addr} {gn gc hn' hc' : Nat} {n : Nat} {cs : List Value} (O1 : Own X (cty c) (csz c) (.slice ga gn gc) n cs) (O2 : Own X (cty c) (csz c) (.slice gb hn' hc') n cs) (hg : cgd c cs) (hn : n ≤ 1073741824) (f1 : ∀ k, inFoot (.slice ga gn gc) k → w.heap.size ≤ k) (f2 : ∀ k, inFoot (.slice gb hn' hc') k → w.heap.size ≤ k ∧ ¬ inFoot (.slice ga gn gc) k)
    {t0 ts : TypeId} (e0 : bty (2 * c) = t0) (e1 : bty (2 * c + 1) = t0) (hu : Try.prog.underlying ts = some (.slice t0)) {z : Value} {by_ : Nat} (hinf : (Try.prog.info? t0).map (fun i => (i.zero, i.size, i.bytes)) = some (some z, 1, by_)) (hz : z.cells.size = 1) (hby : by_ ≤ 64) (hfit : (xs (2 * c)).length ≤ 1099511627776) (hfit1 : (xs (2 * c + 1)).length ≤ 1099511627776) (ty : TypeId) :
    ∃ ao cap w2, (Builtin.append_ #[ts, ts] ty #[r (2 * c), .slice (some ⟨X.heap.size, 0, none⟩) 1 1]).run Try.prog (X.alloc (.cells #[.slice ga gn gc] t0 (0, 0))) = .ok (.slice ao ((xs (2 * c)).length + 1) cap) w2 ∧
      w2.cell? ⟨bp, 2 * c, none⟩ = some (r (2 * c)) ∧ w2.frozen? ⟨bp, 2 * c, none⟩ = false ∧ w2.cell? ⟨bp, 2 * c + 1, none⟩ = some (r (2 * c + 1)) ∧
      ∀ X3, X3 = w2.setCell ⟨bp, 2 * c, none⟩ (.slice ao ((xs (2 * c)).length + 1) cap) → X3.cell? ⟨bp, 2 * c + 1, none⟩ = some (r (2 * c + 1)) ∧
        ∀ ty', ∃ ao' cap' w4, (Builtin.append_ #[ts, ts] ty' #[r (2 * c + 1), .slice (some ⟨X3.heap.size, 0, none⟩) 1 1]).run Try.prog (X3.alloc (.cells #[.slice gb hn' hc'] t0 (0, 0))) = .ok (.slice ao' ((xs (2 * c + 1)).length + 1) cap') w4 ∧
          w4.cell? ⟨bp, 2 * c + 1, none⟩ = some (r (2 * c + 1)) ∧ w4.frozen? ⟨bp, 2 * c + 1, none⟩ = false ∧
          ∃ r2, Mk S (w4.setCell ⟨bp, 2 * c + 1, none⟩ (.slice ao' ((xs (2 * c + 1)).length + 1) cap')) bp r2 (upd (upd xs (2 * c) (xs (2 * c) ++ [.slice ga gn gc])) (2 * c + 1) (xs (2 * c + 1) ++ [.slice gb hn' hc'])) B N F (upd its c (its c ++ [(.slice ga gn gc, .slice gb hn' hc')])) (upd m c (m c + 1)) ∧
            Step (bkBlk r bp) w (bkBlk r2 bp) (w4.setCell ⟨bp, 2 * c + 1, none⟩ (.slice ao' ((xs (2 * c + 1)).length + 1) cap')) := by
  subst e0
  obtain ⟨ao, cap, w2, h1, h2, h3, hE, hb, hSt⟩ := (h.bk.ext0 eX).append (i := 2 * c) (by omega) (ts := ts) hu hinf hz hby hfit ga gn gc ty
  refine ⟨ao, cap, w2, h1, h2, h3, ((h.bk.ext0 eX).cells.ext hE ((h.bk.ext0 eX).abp (2 * c) (by omega))).cell (2 * c + 1) (bk_at _ _ _ _ (show 2 * c + 1 < 6 by omega)), ?_⟩
  rintro X3 rfl
  have e2 : upd r (2 * c) (.slice ao ((xs (2 * c)).length + 1) cap) (2 * c + 1) = r (2 * c + 1) := upd_ne _ _ (by omega)
  have e3 : upd xs (2 * c) (xs (2 * c) ++ [.slice ga gn gc]) (2 * c + 1) = xs (2 * c + 1) := upd_ne _ _ (by omega)
  have hc1 := hb.cells.cell (2 * c + 1) (bk_at _ _ _ _ (show 2 * c + 1 < 6 by omega))
  rw [e2] at hc1
  refine ⟨hc1, fun ty' => ?_⟩
  obtain ⟨ao', cap', w4, i1, i2, i3, -, ib', iS⟩ := hb.append (i := 2 * c + 1) (by omega) (ts := ts) (by rw [e1]; exact hu) (by rw [e1]; exact hinf) hz hby (by rw [e3]; exact hfit1) gb hn' hc' ty'
  rw [e2, e3, e1] at i1
  rw [e2] at i2
  rw [e3] at ib' iS
  have hS2 := hSt.trans iS
  exact ⟨ao', cap', w4, i1, i2, i3, _, h.add hc hm hS eX O1 O2 hg hn f1 f2 ib' hS2, (eX.mono fun _ _ h => h.elim).same hS2.1, fun k hk => (hS2.2 k hk).imp id fun h9 => Nat.le_trans eX.size h9⟩
/-- the book while the law looks -/
structure Lk (S : Nat) (w : World) (bp : Nat) (r : Nat → Value) (xs : Nat → List Value) (B N F : Nat) (W : World) (r' : Nat → Value) (xs' : Nat → List Value) (its : Nat → List (Value × Value)) : Prop where
  kk : Mk S W bp r' xs' B N F its (fun c => (its c).length)
  rp : ∀ c, c < 3 → xs' (2 * c) = xs (2 * c) ++ (its c).map Prod.fst
  rq : ∀ c, c < 3 → xs' (2 * c + 1) = xs (2 * c + 1) ++ (its c).map Prod.snd
  lo : ∀ k, ifeet its k → S ≤ k
  ext : Step (bkBlk r bp) w (bkBlk r' bp) W
theorem Lk.push {S : Nat} {w : World} {bp : Nat} {r : Nat → Value} {xs : Nat → List Value} {B N F : Nat} {W : World} {r' : Nat → Value} {xs' : Nat → List Value} {its : Nat → List (Value × Value)} (h : Lk S w bp r xs B N F W r' xs' its) {c : Nat} (hc : c < 3) (hS : S ≤ w.heap.size)
    {X : World} (eX : Ext Nil W X) {ga gb : Option Addr} {gn gc hn' hc' : Nat} {n : Nat} {cs : List Value} (O1 : Own X (cty c) (csz c) (.slice ga gn gc) n cs) (O2 : Own X (cty c) (csz c) (.slice gb hn' hc') n cs) (hg : cgd c cs) (hn : n ≤ 1073741824) (f1 : ∀ k, inFoot (.slice ga gn gc) k → W.heap.size ≤ k) (f2 : ∀ k, inFoot (.slice gb hn' hc') k → W.heap.size ≤ k ∧ ¬ inFoot (.slice ga gn gc) k)
    {t0 ts : TypeId} (e0 : bty (2 * c) = t0) (e1 : bty (2 * c + 1) = t0) (hu : Try.prog.underlying ts = some (.slice t0)) {z : Value} {by_ : Nat} (hinf : (Try.prog.info? t0).map (fun i => (i.zero, i.size, i.bytes)) = some (some z, 1, by_)) (hz : z.cells.size = 1) (hby : by_ ≤ 64) (hfit : (xs' (2 * c)).length ≤ 1099511627776) (hfit1 : (xs' (2 * c + 1)).length ≤ 1099511627776) (ty : TypeId) :
    ∃ ao cap w2, (Builtin.append_ #[ts, ts] ty #[r' (2 * c), .slice (some ⟨X.heap.size, 0, none⟩) 1 1]).run Try.prog (X.alloc (.cells #[.slice ga gn gc] t0 (0, 0))) = .ok (.slice ao ((xs' (2 * c)).length + 1) cap) w2 ∧
      w2.cell? ⟨bp, 2 * c, none⟩ = some (r' (2 * c)) ∧ w2.frozen? ⟨bp, 2 * c, none⟩ = false ∧ w2.cell? ⟨bp, 2 * c + 1, none⟩ = some (r' (2 * c + 1)) ∧
      ∀ X3, X3 = w2.setCell ⟨bp, 2 * c, none⟩ (.slice ao ((xs' (2 * c)).length + 1) cap) → X3.cell? ⟨bp, 2 * c + 1, none⟩ = some (r' (2 * c + 1)) ∧
        ∀ ty', ∃ ao' cap' w4, (Builtin.append_ #[ts, ts] ty' #[r' (2 * c + 1), .slice (some ⟨X3.heap.size, 0, none⟩) 1 1]).run Try.prog (X3.alloc (.cells #[.slice gb hn' hc'] t0 (0, 0))) = .ok (.slice ao' ((xs' (2 * c + 1)).length + 1) cap') w4 ∧
          w4.cell? ⟨bp, 2 * c + 1, none⟩ = some (r' (2 * c + 1)) ∧ w4.frozen? ⟨bp, 2 * c + 1, none⟩ = false ∧
          ∃ r2 xs2 its2, Lk S w bp r xs B N F (w4.setCell ⟨bp, 2 * c + 1, none⟩ (.slice ao' ((xs' (2 * c + 1)).length + 1) cap')) r2 xs2 its2 ∧ ∀ d, (its2 d).length = (its d).length + if d = c then 1 else 0 := by
  have hSW : S ≤ W.heap.size := Nat.le_trans hS h.ext.1.size
  obtain ⟨ao, cap, w2, h1, h2, h3, h4, hN⟩ := h.kk.push hc rfl hSW eX O1 O2 hg hn f1 f2 e0 e1 hu hinf hz hby hfit hfit1 ty
  refine ⟨ao, cap, w2, h1, h2, h3, h4, fun X3 hX => ?_⟩
  obtain ⟨i1, hN2⟩ := hN X3 hX
  refine ⟨i1, fun ty' => ?_⟩
  obtain ⟨ao', cap', w4, j1, j2, j3, r2, hM, hSt⟩ := hN2 ty'
  have hlen : ∀ d, (upd its c (its c ++ [((.slice ga gn gc : Value), (.slice gb hn' hc' : Value))]) d).length = (its d).length + if d = c then 1 else 0 := by
    intro d
    by_cases hdc : d = c
    · subst hdc
      rw [upd_self, List.length_append, List.length_singleton, if_pos rfl]
    · rw [upd_ne _ _ hdc, if_neg hdc]
      rfl
  refine ⟨ao', cap', w4, j1, j2, j3, r2, _, _, ⟨hM.less fun d hd => ?_, fun d hd => ?_, fun d hd => ?_, fun k hk => ?_, h.ext.trans hSt⟩, hlen⟩
  · rw [hlen d]
    by_cases hdc : d = c
    · subst hdc
      rw [upd_self, if_pos rfl]
      exact Nat.le_refl _
    · rw [upd_ne _ _ hdc, if_neg hdc]
      exact Nat.le_refl _
  · by_cases hdc : d = c
    · subst hdc
      rw [upd_ne _ _ (show 2 * d ≠ 2 * d + 1 by omega), upd_self, upd_self, h.rp d hd, List.map_append, List.append_assoc]
      rfl
    · rw [upd_ne _ _ (show 2 * d ≠ 2 * c + 1 by omega), upd_ne _ _ (show 2 * d ≠ 2 * c by omega), upd_ne _ _ hdc]
      exact h.rp d hd
  · by_cases hdc : d = c
    · subst hdc
      rw [upd_self, upd_self, h.rq d hd, List.map_append, List.append_assoc]
      rfl
    · rw [upd_ne _ _ (show 2 * d + 1 ≠ 2 * c + 1 by omega), upd_ne _ _ (show 2 * d + 1 ≠ 2 * c by omega), upd_ne _ _ hdc]
      exact h.rq d hd
  · rcases (ifeet_snoc hc).1 hk with hk | hk
    · exact h.lo k hk
    · exact Nat.le_trans hSW (f1 k hk)
theorem dk_small {D : Dk} (h : D.Wf) (s : Nm) : (D.bytes s).length ≤ 1073741824 ∧ D.names.length ≤ 1073741824 := by
  refine ⟨?_, ?_⟩
  · unfold Dk.bytes
    by_cases h0 : D.seek s = 0
    · rw [if_pos h0]
      cases hf : D.find s with
      | none => simp
      | some f =>
        have h1 := sumF_mem (findK_some _ hf).1
        have := h.used
        have := h.lim1
        show f.b.length ≤ _
        omega
    · rw [if_neg h0]
      simp
  · unfold Dk.names
    have := h.count
    cases D.off <;> simp
    omega
theorem info_str78 : (Try.prog.info? 78).map (fun i => (i.zero, i.size, i.bytes)) = some (some (.slice none 0 0), 1, 24) := by kernel_rfl
theorem info_file34 : (Try.prog.info? 34).map (fun i => (i.zero, i.size, i.bytes)) = some (some (.slice none 0 0), 1, 24) := by kernel_rfl
end Go.Proofs.Ytnppneilbkmnfaa
