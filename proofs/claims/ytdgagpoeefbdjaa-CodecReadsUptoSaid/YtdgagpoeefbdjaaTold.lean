/- The contract of the law's 'told', whatever is read; New, Left, End of the document's reader; the law's 'stands'. Conditions: the numbers are ints. -/
import Derived.Test.YtdgagpoeefbdjaaTg
import Derived.Test.YtdgagpoeefbdjaaQe
import Derived.Test.YtdgagpoeefbdjaaRs
namespace Go.Proofs.Ytdgagpoeefbdjaa
open Go.RowKit

/-- The end of the law's 'told'. -/
def LawTold (w : World) (q : Nat) (v : Value) (bs : List UInt8) (a : Nat) (r : Rd) (e : Ending) (w' : World) : Prop :=
  ∃ x, e = .returned (.agg #[.int .u64 (r.2.2.1 : Nat), x]) ∧ Fresh w.heap.size r.2.2.2 w' x ∧ QAt w' q v bs (a + r.2.1) r.1 ∧ Ext (One q) w w'
def OnQW (w2 : World) (q : Nat) (v : Value) (bs : List UInt8) (a' : Nat) (er : Int) (w1 : World) : Prop := QAt w1 q v bs a' er ∧ Ext (One q) w2 w1
theorem OnQW.small {w : World} {K A B : Int} {q : Nat} (hp : q < w.heap.size) {v : Value} {bs : List UInt8} {a' : Nat} {er : Int} {w1 : World} (h : OnQW (inRead w K A B) q v bs a' er w1) : Ext (fun k => k < w.heap.size) (inRead w K A B) w1 :=
  h.2.mono fun k _ e => by have e : k = q := e; omega

theorem told_on {w : World} {K A B : Int} {q : Nat} {v : Value} {bs : List UInt8} {a : Nat} {err : Int} (h : QAt w q v bs a err) {r : Rd} {n : Nat} {x : Value} {w1 w' : World} (hn : n = r.2.2.1) (hx : Fresh w.heap.size r.2.2.2 w1 x) (ho : OnQW (inRead w K A B) q v bs (a + r.2.1) r.1 w1) (he : Ext (One (w.heap.size + 1)) w1 w')
    (hfx : ∀ k, inFoot x k → k ≠ w.heap.size + 1) : LawTold w q v bs a r (.returned (.agg #[.int .u64 n, x])) w' := by
  subst hn
  have hp := h.cells.lt
  have hv := h.lt
  refine ⟨x, rfl, ?_, ho.1.ext he fun k hk e => ?_, ?_⟩
  · obtain ⟨ao, cap, h1, h2, rfl, h3, h4⟩ := hx
    exact ⟨ao, cap, h1, h2, rfl, h3.ext he fun k hk e => hfx k hk e, h4⟩
  · have e : k = w.heap.size + 1 := e
    rcases hk with hk | hk
    · omega
    · have := hv k hk; omega
  · have e1 : Ext (fun k => k = q ∨ w.heap.size ≤ k) w w1 := ((inRead_ext w K A B).mono fun _ _ h => h.elim).trans ho.2 fun i _ hi => .inl hi
    exact (e1.trans he fun i _ hi => .inr (by have hi : i = w.heap.size + 1 := hi; omega)).mono fun k hk h => h.resolve_right (by omega)

theorem qvar_any (w : World) (q : Nat) (v : Value) (bs : List UInt8) (a : Nat) (err : Int) (h : QAt w q v bs a err) :
    Calls Try.prog 130 #[.pointer (some ⟨q, 0, none⟩)] w (QEnd w q v bs a (rdE err 4 0 0 (bs.drop a)) (.int .u64 ((rdE err 4 0 0 (bs.drop a)).2.2.1 : Nat))) := by
  by_cases he : err = 0
  · subst he
    rw [rdE_on]
    exact qvar w q v bs a h
  · rw [rdE_off he]
    have c2 := h.cells.cell 2 rfl
    have hb : (err != 0) = true := by rw [bne_iff_ne]; exact he
    have HE := Lib.hid he
    clear he
    go_enter Try.func130, Try.ntmps130
    go_wp2_with fail
    go_ret
    exact ⟨rfl, h, Ext.refl _ _⟩

theorem rdE_ab (err K A B : Int) (hK : K = 0 ∨ K = 1 ∨ K = 2 ∨ K = 3 ∨ K = 4) (rest : List UInt8) : rdE err K 0 0 rest = rdE err K A B rest := by
  rcases hK with rfl | rfl | rfl | rfl | rfl <;> rfl
theorem rdE_5 (err A B : Int) (rest : List UInt8) : rdE err 5 A 0 rest = rdE err 5 A B rest := rfl
theorem rdE_6 (err A B : Int) (rest : List UInt8) : rdE err 6 A 0 rest = rdE err 6 A B rest := rfl
theorem rdE_7 (err A B : Int) (rest : List UInt8) : rdE err 6 A 0 rest = rdE err 7 A B rest := rfl
theorem rdE_noB (err K A B : Int) (rest : List UInt8) (h : K ≠ 5 ∧ K ≠ 6 ∧ K ≠ 7) : (rdE err K A B rest).2.2.2 = [] := by
  unfold rdE
  split
  · exact rd_noB K A B rest h
  · rfl
theorem rdE_noN (err A B : Int) (rest : List UInt8) : (rdE err 5 A B rest).2.2.1 = 0 ∧ (rdE err 6 A B rest).2.2.1 = 0 ∧ (rdE err 7 A B rest).2.2.1 = 0 := by
  unfold rdE
  split
  · exact ⟨(rd_noN A rest).1, (rd_noN A rest).2, (rd_noN A rest).2⟩
  · exact ⟨rfl, rfl, rfl⟩
theorem rdE_num (err K A B : Int) (rest : List UInt8) (hA : A ≤ 9223372036854775807) : (K = 0 → (rdE err K A B rest).2.2.1 ≤ 255) ∧ (K = 1 → (rdE err K A B rest).2.2.1 ≤ 1) ∧ (K = 2 → (rdE err K A B rest).2.2.1 ≤ 4294967295) ∧ (K = 3 ∨ K = 4 → (rdE err K A B rest).2.2.1 ≤ 18446744073709551615) ∧ (K = 8 → (rdE err K A B rest).2.2.1 ≤ 9223372036854775807) := by
  by_cases he : err = 0
  · subst he
    rw [rdE_on]
    refine ⟨?_, ?_, ?_, ?_, ?_⟩
    · rintro rfl
      exact rd0_lt rest
    · rintro rfl
      show (rd1 rest).2.2.1 ≤ 1
      unfold rd1
      split
      · simp
      · split
        · assumption
        · simp
    · rintro rfl
      have := rdF_lt 4 rest
      show (rdF 4 rest).2.2.1 ≤ _
      omega
    · rintro (rfl | rfl)
      · have := rdF_lt 8 rest
        show (rdF 8 rest).2.2.1 ≤ _
        omega
      · exact rd4_lt rest
    · rintro rfl
      exact rd8_lt A B rest hA
  · rw [rdE_off he]
    simp
theorem rdE_len (err A B : Int) (rest : List UInt8) : (rdE err 7 A B rest).2.2.2.length ≤ rest.length := by
  by_cases he : err = 0
  · subst he
    rw [rdE_on]
    exact rd6_len A rest
  · rw [rdE_off he]
    simp

theorem told_any {w : World} {q : Nat} {v : Value} {bs : List UInt8} {a : Nat} {err : Int} (h : QAt w q v bs a err) (K A B : Int) (hK : IsInt64 K) (hA : IsInt64 A) (hB : IsInt64 B) :
    Calls Try.prog 46 #[.pointer (some ⟨q, 0, none⟩), getV K A B] w (LawTold w q v bs a (rdE err (K % 9) A B (bs.drop a))) := by
  have h2 : QAt (inRead w K A B) q v bs a err := h.nil (inRead_ext w K A B)
  have hsz := inRead_size w K A B
  have hp := h.cells.lt
  have h9 : K % 9 = 0 ∨ K % 9 = 1 ∨ K % 9 = 2 ∨ K % 9 = 3 ∨ K % 9 = 4 ∨ K % 9 = 5 ∨ K % 9 = 6 ∨ K % 9 = 7 ∨ K % 9 = 8 := by omega
  have nofoot : ∀ (q : Nat), ∀ k, inFoot (.slice none 0 0) k → k ≠ q := fun q k hk => by simp [inFoot, foot] at hk
  have hnum := fun K => rdE_num err K A B (bs.drop a) hA.2
  have hnoB := fun K => rdE_noB err K A B (bs.drop a)
  have hnoN := rdE_noN err A B (bs.drop a)
  have hfresh : ∀ (K : Int) (w1 : World), (K ≠ 5 ∧ K ≠ 6 ∧ K ≠ 7) → Fresh w.heap.size (rdE err K A B (bs.drop a)).2.2.2 w1 (.slice none 0 0) := fun K w1 hk => by rw [hnoB K hk]; exact fresh_nil _ _
  rcases h9 with hk | hk | hk | hk | hk | hk | hk | hk | hk
  · rw [hk]
    have hq := qbyte _ q v bs a err h2
    rw [rdE_ab err 0 A B (by omega)] at hq
    refine (told_byte w _ K A B hK.1 hK.2 hk (fun n w1 => n = (rdE err 0 A B (bs.drop a)).2.2.1 ∧ OnQW (inRead w K A B) q v bs (a + (rdE err 0 A B (bs.drop a)).2.1) (rdE err 0 A B (bs.drop a)).1 w1) (fun n w' hq => hq.2.small hp) (hq.mono fun e w' hm => ⟨_, hm.1, (hnum 0).1 rfl, rfl, hm.2⟩)).mono ?_
    rintro e w' ⟨n, x, w1, rfl, ⟨rfl, hn, ho⟩, he⟩
    exact told_on h hn (hfresh 0 _ (by omega)) ho he (nofoot _)
  · rw [hk]
    have hq := qbool _ q v bs a err h2
    rw [rdE_ab err 1 A B (by omega)] at hq
    have h1 := (hnum 1).2.1 rfl
    refine (told_bool w _ K A B hK.1 hK.2 hk (fun n w1 => n = (rdE err 1 A B (bs.drop a)).2.2.1 ∧ OnQW (inRead w K A B) q v bs (a + (rdE err 1 A B (bs.drop a)).2.1) (rdE err 1 A B (bs.drop a)).1 w1) (fun n w' hq => hq.2.small hp) (hq.mono fun e w' hm => ⟨_, hm.1, ?_, hm.2⟩)).mono ?_
    · generalize (rdE err 1 A B (bs.drop a)).2.2.1 = m at h1
      have : m = 0 ∨ m = 1 := by omega
      rcases this with rfl | rfl <;> rfl
    rintro e w' ⟨n, x, w1, rfl, ⟨rfl, hn, ho⟩, he⟩
    exact told_on h hn (hfresh 1 _ (by omega)) ho he (nofoot _)
  · rw [hk]
    have hq := qu32 _ q v bs a err h2
    rw [rdE_ab err 2 A B (by omega)] at hq
    refine (told_u32 w _ K A B hK.1 hK.2 hk (fun n w1 => n = (rdE err 2 A B (bs.drop a)).2.2.1 ∧ OnQW (inRead w K A B) q v bs (a + (rdE err 2 A B (bs.drop a)).2.1) (rdE err 2 A B (bs.drop a)).1 w1) (fun n w' hq => hq.2.small hp) (hq.mono fun e w' hm => ⟨_, hm.1, (hnum 2).2.2.1 rfl, rfl, hm.2⟩)).mono ?_
    rintro e w' ⟨n, x, w1, rfl, ⟨rfl, hn, ho⟩, he⟩
    exact told_on h hn (hfresh 2 _ (by omega)) ho he (nofoot _)
  · rw [hk]
    have hq := qu64 _ q v bs a err h2
    rw [rdE_ab err 3 A B (by omega)] at hq
    refine (told_u64 w _ K A B hK.1 hK.2 hk (fun n w1 => n = (rdE err 3 A B (bs.drop a)).2.2.1 ∧ OnQW (inRead w K A B) q v bs (a + (rdE err 3 A B (bs.drop a)).2.1) (rdE err 3 A B (bs.drop a)).1 w1) (fun n w' hq => hq.2.small hp) (hq.mono fun e w' hm => ⟨_, hm.1, (hnum 3).2.2.2.1 (.inl rfl), rfl, hm.2⟩)).mono ?_
    rintro e w' ⟨n, x, w1, rfl, ⟨rfl, hn, ho⟩, he⟩
    exact told_on h hn (hfresh 3 _ (by omega)) ho he (nofoot _)
  · rw [hk]
    have hq := qvar_any _ q v bs a err h2
    rw [rdE_ab err 4 A B (by omega)] at hq
    refine (told_var w _ K A B hK.1 hK.2 hk (fun n w1 => n = (rdE err 4 A B (bs.drop a)).2.2.1 ∧ OnQW (inRead w K A B) q v bs (a + (rdE err 4 A B (bs.drop a)).2.1) (rdE err 4 A B (bs.drop a)).1 w1) (fun n w' hq => hq.2.small hp) (hq.mono fun e w' hm => ⟨_, hm.1, (hnum 4).2.2.2.1 (.inr rfl), rfl, hm.2⟩)).mono ?_
    rintro e w' ⟨n, x, w1, rfl, ⟨rfl, hn, ho⟩, he⟩
    exact told_on h hn (hfresh 4 _ (by omega)) ho he (nofoot _)
  · rw [hk]
    have hq := qraw _ q v bs a err h2 A hA.2
    rw [rdE_5 err A B] at hq
    refine (told_raw w _ K A B hK.1 hK.2 hk (fun x w1 => Fresh (inRead w K A B).heap.size (rdE err 5 A B (bs.drop a)).2.2.2 w1 x ∧ OnQW (inRead w K A B) q v bs (a + (rdE err 5 A B (bs.drop a)).2.1) (rdE err 5 A B (bs.drop a)).1 w1) (fun n w' hq => hq.2.small hp) (hq.mono ?_)).mono ?_
    · rintro e w' ⟨x, rfl, hx, ho⟩
      have hx' := hx
      obtain ⟨ao, cap, _, _, rfl, _⟩ := hx'
      exact ⟨ao, _, cap, rfl, hx, ho⟩
    rintro e w' ⟨n, x, w1, rfl, ⟨hn, hx, ho⟩, he⟩
    exact told_on h (hn.trans hnoN.1.symm) (hx.le (by omega)) ho he fun k hk => by
      obtain ⟨_, _, _, _, _, _, h4⟩ := hx
      have := h4 k hk
      omega
  · rw [hk]
    have hq := qbytes _ q v bs a err h2 A hA.2
    rw [rdE_6 err A B] at hq
    refine (told_bytes w _ K A B hK.1 hK.2 hk (fun x w1 => Fresh (inRead w K A B).heap.size (rdE err 6 A B (bs.drop a)).2.2.2 w1 x ∧ OnQW (inRead w K A B) q v bs (a + (rdE err 6 A B (bs.drop a)).2.1) (rdE err 6 A B (bs.drop a)).1 w1) (fun n w' hq => hq.2.small hp) (hq.mono ?_)).mono ?_
    · rintro e w' ⟨x, rfl, hx, ho⟩
      have hx' := hx
      obtain ⟨ao, cap, _, _, rfl, _⟩ := hx'
      exact ⟨ao, _, cap, rfl, hx, ho⟩
    rintro e w' ⟨n, x, w1, rfl, ⟨hn, hx, ho⟩, he⟩
    exact told_on h (hn.trans hnoN.2.1.symm) (hx.le (by omega)) ho he fun k hk => by
      obtain ⟨_, _, _, _, _, _, h4⟩ := hx
      have := h4 k hk
      omega
  · rw [hk]
    have hq := qtext _ q v bs a err h2 A hA.2
    rw [rdE_7 err A B] at hq
    have hl := rdE_len err A B (bs.drop a)
    rw [drop_len] at hl
    have hfit : bs.length ≤ 1099511627776 := h.fits
    refine (told_text w _ K A B hK.1 hK.2 hk (fun s w1 => s = ⟨(rdE err 7 A B (bs.drop a)).2.2.2.toArray⟩ ∧ OnQW (inRead w K A B) q v bs (a + (rdE err 7 A B (bs.drop a)).2.1) (rdE err 7 A B (bs.drop a)).1 w1) (fun n w' hq => hq.2.small hp) (hq.mono fun e w' hm => ⟨_, hm.1, rfl, hm.2⟩)).mono ?_
    rintro e w' ⟨n, x, w1, rfl, ⟨hn, s, w0, ⟨hs, ho⟩, rfl, rfl⟩, he⟩
    have hfr := fresh_str w0 (rdE err 7 A B (bs.drop a)).2.2.2 (by unfold maxLen; omega)
    subst hs
    have hsz0 := ho.2.size
    have ho2 : OnQW (inRead w K A B) q v bs (a + (rdE err 7 A B (bs.drop a)).2.1) (rdE err 7 A B (bs.drop a)).1 (strWorld w0 ⟨(rdE err 7 A B (bs.drop a)).2.2.2.toArray⟩) := ⟨ho.1.nil (strWorld_ext _ _), ho.2.trans (strWorld_ext _ _) fun _ _ h => h.elim⟩
    exact told_on h (hn.trans hnoN.2.2.symm) (hfr.le (by omega)) ho2 he fun k hk => by
      obtain ⟨_, _, _, _, _, _, h4⟩ := hfr
      have := h4 k hk
      omega
  · rw [hk]
    have hq := qcount _ q v bs a err h2 A B hA.2 hB.2
    refine (told_count w _ K A B hK.1 hK.2 hk (fun n w1 => n = (rdE err 8 A B (bs.drop a)).2.2.1 ∧ OnQW (inRead w K A B) q v bs (a + (rdE err 8 A B (bs.drop a)).2.1) (rdE err 8 A B (bs.drop a)).1 w1) (fun n w' hq => hq.2.small hp) (hq.mono fun e w' hm => ⟨_, hm.1, (hnum 8).2.2.2.2 rfl, rfl, hm.2⟩)).mono ?_
    rintro e w' ⟨n, x, w1, rfl, ⟨rfl, hn, ho⟩, he⟩
    exact told_on h hn (hfresh 8 _ (by omega)) ho he (nofoot _)
end Go.Proofs.Ytdgagpoeefbdjaa
