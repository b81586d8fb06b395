/- The document's disk: the contract of Sync. Condition: the disk stands; few calls were made. | The document's disk: the contract of Append at a file that is not there. Condition: the disk stands; few calls were made. | The document's disk: the contract of Append. Condition: the disk stands; few calls were made. | The document's disk: Crash at a disk that is off for good. Condition: the disk stands. | The law's 'sameNames' at two rows that hold the same names. | The law's 'left' at bytes that are as they were. | The law's 'spoil': bytes of one's own are written over. | The law's 'room': bytes in new memory, with marks behind them. -/
import Derived.Test.YtnppneilbkmnfaaK6
namespace Go.Proofs.Ytnppneilbkmnfaa
open Go.RowKit

theorem sync_num (D : Dk) (s : Nm) {f : FileM} (h : D.seek s = 0) (hf : D.find s = some f) : D.sync s = ({ befD D with fs := if befDo D then putK FileM.nm ⟨s, f.b, f.b.length⟩ D.fs else D.fs }, befE D) := by
  have e1 : Dk.syncIt s = fun E : Dk => { E with fs := syncF s E.fs } := funext fun E => Dk.syncIt_eq E s
  have e2 : syncF s D.fs = putK FileM.nm ⟨s, f.b, f.b.length⟩ D.fs := by
    unfold syncF
    have hf2 : findK FileM.nm s D.fs = some f := hf
    rw [hf2]
  unfold Dk.sync
  rw [if_neg (by simp [h]), e1, num_bef, e2]
theorem sync_seek (D : Dk) (s : Nm) (h : D.seek s ≠ 0) : D.sync s = (D, D.seek s) := if_pos h
theorem insK_mid (x : FileM) : ∀ (A B : List FileM), (∀ a ∈ A, bytesBefore x.nm a.nm = false) → (∀ b ∈ B, bytesBefore x.nm b.nm = true) → insK FileM.nm x (A ++ B) = A ++ x :: B
  | [], [], _, _ => rfl
  | [], b :: B, _, h2 => by simp [insK, h2 b (List.mem_cons_self ..)]
  | a :: A, B, h1, h2 => by
    simp only [List.cons_append, insK, h1 a (List.mem_cons_self ..), Bool.false_eq_true, if_false]
    rw [insK_mid x A B (fun a h => h1 a (List.mem_cons_of_mem _ h)) h2]
theorem putK_at {l : List FileM} (h : Rises FileM.nm l) {k : Nat} {x y : FileM} (hy : l[k]? = some y) (hn : x.nm = y.nm) : putK FileM.nm x l = l.set k x := by
  obtain ⟨hk, he⟩ := List.getElem?_eq_some_iff.1 hy
  have e : l = l.take k ++ y :: l.drop (k + 1) := by
    rw [← he, ← List.drop_eq_getElem_cons hk, List.take_append_drop]
  rw [List.set_eq_take_append_cons_drop, if_pos hk]
  generalize l.take k = A at *
  generalize l.drop (k + 1) = B at *
  clear hy hk he
  subst e
  have h3 := List.pairwise_append.1 h
  have h4 := List.pairwise_cons.1 h3.2.1
  have d1 := delK_none FileM.nm y.nm A fun a ha => before_ne (h3.2.2 a ha y (List.mem_cons_self ..))
  have d2 := delK_none FileM.nm y.nm B fun a ha => (before_ne (h4.1 a ha)).symm
  have d3 : delK FileM.nm x.nm (A ++ y :: B) = A ++ B := by
    rw [hn]
    unfold delK at *
    rw [List.filter_append, List.filter_cons, d1, if_neg (by simp), d2]
  unfold putK
  rw [d3]
  exact insK_mid x A B (fun a ha => by rw [hn]; exact before_asymm (h3.2.2 a ha y (List.mem_cons_self ..))) fun b hb => by rw [hn]; exact h4.1 b hb
theorem flat_set {α : Type} (f : α → List Value) (n j : Nat) (u : Value) (x y : α) (hj : j < n) (hy : f y = (f x).set j u) : ∀ (l : List α) (k : Nat), (∀ z ∈ l, (f z).length = n) → l[k]? = some x → (l.flatMap f).set (k * n + j) u = (l.set k y).flatMap f
  | [], k, _, h => by simp at h
  | a :: r, 0, hl, h => by
    simp only [List.getElem?_cons_zero, Option.some.injEq] at h
    subst h
    have := hl a (List.mem_cons_self ..)
    rw [List.flatMap_cons, Nat.zero_mul, Nat.zero_add, List.set_append_left _ _ (by omega), List.set_cons_zero, List.flatMap_cons, hy]
  | a :: r, k + 1, hl, h => by
    have ha := hl a (List.mem_cons_self ..)
    have ih := flat_set f n j u x y hj hy r k (fun z hz => hl z (List.mem_cons_of_mem _ hz)) (by simpa using h)
    have e : (k + 1) * n + j - (f a).length = k * n + j := by rw [ha, Nat.add_mul]; omega
    rw [List.flatMap_cons, List.set_append_right _ _ (by rw [ha, Nat.add_mul]; omega), List.set_cons_succ, List.flatMap_cons, e, ih]

/-- a store into the third cell of a file's record -/
theorem Row.setC {w : World} {g c : Nat} {l : List TI} (h : Row kQ w (.slice (some ⟨g, 0, none⟩) l.length (c + 1)) l) {k : Nat} {x : TI} (hx : l[k]? = some x) (n : Nat) :
    Row kQ (w.setCell ⟨g, k * 3 + 2, none⟩ (.int .i64 n)) (.slice (some ⟨g, 0, none⟩) l.length (c + 1)) (l.set k ⟨⟨x.f.nm, x.f.b, n⟩, x.v⟩) ∧ w.frozen? ⟨g, k * 3 + 2, none⟩ = false := by
  have hkl := (List.getElem?_eq_some_iff.1 hx).1
  have e : Ext (One g) w (w.setCell ⟨g, k * 3 + 2, none⟩ (.int .i64 n)) := (Ext.refl (One g) w).setCell (p := ⟨g, k * 3 + 2, none⟩) (fun _ => rfl) _
  have hof : ∀ y ∈ l, ∀ i, inFoot (kQ.pt y) i → ¬ One g i := fun y hy i hi he => by
    have he : i = g := he
    subst he
    exact (h.apart y hy i hi).2 rfl
  have hxm := List.mem_of_getElem? hx
  have hmem : ∀ y ∈ l.set k ⟨⟨x.f.nm, x.f.b, n⟩, x.v⟩, ∃ z ∈ l, kQ.pt y = kQ.pt z ∧ kQ.bs y = kQ.bs z := fun y hy => by
    rcases List.mem_or_eq_of_mem_set hy with hy | rfl
    · exact ⟨y, hy, rfl, rfl⟩
    · exact ⟨x, hxm, rfl, rfl⟩
  have hlen := h.row.1
  rcases h.row.2 with ⟨ao', h1, h2⟩ | ⟨g', c', cs, h1, h2, h3, h4, h5, h6⟩
  · omega
  · simp only [Value.slice.injEq, Option.some.injEq, Addr.mk.injEq, and_true, true_and, Nat.add_right_cancel_iff] at h1
    obtain ⟨rfl, rfl⟩ := h1
    have h5 : cs.length = (c + 1) * 3 := h5
    have h6 : cs.take (l.length * 3) = l.flatMap TI.cells := h6
    refine ⟨⟨⟨?_, .inr ⟨g, c, cs.set (k * 3 + 2) (.int .i64 n), by rw [List.length_set], h2.set (k * 3 + 2) (.int .i64 n), by rw [List.length_set]; exact h3, h4, by rw [List.length_set]; exact h5, ?_⟩⟩, ?_, ?_⟩, h2.frozen (k * 3 + 2) (by omega)⟩
    · show ((l.set k ⟨⟨x.f.nm, x.f.b, n⟩, x.v⟩).flatMap TI.cells).length = (l.set k ⟨⟨x.f.nm, x.f.b, n⟩, x.v⟩).length * 3
      rw [← flat_set TI.cells 3 2 (.int .i64 n) x ⟨⟨x.f.nm, x.f.b, n⟩, x.v⟩ (by omega) rfl l k (fun _ _ => rfl) hx, List.length_set, List.length_set]
      exact hlen
    · show (cs.set (k * 3 + 2) (.int .i64 n)).take ((l.set k ⟨⟨x.f.nm, x.f.b, n⟩, x.v⟩).length * 3) = (l.set k ⟨⟨x.f.nm, x.f.b, n⟩, x.v⟩).flatMap TI.cells
      rw [← flat_set TI.cells 3 2 (.int .i64 n) x ⟨⟨x.f.nm, x.f.b, n⟩, x.v⟩ (by omega) rfl l k (fun _ _ => rfl) hx, List.length_set, List.take_set, h6]
    · intro y hy
      obtain ⟨z, hz, e1, e2⟩ := hmem y hy
      rw [e1, e2]
      exact (h.bytes z hz).ext e (hof z hz)
    · intro y hy i hi
      obtain ⟨z, hz, e1, e2⟩ := hmem y hy
      rw [e1] at hi
      exact ⟨Nat.lt_of_lt_of_le (h.apart z hz i hi).1 e.size, (h.apart z hz i hi).2⟩
theorem feet_set {v : Value} {l : List TI} {k : Nat} {x : TI} (hx : l[k]? = some x) (n : Nat) {i : Nat} (hi : feet kQ v (l.set k ⟨⟨x.f.nm, x.f.b, n⟩, x.v⟩) i) : feet kQ v l i := by
  rcases hi with hi | ⟨y, hy, hi⟩
  · exact .inl hi
  · rcases List.mem_or_eq_of_mem_set hy with hy | rfl
    · exact .inr ⟨y, hy, hi⟩
    · exact .inr ⟨x, List.mem_of_getElem? hx, hi⟩
theorem QAt.sync {w : World} {q g c : Nat} {av : Value} {fl : List TI} {D : Dk} (h : QAt w q (.slice (some ⟨g, 0, none⟩) fl.length (c + 1)) av fl D) {k : Nat} {x : TI} {f : FileM} (hx : fl[k]? = some x) (hxf : x.f = f) (hwf : ({ D with fs := putK FileM.nm ⟨f.nm, f.b, f.b.length⟩ D.fs } : Dk).Wf) :
    QAt (w.setCell ⟨g, k * 3 + 2, none⟩ (.int .i64 f.b.length)) q (.slice (some ⟨g, 0, none⟩) fl.length (c + 1)) av (fl.set k ⟨⟨f.nm, f.b, f.b.length⟩, x.v⟩) { D with fs := putK FileM.nm ⟨f.nm, f.b, f.b.length⟩ D.fs } := by
  subst hxf
  have e : Ext (One g) w (w.setCell ⟨g, k * 3 + 2, none⟩ (.int .i64 x.f.b.length)) := (Ext.refl (One g) w).setCell (p := ⟨g, k * 3 + 2, none⟩) (fun _ => rfl) _
  have hgq : g ≠ q := h.apq g (.inl rfl)
  refine ⟨h.cells.ext e fun (h9 : q = g) => hgq h9.symm, (h.files.setC hx x.f.b.length).1, ?_, h.arms.extA e fun i hi (h9 : i = g) => ?_, fun i hi => h.apq i (feet_set hx _ hi), fun i hi => ⟨(h.apa i hi).1, fun hf => (h.apa i hi).2 (feet_set hx _ hf)⟩, hwf⟩
  · show (fl.set k ⟨⟨x.f.nm, x.f.b, x.f.b.length⟩, x.v⟩).map TI.f = putK FileM.nm ⟨x.f.nm, x.f.b, x.f.b.length⟩ D.fs
    rw [putK_at (x := ⟨x.f.nm, x.f.b, x.f.b.length⟩) h.wf.rises (h.fs hx) rfl, ← h.same, List.map_set]
  · subst h9
    exact (h.apa i hi).2 (.inl rfl)

set_option maxRecDepth 20000 in
set_option maxHeartbeats 4000000 in
theorem qsync_m (w : World) (q : Nat) (D : Dk) (G : Nat → Prop) (hQ : QDisk w q D G) (hc : D.calls ≤ 1099511627776) (hal : D.arms.length ≤ 1099511627776) (s : ByteArray) (hs : s.size ≤ maxLen) :
    Calls Try.prog 99 #[.pointer (some ⟨q, 0, none⟩), .string s] w (QActed w q G (D.sync s.data.toList)) := by
  have hQD := hQ
  obtain ⟨fv, av, fl, h, rfl⟩ := hQ
  obtain ⟨fa, fc, rfl, hf1, hf2⟩ := h.files.shape
  have HAsk := Lib.hid (qasked_m w q _ av fl D h s hs)
  have HAt := Lib.hid (qat_m w q _ av fl D h s)
  have hcn := h.wf.count
  rw [← h.len] at hcn
  by_cases hr : D.refuse s.data.toList = 0
  · cases hfd : D.find s.data.toList with
    | some f =>
      have hsk := seek_some hr hfd
      obtain ⟨f1, f2, f3, f4, f5⟩ := find_file h.wf hfd
      have hul := h.wf.used
      have hl1 := h.wf.lim1
      have hul2 : sumF D.fs = D.used := rfl
      have hfb : f.b.length ≤ 1073741824 := by omega
      have hroom : D.used ≤ D.lim := by omega
      obtain ⟨k, hk⟩ : ∃ k : Nat, D.fs[k]? = some f := by
        obtain ⟨k, hk, he⟩ := List.mem_iff_getElem.1 f1
        exact ⟨k, by rw [List.getElem?_eq_getElem hk, he]⟩
      obtain ⟨y, hy, hyf⟩ := h.item hk
      have hkl := (List.getElem?_eq_some_iff.1 hy).1
      obtain ⟨g, c, hg, -, hcm, -⟩ := h.files.open (fun x _ => rfl) (by omega) (show 0 < 3 by omega)
      simp only [Value.slice.injEq, true_and] at hg
      obtain ⟨rfl, rfl⟩ := hg
      have HWF := Lib.hid h.wf; have HR := Lib.hid hr; have HFD := Lib.hid hfd; have H := Lib.hid h; have HSK := Lib.hid hsk; have HK := Lib.hid hk; have HF4 := Lib.hid f4; have HROOM := Lib.hid hroom; have HQD := Lib.hid hQD; have HF2 := Lib.hid f2; have HY := Lib.hid hy; have HYF := Lib.hid hyf
      clear hr hfd h hsk hk hy hyf f1 f2 f3 f4 f5 hul hl1 hul2 hroom hQD
      cases hdo : befDo D
      · have hdn : D.sync s.data.toList = (befD D, befE D) := by rw [sync_num D _ HSK.out HFD.out, hdo]; simp only [Bool.false_eq_true, if_false]; rw [same_fs]
        have HDO := Lib.hid hdo; have HDN := Lib.hid hdn
        clear hdo hdn
        go_enter Try.func99, Try.ntmps99
        go_wp2_with (first
          | (go_at_call 83; refine (HAsk.out).mono ?_; rintro e w' ⟨rfl, rfl⟩; rw [HR.out])
          | (go_at_call 84; refine (HAt.out).mono ?_; rintro e w' ⟨i, rfl, hi, rfl⟩; obtain rfl := atQ_uniq HWF.out hi HFD.out HK.out; clear hi)
          | (go_at_call 86; refine (befall_m _ q _ av fl D H.out hc hal).mono ?_; rintro e w2 ⟨u2, rfl, hq2, e2, hk2⟩; rw [HDO.out]; have HQ2 := Lib.hid hq2; have HE2 := Lib.hid e2; have HK2 := Lib.hid hk2; clear hq2 e2 hk2))
        go_ret
        rw [HDN.out]
        exact QActed.of (fv' := _) (av' := u2) (fl' := fl) HQ2.out HE2.out (by
          rintro k (hk | hk | hk)
          · exact .inl (.inl hk)
          · exact .inl (.inr (.inl hk))
          · exact .inr (HK2.out k hk))
      · have hdn : D.sync s.data.toList = ({ befD D with fs := putK FileM.nm ⟨f.nm, f.b, f.b.length⟩ (befD D).fs }, befE D) := by rw [sync_num D _ HSK.out HFD.out, hdo, befD_fs, HF2.out]; rfl
        have hpw := put_wf2 HWF.out ⟨f.nm, f.b, f.b.length⟩ (Nat.le_refl _) (by rw [HF2.out]; exact refuse_nm HR.out) (by
          unfold Dk.room
          simp only [HF2.out]
          rw [HF4.out, HFD.out]
          have := HROOM.out
          simp only [Option.isSome_some, Bool.true_or, Bool.and_true, decide_eq_true_eq]
          omega)
        rw [befD_put, ← befD_fs] at hpw
        have HDO := Lib.hid hdo; have HDN := Lib.hid hdn; have HPW := Lib.hid hpw
        clear hdo hdn hpw
        go_enter Try.func99, Try.ntmps99
        go_wp2_with (first
          | (go_at_call 83; refine (HAsk.out).mono ?_; rintro e w' ⟨rfl, rfl⟩; rw [HR.out])
          | (go_at_call 84; refine (HAt.out).mono ?_; rintro e w' ⟨i, rfl, hi, rfl⟩; obtain rfl := atQ_uniq HWF.out hi HFD.out HK.out; clear hi)
          | (go_at_call 86; refine (befall_m _ q _ av fl D H.out hc hal).mono ?_; rintro e w2 ⟨u2, rfl, hq2, e2, hk2⟩; rw [HDO.out]; have d2 := hq2.cells.cell 2 rfl; obtain ⟨by_, cy, hyv, Y0, d1, d3, hgl, -, hyc, hym⟩ := hq2.files.cellQ HY.out; rw [HYF.out] at d1 d3 hyc; have z3 := (hq2.files.setC HY.out f.b.length).2; have n0 := hq2.apq g (.inl rfl); clear Y0 hyv; have HQ2 := Lib.hid hq2; have HE2 := Lib.hid e2; have HK2 := Lib.hid hk2; clear hq2 e2 hk2))
        have n1 : (⟨g, k * 3 + 2, none⟩ : Addr) ≠ ⟨q, 2, none⟩ := by intro e; simp only [Addr.mk.injEq] at e; omega
        have n2 : (⟨g, k * 3 + 2, none⟩ : Addr) ≠ ⟨g, k * 3 + 1, none⟩ := by intro e; simp only [Addr.mk.injEq] at e; omega
        refine wp_region_held_drew (S := fun w' => w'.cell? ⟨q, 2, none⟩ = some (.slice (some ⟨g, 0, none⟩) fl.length (c + 1)) ∧ w'.cell? ⟨g, k * 3 + 1, none⟩ = some (.slice by_ f.b.length cy)) (by kernel_rfl) ⟨d2, d1⟩ (fun hHeld => ?_)
        refine wpAnyH_take (i := 0) (v := .pointer (some ⟨q, 0, none⟩)) rfl (by kernel_rfl) (by kernel_rfl) (by kernel_rfl) (fun _ _ _ h => h) (Or.inl ⟨by rfl, ?y1⟩) (by assumption) ?r1
        case y1 => (intro w hSw; obtain ⟨s1, s2⟩ := hSw; go_simp)
        simp only [Act.put]
        refine wpAnyH_take (i := 1) (v := .pointer (some ⟨q, 0, none⟩)) rfl (by kernel_rfl) (by kernel_rfl) (by kernel_rfl) (fun _ _ _ h => h) (Or.inl ⟨by rfl, ?y2⟩) (by assumption) ?r2
        case y2 => (intro w hSw; obtain ⟨s1, s2⟩ := hSw; go_simp)
        simp only [Act.put]
        refine wpAnyH_take (i := 2) (v := .pointer (some ⟨q, 2, none⟩)) rfl (by kernel_rfl) (by kernel_rfl) (by kernel_rfl) (fun _ _ _ h => h) (Or.inl ⟨by rfl, ?y3⟩) (by assumption) ?r3
        case y3 => (intro w hSw; obtain ⟨s1, s2⟩ := hSw; go_simp)
        simp only [Act.put]
        refine wpAnyH_take (i := 3) (v := .slice (some ⟨g, 0, none⟩) fl.length (c + 1)) rfl (by kernel_rfl) (by kernel_rfl) (by kernel_rfl) (fun _ _ _ h => h) (Or.inl ⟨by rfl, ?y4⟩) (by assumption) ?r4
        case y4 => (intro w hSw; obtain ⟨s1, s2⟩ := hSw; go_simp)
        simp only [Act.put]
        refine wpAnyH_take (i := 4) (v := .int .i64 (k : Int)) rfl (by kernel_rfl) (by kernel_rfl) (by kernel_rfl) (fun _ _ _ h => h) (Or.inl ⟨by rfl, ?y5⟩) (by assumption) ?r5
        case y5 => (intro w hSw; obtain ⟨s1, s2⟩ := hSw; go_simp)
        simp only [Act.put]
        refine wpAnyH_take (i := 5) (v := .pointer (some ⟨q, 0, none⟩)) rfl (by kernel_rfl) (by kernel_rfl) (by kernel_rfl) (fun _ _ _ h => h) (Or.inl ⟨by rfl, ?y6⟩) (by assumption) ?r6
        case y6 => (intro w hSw; obtain ⟨s1, s2⟩ := hSw; go_simp)
        simp only [Act.put]
        refine wpAnyH_take (i := 6) (v := .pointer (some ⟨q, 0, none⟩)) rfl (by kernel_rfl) (by kernel_rfl) (by kernel_rfl) (fun _ _ _ h => h) (Or.inl ⟨by rfl, ?y7⟩) (by assumption) ?r7
        case y7 => (intro w hSw; obtain ⟨s1, s2⟩ := hSw; go_simp)
        simp only [Act.put]
        refine wpAnyH_take (i := 7) (v := .pointer (some ⟨q, 2, none⟩)) rfl (by kernel_rfl) (by kernel_rfl) (by kernel_rfl) (fun _ _ _ h => h) (Or.inl ⟨by rfl, ?y8⟩) (by assumption) ?r8
        case y8 => (intro w hSw; obtain ⟨s1, s2⟩ := hSw; go_simp)
        simp only [Act.put]
        refine wpAnyH_take (i := 8) (v := .slice (some ⟨g, 0, none⟩) fl.length (c + 1)) rfl (by kernel_rfl) (by kernel_rfl) (by kernel_rfl) (fun _ _ _ h => h) (Or.inl ⟨by rfl, ?y9⟩) (by assumption) ?r9
        case y9 => (intro w hSw; obtain ⟨s1, s2⟩ := hSw; go_simp)
        simp only [Act.put]
        refine wpAnyH_take (i := 9) (v := .int .i64 (k : Int)) rfl (by kernel_rfl) (by kernel_rfl) (by kernel_rfl) (fun _ _ _ h => h) (Or.inl ⟨by rfl, ?y10⟩) (by assumption) ?r10
        case y10 => (intro w hSw; obtain ⟨s1, s2⟩ := hSw; go_simp)
        simp only [Act.put]
        refine wpAnyH_take (i := 10) (v := .pointer (some ⟨g, k * 3, none⟩)) rfl (by kernel_rfl) (by kernel_rfl) (by kernel_rfl) (fun _ _ _ h => h) (Or.inl ⟨by rfl, ?y11⟩) (by assumption) ?r11
        case y11 => (intro w hSw; obtain ⟨s1, s2⟩ := hSw; go_simp)
        simp only [Act.put]
        refine wpAnyH_take (i := 11) (v := .pointer (some ⟨g, k * 3 + 1, none⟩)) rfl (by kernel_rfl) (by kernel_rfl) (by kernel_rfl) (fun _ _ _ h => h) (Or.inl ⟨by rfl, ?y12⟩) (by assumption) ?r12
        case y12 => (intro w hSw; obtain ⟨s1, s2⟩ := hSw; go_simp)
        simp only [Act.put]
        refine wpAnyH_take (i := 12) (v := .slice by_ f.b.length cy) rfl (by kernel_rfl) (by kernel_rfl) (by kernel_rfl) (fun _ _ _ h => h) (Or.inl ⟨by rfl, ?y13⟩) (by assumption) ?r13
        case y13 => (intro w hSw; obtain ⟨s1, s2⟩ := hSw; go_simp)
        simp only [Act.put]
        refine wpAnyH_take (i := 13) (v := .int .i64 (f.b.length : Int)) rfl (by kernel_rfl) (by kernel_rfl) (by kernel_rfl) (fun _ _ _ h => h) (Or.inl ⟨by rfl, ?y14⟩) (by assumption) ?r14
        case y14 => (intro w hSw; obtain ⟨s1, s2⟩ := hSw; go_simp)
        simp only [Act.put]
        refine wpAnyH_take (i := 14) (v := .pointer (some ⟨g, k * 3, none⟩)) rfl (by kernel_rfl) (by kernel_rfl) (by kernel_rfl) (fun _ _ _ h => h) (Or.inl ⟨by rfl, ?y15⟩) (by assumption) ?r15
        case y15 => (intro w hSw; obtain ⟨s1, s2⟩ := hSw; go_simp)
        simp only [Act.put]
        refine wpAnyH_take (i := 15) (v := .pointer (some ⟨g, k * 3 + 2, none⟩)) rfl (by kernel_rfl) (by kernel_rfl) (by kernel_rfl) (fun _ _ _ h => h) (Or.inl ⟨by rfl, ?y16⟩) (by assumption) ?r16
        case y16 => (intro w hSw; obtain ⟨s1, s2⟩ := hSw; go_simp)
        simp only [Act.put]
        refine wpAnyH_ready (rs := [16]) (by kernel_rfl) (by simp) (AllReadyH.cons rfl (fun K hK => ?_) AllReadyH.nil)
        go_simp
        refine hK.out _ _ ⟨(World.cell?_setCell_other _ _ _ _ n1).trans d2, (World.cell?_setCell_other _ _ _ _ n2).trans d1⟩ (fun hHeld => ?_)
        clear hK K
        refine wpAnyH_done (by kernel_rfl) ?_ _
        go_wp2_with fail
        go_ret
        rw [HDN.out]
        have hS := (HQ2.out.sync HY.out HYF.out HPW.out).ext0 (Ext.refl Nil _).drew
        have hE : Ext (qbl q (.slice (some ⟨g, 0, none⟩) fl.length (c + 1)) av fl) w (w2.setCell ⟨g, k * 3 + 2, none⟩ (.int .i64 f.b.length)).drew := by
          have h8 : Ext (qbl q (.slice (some ⟨g, 0, none⟩) fl.length (c + 1)) av fl) w w2 := HE2.out.mono fun _ _ h => Or.inl h
          exact (h8.setCell (p := ⟨g, k * 3 + 2, none⟩) (fun _ => Or.inr (Or.inl (Or.inl rfl))) _).drew
        refine ⟨rfl, _, ⟨_, u2, _, hS, rfl⟩, hE, ?_⟩
        rintro i (hi | hi | hi)
        · exact .inl (.inl hi)
        · have hx9 := HYF.out
          subst hx9
          exact .inl (.inr (.inl (feet_set HY.out _ hi)))
        · exact .inr (HK2.out i hi)
    | none =>
      have hsk := seek_none hr hfd
      have e1 := sync_seek D s.data.toList (by omega)
      rw [hsk] at e1
      rw [e1]
      have HR := Lib.hid hr; have HFD := Lib.hid hfd; have HQD := Lib.hid hQD
      clear hr hfd h hsk e1 hQD
      go_enter Try.func99, Try.ntmps99
      go_wp2_with (first
        | (go_at_call 83; refine (HAsk.out).mono ?_; rintro e w' ⟨rfl, rfl⟩; rw [HR.out])
        | (go_at_call 84; refine (HAt.out).mono ?_; rintro e w' ⟨i, rfl, hi, rfl⟩; obtain rfl := atQ_none hi HFD.out; clear hi))
      go_ret
      exact QActed.same HQD.out (Ext.refl _ _) _
  · have hsk := seek_refused hr
    have e1 := sync_seek D s.data.toList (by omega)
    rw [hsk] at e1
    rw [e1]
    generalize hR : D.refuse s.data.toList = R at *
    have hne : (R != 0) = true := by rw [bne_iff_ne]; exact hr
    have HQD := Lib.hid hQD
    clear hr hR hsk e1 HAt h hQD
    go_enter Try.func99, Try.ntmps99
    go_wp2_with (go_at_call 83; refine (HAsk.out).mono ?_; rintro e w' ⟨rfl, rfl⟩)
    go_ret
    exact QActed.same HQD.out (Ext.refl _ _) _
end Go.Proofs.Ytnppneilbkmnfaa
namespace Go.Proofs.Ytnppneilbkmnfaa
open Go.RowKit

theorem qapp_new (D : Dk) (s : Nm) (b : List UInt8) (h : D.refuse s = 0) (hf : D.find s = none) (hr : D.room s b.length = true) : D.append s b = ({ befD D with fs := if befDo D then putK FileM.nm ⟨s, b, 0⟩ D.fs else D.fs }, befE D) := by
  have hs : D.size s = 0 := by unfold Dk.size; rw [hf]
  have e1 : Dk.addTo s b = fun E : Dk => { E with fs := addF s b E.fs } := funext fun E => Dk.addTo_eq E s b
  have e2 : addF s b D.fs = putK FileM.nm ⟨s, b, 0⟩ D.fs := by
    unfold addF
    have hf2 : findK FileM.nm s D.fs = none := hf
    rw [hf2]
  unfold Dk.append
  rw [if_neg (by simp [h]), if_pos (by rw [hs, Nat.zero_add]; exact hr), e1, num_bef, e2]
theorem qapp_old (D : Dk) (s : Nm) (b : List UInt8) {f : FileM} (h : D.refuse s = 0) (hf : D.find s = some f) (hr : D.room s (f.b.length + b.length) = true) : D.append s b = ({ befD D with fs := if befDo D then putK FileM.nm ⟨s, f.b ++ b, f.sy⟩ D.fs else D.fs }, befE D) := by
  have hs : D.size s = f.b.length := by unfold Dk.size; rw [hf]
  have e1 : Dk.addTo s b = fun E : Dk => { E with fs := addF s b E.fs } := funext fun E => Dk.addTo_eq E s b
  have e2 : addF s b D.fs = putK FileM.nm ⟨s, f.b ++ b, f.sy⟩ D.fs := by
    unfold addF
    have hf2 : findK FileM.nm s D.fs = some f := hf
    rw [hf2]
  unfold Dk.append
  rw [if_neg (by simp [h]), if_pos (by rw [hs]; exact hr), e1, num_bef, e2]
theorem qapp_no (D : Dk) (s : Nm) (b : List UInt8) (h : D.refuse s = 0) (hr : D.room s (D.size s + b.length) = false) : D.append s b = (D, 62) := by
  unfold Dk.append
  rw [if_neg (by simp [h]), if_neg (by simp [hr])]

set_option maxRecDepth 20000 in
set_option maxHeartbeats 2000000 in
theorem qappend_new_m (w : World) (q : Nat) (D : Dk) (G : Nat → Prop) (hQ : QDisk w q D G) (hc : D.calls ≤ 1099511627776) (hal : D.arms.length ≤ 1099511627776) (s : ByteArray) (hs : s.size ≤ maxLen) (x : Value) (b : List UInt8) (hx : Bytes w x b) (hxq : ∀ k, inFoot x k → k ≠ q) (hb : b.length ≤ 549755813888) (hfd : D.find s.data.toList = none) :
    Calls Try.prog 51 #[.pointer (some ⟨q, 0, none⟩), .string s, x] w (QActed w q G (D.append s.data.toList b)) := by
  have hQD := hQ
  obtain ⟨fv, av, fl, h, rfl⟩ := hQ
  obtain ⟨fa, fc, rfl, hf1, hf2⟩ := h.files.shape
  obtain ⟨xa, xc, rfl, hx1, hx2, -⟩ := hx.open
  unfold maxLen at hf2 hx2
  by_cases hr : D.refuse s.data.toList = 0
  · have HAsk := Lib.hid fun w' (e : Ext Nil w w') => qasked_m w' q _ av fl D (h.ext0 e) s hs
    have HAt := Lib.hid fun w' (e : Ext Nil w w') => qat_m w' q _ av fl D (h.ext0 e) s
    obtain ⟨U, hU⟩ : ∃ U, D.used = U := ⟨_, rfl⟩
    obtain ⟨Lm, hLm⟩ : ∃ Lm, D.lim = Lm := ⟨_, rfl⟩
    have hwf := h.wf
    have hul := hwf.used
    have hl1 := hwf.lim1
    have hcn := hwf.count
    have hul2 : sumF D.fs = D.used := rfl
    rw [hul2, hU, hLm] at hul
    rw [hLm] at hl1
    rw [← h.len] at hcn
    have c1 := h.cells.cell 1 rfl
    have c2 := h.cells.cell 2 rfl
    rw [hLm] at c1
    have HU := Lib.hid hU; have HR := Lib.hid hr; have H := Lib.hid h; have HX := Lib.hid hx; have HXQ := Lib.hid hxq; have HQD := Lib.hid hQD; have HWF := Lib.hid hwf
    obtain ⟨M, hM⟩ : ∃ M, M = Lm - U := ⟨_, rfl⟩
    have w1 : IntKind.i64.wrap ((Lm : Int) - (U : Int)) = (M : Int) := by rw [IntWalk.i64_in _ (by omega)]; omega
    clear hU hr h hx hxq hQD hwf
    have f4 : D.size s.data.toList = 0 := by unfold Dk.size; rw [hfd]
    have hln : D.fs.length = fl.length := H.out.len.symm
    have HFD := Lib.hid hfd
    by_cases hroom : b.length ≤ M
    · have g1 : ¬ (M : Int) < (b.length : Int) := by omega
      by_cases hct : fl.length < 65536
      · have hrm : D.room s.data.toList b.length = true := by unfold Dk.room; rw [HU.out, hLm, f4, hfd, hln]; simp; omega
        have g2 : (fl.length : Int) < 65536 := by omega
        have HROOM := Lib.hid hrm
        have HCT := Lib.hid hct
        have HA := Lib.hid (show b.length ≤ M from hroom)

        clear hrm hfd f4 hln hM hroom hLm hul2 hul g1 hct g2 hcn
        cases hdo : befDo D
        · have hdn : D.append s.data.toList b = (befD D, befE D) := by rw [qapp_new D _ b HR.out HFD.out HROOM.out, hdo]; simp only [Bool.false_eq_true, if_false]; rw [same_fs]
          have HDO := Lib.hid hdo; have HDN := Lib.hid hdn
          clear hdo hdn
          go_enter Try.func51, Try.ntmps51
          go_wp2_with (first
            | (go_at_call 83; refine (HAsk.out _ (Ext.refl _ _)).mono ?_; rintro e w' ⟨rfl, rfl⟩; rw [HR.out])
            | (go_at_call 84; refine (HAt.out _ (Ext.refl _ _)).mono ?_; rintro e w' ⟨i, rfl, hi, rfl⟩; obtain rfl := atQ_none hi HFD.out; clear hi))
          have z1 := HA.out; have z2 : ¬ M < b.length := (by omega); have z3 := HCT.out; have z4 : ¬ 65536 ≤ fl.length := (by omega); have z5 : ¬ (65536 : Int) ≤ (fl.length : Int) := (by omega); have z6 : ¬ (M : Int) < (b.length : Int) := (by omega)
          go_quiet ((go_at_call 85; exact Calls.quiet_of_same (qused_q _ q _ av fl D H.out _ HU)))
          clear z1 z2 z3 z4 z5 z6
          go_wp2_with (first
            | (go_at_call 86; refine (befall_m _ q _ av fl D (H.out.ext0 ((Ext.refl Nil w).drewN nq)) hc hal).mono ?_; rintro e w2 ⟨u2, rfl, hq2, e2, hk2⟩; rw [HDO.out]; have hx2b := (HX.out.ext ((Ext.refl Nil w).drewN nq) fun _ _ h => h).ext e2 fun k hk e => HXQ.out k hk e; have hsr := Reads.src (P := Try.prog) (hx2b.alloc (.cells #[.string s, .slice none 0 0, .int .i64 0] 132 (0, 0))) Try.underlying31 (bvs_one b); have HQ2 := Lib.hid hq2; have HE2 := Lib.hid (((Ext.refl Nil w).drewN nq).mono (G := fun i => i = q) (fun _ _ h => h.elim)  |>.same e2); have HK2 := Lib.hid hk2; clear hq2 e2 hk2 hx2b))
          go_ret
          rw [HDN.out]
          exact QActed.of (fv' := _) (av' := u2) (fl' := fl) HQ2.out HE2.out (by
            rintro k (hk | hk | hk)
            · exact .inl (.inl hk)
            · exact .inl (.inr (.inl hk))
            · exact .inr (HK2.out k hk))
        · have hdn : D.append s.data.toList b = ({ befD D with fs := putK FileM.nm ⟨s.data.toList, b, 0⟩ D.fs }, befE D) := by rw [qapp_new D _ b HR.out HFD.out HROOM.out, hdo]; rfl
          have hpw := put_wf2 HWF.out ⟨s.data.toList, b, 0⟩ (Nat.zero_le _) (refuse_nm HR.out) HROOM.out
          have HDO := Lib.hid hdo; have HDN := Lib.hid hdn; have HPW := Lib.hid hpw
          clear hdo hdn hpw
          go_enter Try.func51, Try.ntmps51
          go_wp2_with (first
            | (go_at_call 83; refine (HAsk.out _ (Ext.refl _ _)).mono ?_; rintro e w' ⟨rfl, rfl⟩; rw [HR.out])
            | (go_at_call 84; refine (HAt.out _ (Ext.refl _ _)).mono ?_; rintro e w' ⟨i, rfl, hi, rfl⟩; obtain rfl := atQ_none hi HFD.out; clear hi))
          have z1 := HA.out; have z2 : ¬ M < b.length := (by omega); have z3 := HCT.out; have z4 : ¬ 65536 ≤ fl.length := (by omega); have z5 : ¬ (65536 : Int) ≤ (fl.length : Int) := (by omega); have z6 : ¬ (M : Int) < (b.length : Int) := (by omega)
          go_quiet ((go_at_call 85; exact Calls.quiet_of_same (qused_q _ q _ av fl D H.out _ HU)))
          clear z1 z2 z3 z4 z5 z6
          go_wp2_with (first
            | (go_at_call 86; refine (befall_m _ q _ av fl D (H.out.ext0 ((Ext.refl Nil w).drewN nq)) hc hal).mono ?_; rintro e w2 ⟨u2, rfl, hq2, e2, hk2⟩; rw [HDO.out]; have hx2b := (HX.out.ext ((Ext.refl Nil w).drewN nq) fun _ _ h => h).ext e2 fun k hk e => HXQ.out k hk e; have hsr := Reads.src (P := Try.prog) (hx2b.alloc (.cells #[.string s, .slice none 0 0, .int .i64 0] 132 (0, 0))) Try.underlying31 (bvs_one b); have HQ2 := Lib.hid hq2; have HE2 := Lib.hid (((Ext.refl Nil w).drewN nq).mono (G := fun i => i = q) (fun _ _ h => h.elim)  |>.same e2); have HK2 := Lib.hid hk2; clear hq2 e2 hk2 hx2b)
            | (at_builtin; refine wpList_append_fresh hsr (by unfold Fits; omega) rfl (.tmp 74) (.tmp 75) rfl rfl rfl ?_; intro ao3 cap3 w3 g1 g2 hown hst; have pb := (At.new w2 [.string s, .slice none 0 0, .int .i64 0] 132).ext hst.1 (fun h => h); have p0 := pb.cell 0 rfl; have p1 := pb.cell 1 rfl; have p2 := pb.cell 2 rfl; have z1 := pb.frozen 1; have pl := pb.lt; have HPB := Lib.hid (pb.set 1 (.slice ao3 b.length cap3)); have hs3 := hst.1.size; have hsx : (w2.alloc (.cells #[.string s, .slice none 0 0, .int .i64 0] 132 (0, 0))).heap.size = w2.heap.size + 1 := (by simp); have HOW := Lib.hid (hown.ext (F := One w2.heap.size) ((Ext.refl (One w2.heap.size) w3).setCell (p := ⟨w2.heap.size, 1, none⟩) (fun _ => rfl) (.slice ao3 b.length cap3)) (fun k hk e => by have e : k = w2.heap.size := e; have := (hst.2 k hk).resolve_left fun h => h; omega)); have HFR := Lib.hid (fun k hk => by have h9 := (hst.2 k hk).resolve_left fun h => h; exact (show w2.heap.size < k by omega)); have HOL := Lib.hid (fun k hk => hown.lt k hk); have HEW := Lib.hid ((((Ext.refl Nil w2).alloc (.cells #[.string s, .slice none 0 0, .int .i64 0] 132 (0, 0))).same hst.1).setCell (p := ⟨w2.heap.size, 1, none⟩) (fun h => absurd h (Nat.lt_irrefl _)) (.slice ao3 b.length cap3)); clear pb hst hown hs3 hsx hsr)
            | (go_at_call 87; refine (qput_m _ q _ u2 fl (befD D) (HQ2.out.ext0 HEW.out) ⟨⟨s.data.toList, b, 0⟩, .slice ao3 b.length cap3⟩ HOW.out.bytes (fun k hk => ⟨by have := HOL.out k hk; simpa [World.setCell] using this, by have := HFR.out k hk; have := HQ2.out.cells.lt; omega, fun hu => by have := HFR.out k hk; have := HQ2.out.arms.lt k hu; omega⟩) HPW.out).mono ?_; rintro e w5 ⟨rfl, u5, fl5, hq5, e5, hk5⟩; rw [befD_put] at hq5; have HQ5 := Lib.hid hq5; have HE5 := Lib.hid e5; have HK5 := Lib.hid hk5; clear hq5 e5 hk5))
          go_ret
          rw [HDN.out]
          exact QActed.of (fv' := u5) (av' := u2) (fl' := fl5) HQ5.out (((HE2.out.trans HEW.out fun _ _ h => h.elim)).same HE5.out) (by
            have hs2 := HE2.out.size
            have hs3 := HEW.out.size
            rintro k (hk | hk | hk)
            · exact .inl (.inl hk)
            · rcases HK5.out k hk with h | h | h
              · exact .inl (.inr (.inl h))
              · have := HFR.out k h
                exact .inr (by omega)
              · exact .inr (by omega)
            · exact .inr (HK2.out k hk))
      · have hrm : D.room s.data.toList b.length = false := by unfold Dk.room; rw [hfd, hln]; simp; omega
        have g2 : (65536 : Int) ≤ (fl.length : Int) := by omega
        have HDN := Lib.hid (qapp_no D _ b HR.out (by rw [f4, Nat.zero_add]; exact hrm))
        have HA := Lib.hid (show b.length ≤ M from hroom)
        have HCT := Lib.hid hct
        clear hrm hfd f4 hln hM hroom hLm hul2 hul g1 hct g2
        go_enter Try.func51, Try.ntmps51
        go_wp2_with (first
          | (go_at_call 83; refine (HAsk.out _ (Ext.refl _ _)).mono ?_; rintro e w' ⟨rfl, rfl⟩; rw [HR.out])
          | (go_at_call 84; refine (HAt.out _ (Ext.refl _ _)).mono ?_; rintro e w' ⟨i, rfl, hi, rfl⟩; obtain rfl := atQ_none hi HFD.out; clear hi))
        have z1 := HA.out; have z2 : ¬ M < b.length := (by omega); have z3 := HCT.out; have z4 : 65536 ≤ fl.length := (by omega); have z5 : (65536 : Int) ≤ (fl.length : Int) := (by omega); have z6 : ¬ (M : Int) < (b.length : Int) := (by omega)
        go_quiet ((go_at_call 85; exact Calls.quiet_of_same (qused_q _ q _ av fl D H.out _ HU)))
        clear z1 z2 z3 z4 z5 z6
        go_wp2_with fail
        go_ret
        rw [HDN.out]
        exact QActed.same HQD.out ((Ext.refl Nil w).drewN _) _
    · have hrm : D.room s.data.toList b.length = false := by unfold Dk.room; rw [HU.out, hLm, f4]; simp; omega
      have g1 : (M : Int) < (b.length : Int) := by omega
      have HDN := Lib.hid (qapp_no D _ b HR.out (by rw [f4, Nat.zero_add]; exact hrm))
      have HA := Lib.hid (show M < b.length by omega)

      clear hrm hfd f4 hln hM hroom hLm hul2 hul g1
      go_enter Try.func51, Try.ntmps51
      go_wp2_with (first
        | (go_at_call 83; refine (HAsk.out _ (Ext.refl _ _)).mono ?_; rintro e w' ⟨rfl, rfl⟩; rw [HR.out])
        | (go_at_call 84; refine (HAt.out _ (Ext.refl _ _)).mono ?_; rintro e w' ⟨i, rfl, hi, rfl⟩; obtain rfl := atQ_none hi HFD.out; clear hi))
      have z2 : M < b.length := HA.out; have z6 : (M : Int) < (b.length : Int) := (by omega)
      go_quiet ((go_at_call 85; exact Calls.quiet_of_same (qused_q _ q _ av fl D H.out _ HU)))
      clear z2 z6
      go_wp2_with fail
      go_ret
      rw [HDN.out]
      exact QActed.same HQD.out ((Ext.refl Nil w).drewN _) _
  · have e1 : D.append s.data.toList b = (D, D.refuse s.data.toList) := by unfold Dk.append; rw [if_pos hr]
    rw [e1]
    generalize hR : D.refuse s.data.toList = R at *
    have hne : (R != 0) = true := by rw [bne_iff_ne]; exact hr
    have HR := Lib.hid hR; have HQD := Lib.hid hQD
    clear hr hR e1 hQD
    go_enter Try.func51, Try.ntmps51
    go_wp2_with (go_at_call 83; refine (qasked_m w q _ av fl D h s hs).mono ?_; rintro e w' ⟨rfl, rfl⟩; rw [HR.out])
    go_ret
    exact QActed.same HQD.out (Ext.refl _ _) _
end Go.Proofs.Ytnppneilbkmnfaa
namespace Go.Proofs.Ytnppneilbkmnfaa
open Go.RowKit

set_option maxRecDepth 20000 in
set_option maxHeartbeats 2000000 in
theorem qappend_old_m (w : World) (q : Nat) (D : Dk) (G : Nat → Prop) (hQ : QDisk w q D G) (hc : D.calls ≤ 1099511627776) (hal : D.arms.length ≤ 1099511627776) (s : ByteArray) (hs : s.size ≤ maxLen) (x : Value) (b : List UInt8) (hx : Bytes w x b) (hxq : ∀ k, inFoot x k → k ≠ q) (hb : b.length ≤ 549755813888) {f : FileM} (hfd : D.find s.data.toList = some f) :
    Calls Try.prog 51 #[.pointer (some ⟨q, 0, none⟩), .string s, x] w (QActed w q G (D.append s.data.toList b)) := by
  have hQD := hQ
  obtain ⟨fv, av, fl, h, rfl⟩ := hQ
  obtain ⟨fa, fc, rfl, hf1, hf2⟩ := h.files.shape
  obtain ⟨xa, xc, rfl, hx1, hx2, -⟩ := hx.open
  unfold maxLen at hf2 hx2
  by_cases hr : D.refuse s.data.toList = 0
  · have HAsk := Lib.hid fun w' (e : Ext Nil w w') => qasked_m w' q _ av fl D (h.ext0 e) s hs
    have HAt := Lib.hid fun w' (e : Ext Nil w w') => qat_m w' q _ av fl D (h.ext0 e) s
    obtain ⟨U, hU⟩ : ∃ U, D.used = U := ⟨_, rfl⟩
    obtain ⟨Lm, hLm⟩ : ∃ Lm, D.lim = Lm := ⟨_, rfl⟩
    have hwf := h.wf
    have hul := hwf.used
    have hl1 := hwf.lim1
    have hcn := hwf.count
    have hul2 : sumF D.fs = D.used := rfl
    rw [hul2, hU, hLm] at hul
    rw [hLm] at hl1
    rw [← h.len] at hcn
    have c1 := h.cells.cell 1 rfl
    have c2 := h.cells.cell 2 rfl
    rw [hLm] at c1
    have HU := Lib.hid hU; have HR := Lib.hid hr; have H := Lib.hid h; have HX := Lib.hid hx; have HXQ := Lib.hid hxq; have HQD := Lib.hid hQD; have HWF := Lib.hid hwf
    obtain ⟨M, hM⟩ : ∃ M, M = Lm - U := ⟨_, rfl⟩
    have w1 : IntKind.i64.wrap ((Lm : Int) - (U : Int)) = (M : Int) := by rw [IntWalk.i64_in _ (by omega)]; omega
    clear hU hr h hx hxq hQD hwf
    obtain ⟨f1, f2, f3, f4, f5⟩ := find_file HWF.out hfd
    rw [HU.out] at f3
    have hfb : f.b.length ≤ 1073741824 := by omega
    obtain ⟨k, hk⟩ : ∃ k : Nat, D.fs[k]? = some f := by
      obtain ⟨k, hk, he⟩ := List.mem_iff_getElem.1 f1
      exact ⟨k, by rw [List.getElem?_eq_getElem hk, he]⟩
    obtain ⟨y, hy, hyf⟩ := H.out.item hk
    have hkl := (List.getElem?_eq_some_iff.1 hy).1
    obtain ⟨g, c, hg, -, hcm, -⟩ := H.out.files.open (fun x _ => rfl) (by omega) (show 0 < 3 by omega)
    simp only [Value.slice.injEq, true_and] at hg
    obtain ⟨rfl, rfl⟩ := hg
    have HFD := Lib.hid hfd; have HK := Lib.hid hk; have HY := Lib.hid hy; have HYF := Lib.hid hyf; have HF5 := Lib.hid f5
    by_cases hroom : b.length ≤ M
    · have hrm : D.room s.data.toList (f.b.length + b.length) = true := by unfold Dk.room; rw [HU.out, hLm, f4, hfd]; simp; omega
      have HROOM := Lib.hid hrm
      have HA := Lib.hid hroom
      clear hrm hfd hk hy hyf f1 f2 f3 f4 f5 hM hroom hLm hul2 hul
      cases hdo : befDo D
      · have hdn : D.append s.data.toList b = (befD D, befE D) := by rw [qapp_old D _ b HR.out HFD.out HROOM.out, hdo]; simp only [Bool.false_eq_true, if_false]; rw [same_fs]
        have HDO := Lib.hid hdo; have HDN := Lib.hid hdn
        clear hdo hdn
        go_enter Try.func51, Try.ntmps51
        go_wp2_with (first
          | (go_at_call 83; refine (HAsk.out _ (Ext.refl _ _)).mono ?_; rintro e w' ⟨rfl, rfl⟩; rw [HR.out])
          | (go_at_call 84; refine (HAt.out _ (Ext.refl _ _)).mono ?_; rintro e w' ⟨i, rfl, hi, rfl⟩; obtain rfl := atQ_uniq HWF.out hi HFD.out HK.out; clear hi))
        have z1 := HA.out; have z2 : ¬ M < b.length := (by omega); have z6 : ¬ (M : Int) < (b.length : Int) := (by omega); have z7 : ¬ (k : Int) < 0 := (by omega)
        go_quiet ((go_at_call 85; exact Calls.quiet_of_same (qused_q _ q _ av fl D H.out _ HU)))
        clear z1 z2 z6 z7
        go_wp2_with (first
          | (go_at_call 86; refine (befall_m _ q _ av fl D (H.out.ext0 ((Ext.refl Nil w).drewN nq)) hc hal).mono ?_; rintro e w2 ⟨u2, rfl, hq2, e2, hk2⟩; rw [HDO.out]; have HQ2 := Lib.hid hq2; have HE2 := Lib.hid (((Ext.refl Nil w).drewN nq).mono (G := fun i => i = q) (fun _ _ h => h.elim)  |>.same e2); have HK2 := Lib.hid hk2; clear hq2 e2 hk2))
        go_ret
        rw [HDN.out]
        exact QActed.of (fv' := _) (av' := u2) (fl' := fl) HQ2.out HE2.out (by
          rintro k (hk | hk | hk)
          · exact .inl (.inl hk)
          · exact .inl (.inr (.inl hk))
          · exact .inr (HK2.out k hk))
      · have hdn : D.append s.data.toList b = ({ befD D with fs := putK FileM.nm ⟨s.data.toList, f.b ++ b, f.sy⟩ D.fs }, befE D) := by rw [qapp_old D _ b HR.out HFD.out HROOM.out, hdo]; rfl
        have hpw := put_wf2 HWF.out ⟨s.data.toList, f.b ++ b, f.sy⟩ (by have := HF5.out; simp only [List.length_append]; omega) (refuse_nm HR.out) (by simp only [List.length_append]; exact HROOM.out)
        have HDO := Lib.hid hdo; have HDN := Lib.hid hdn; have HPW := Lib.hid hpw
        clear hdo hdn hpw
        go_enter Try.func51, Try.ntmps51
        go_wp2_with (first
          | (go_at_call 83; refine (HAsk.out _ (Ext.refl _ _)).mono ?_; rintro e w' ⟨rfl, rfl⟩; rw [HR.out])
          | (go_at_call 84; refine (HAt.out _ (Ext.refl _ _)).mono ?_; rintro e w' ⟨i, rfl, hi, rfl⟩; obtain rfl := atQ_uniq HWF.out hi HFD.out HK.out; clear hi))
        have z1 := HA.out; have z2 : ¬ M < b.length := (by omega); have z6 : ¬ (M : Int) < (b.length : Int) := (by omega); have z7 : ¬ (k : Int) < 0 := (by omega)
        go_quiet ((go_at_call 85; exact Calls.quiet_of_same (qused_q _ q _ av fl D H.out _ HU)))
        clear z1 z2 z6 z7
        go_wp2_with (first
          | (go_at_call 86; refine (befall_m _ q _ av fl D (H.out.ext0 ((Ext.refl Nil w).drewN nq)) hc hal).mono ?_; rintro e w2 ⟨u2, rfl, hq2, e2, hk2⟩; rw [HDO.out]; have HX2 := Lib.hid ((HX.out.ext ((Ext.refl Nil w).drewN nq) fun _ _ h => h).ext e2 fun k hk e => HXQ.out k hk e); have d2 := hq2.cells.cell 2 rfl; have hq2l := hq2.cells.lt; obtain ⟨by_, cy, hyv, Y0, d1, d3, hg2l, hyB, hyc, hym⟩ := hq2.files.cellQ HY.out; rw [HYF.out] at d1 d3 hyc hyB; have HB2 := Lib.hid hyB; clear Y0 hyv hyB; have HQ2 := Lib.hid hq2; have HE2 := Lib.hid (((Ext.refl Nil w).drewN nq).mono (G := fun i => i = q) (fun _ _ h => h.elim)  |>.same e2); have HK2 := Lib.hid hk2; clear hq2 e2 hk2))
        have eX : Ext Nil w2 (w2.alloc (.cells #[.string s, .slice none 0 0, .int .i64 (f.sy : Int)] 132 (0, 0))) := (Ext.refl _ _).alloc _
        have pb := At.new w2 [.string s, .slice none 0 0, .int .i64 (f.sy : Int)] 132
        have sX : (w2.alloc (.cells #[.string s, .slice none 0 0, .int .i64 (f.sy : Int)] 132 (0, 0))).heap.size = w2.heap.size + 1 := by simp
        have HEX := Lib.hid eX; have HPB := Lib.hid pb; have HSX := Lib.hid sX
        have d2x := eX.cell d2 fun h => h
        have d1x := eX.cell d1 fun h => h
        have p1 := pb.cell 1 rfl
        have hbX := HB2.out.ext eX fun _ _ h => h
        clear eX pb sX d2 d1 d3
        generalize w2.alloc (.cells #[.string s, .slice none 0 0, .int .i64 (f.sy : Int)] 132 (0, 0)) = X at *
        obtain ⟨ao3, cap3, w3, hrun, q1, q2, O3, S3⟩ := run_appendB (w := X.drew) (v := .slice none 0 0) (l := []) (Own.nil _ _ _) (hbX.ext (F := Nil) (Ext.refl Nil X).drew fun _ _ h => h) (by unfold Fits; simp; omega) 31
        simp only [List.length_nil, Nat.zero_add, List.nil_append] at hrun O3 S3 q1
        have S3 : Step Nil X (inFoot (.slice ao3 f.b.length cap3)) w3 := ⟨((Ext.refl Nil X).drew).same (S3.1.mono fun i _ h => by simp [inFoot, foot] at h), fun i hi => (S3.2 i hi).imp (fun h => by simp [inFoot, foot] at h) id⟩
        have pb3 := HPB.out.ext S3.1 fun h => h
        have y1 := pb3.cell 1 rfl
        have z1 := pb3.frozen 1
        have d2y := S3.1.cell d2x fun h => h
        have d1y := S3.1.cell d1x fun h => h
        have n1 : (⟨w2.heap.size, 1, none⟩ : Addr) ≠ ⟨q, 2, none⟩ := by intro e; simp only [Addr.mk.injEq] at e; omega
        have n2 : (⟨w2.heap.size, 1, none⟩ : Addr) ≠ ⟨g, k * 3 + 1, none⟩ := by intro e; simp only [Addr.mk.injEq] at e; omega
        have HY2 := Lib.hid (And.intro d2y d1y)
        have HPZ := Lib.hid (pb3.set 1 (.slice ao3 f.b.length cap3))
        have HFR := Lib.hid (fun i (hi : inFoot (.slice ao3 f.b.length cap3) i) => by have h9 := (S3.2 i hi).resolve_left fun h => h; rw [HSX.out] at h9; exact (show w2.heap.size < i by omega))
        have HOW := Lib.hid (O3.ext (F := One w2.heap.size) ((Ext.refl (One w2.heap.size) w3).setCell (p := ⟨w2.heap.size, 1, none⟩) (fun _ => rfl) (.slice ao3 f.b.length cap3)) fun i hi e => by have e : i = w2.heap.size := e; have := HFR.out i hi; omega)
        have HEW := Lib.hid ((HEX.out.same S3.1).setCell (p := ⟨w2.heap.size, 1, none⟩) (fun h => absurd h (Nat.lt_irrefl _)) (.slice ao3 f.b.length cap3))
        clear hbX O3 S3 pb3 d2y d1y
        refine wp_region_held_drew (S := fun w' => w'.cell? ⟨q, 2, none⟩ = some (.slice (some ⟨g, 0, none⟩) fl.length (c + 1)) ∧ w'.cell? ⟨g, k * 3 + 1, none⟩ = some (.slice by_ f.b.length cy)) (by kernel_rfl) ⟨d2x, d1x⟩ (fun hHeld => ?_)
        refine wpAnyH_take (i := 0) (v := .pointer (some ⟨w2.heap.size, 1, none⟩)) rfl (by kernel_rfl) (by kernel_rfl) (by kernel_rfl) (fun _ _ _ h => h) (Or.inl ⟨by rfl, ?y1⟩) (by assumption) ?r1
        case y1 => (intro w hSw; obtain ⟨s1, s2⟩ := hSw; go_simp)
        simp only [Act.put]
        refine wpAnyH_take (i := 2) (v := .pointer (some ⟨q, 0, none⟩)) rfl (by kernel_rfl) (by kernel_rfl) (by kernel_rfl) (fun _ _ _ h => h) (Or.inl ⟨by rfl, ?y2⟩) (by assumption) ?r2
        case y2 => (intro w hSw; obtain ⟨s1, s2⟩ := hSw; go_simp)
        simp only [Act.put]
        refine wpAnyH_take (i := 3) (v := .pointer (some ⟨q, 0, none⟩)) rfl (by kernel_rfl) (by kernel_rfl) (by kernel_rfl) (fun _ _ _ h => h) (Or.inl ⟨by rfl, ?y3⟩) (by assumption) ?r3
        case y3 => (intro w hSw; obtain ⟨s1, s2⟩ := hSw; go_simp)
        simp only [Act.put]
        refine wpAnyH_take (i := 4) (v := .pointer (some ⟨q, 2, none⟩)) rfl (by kernel_rfl) (by kernel_rfl) (by kernel_rfl) (fun _ _ _ h => h) (Or.inl ⟨by rfl, ?y4⟩) (by assumption) ?r4
        case y4 => (intro w hSw; obtain ⟨s1, s2⟩ := hSw; go_simp)
        simp only [Act.put]
        refine wpAnyH_take (i := 5) (v := .slice (some ⟨g, 0, none⟩) fl.length (c + 1)) rfl (by kernel_rfl) (by kernel_rfl) (by kernel_rfl) (fun _ _ _ h => h) (Or.inl ⟨by rfl, ?y5⟩) (by assumption) ?r5
        case y5 => (intro w hSw; obtain ⟨s1, s2⟩ := hSw; go_simp)
        simp only [Act.put]
        refine wpAnyH_take (i := 6) (v := .int .i64 (k : Int)) rfl (by kernel_rfl) (by kernel_rfl) (by kernel_rfl) (fun _ _ _ h => h) (Or.inl ⟨by rfl, ?y6⟩) (by assumption) ?r6
        case y6 => (intro w hSw; obtain ⟨s1, s2⟩ := hSw; go_simp)
        simp only [Act.put]
        refine wpAnyH_take (i := 7) (v := .pointer (some ⟨g, k * 3, none⟩)) rfl (by kernel_rfl) (by kernel_rfl) (by kernel_rfl) (fun _ _ _ h => h) (Or.inl ⟨by rfl, ?y7⟩) (by assumption) ?r7
        case y7 => (intro w hSw; obtain ⟨s1, s2⟩ := hSw; go_simp)
        simp only [Act.put]
        refine wpAnyH_take (i := 8) (v := .pointer (some ⟨g, k * 3 + 1, none⟩)) rfl (by kernel_rfl) (by kernel_rfl) (by kernel_rfl) (fun _ _ _ h => h) (Or.inl ⟨by rfl, ?y8⟩) (by assumption) ?r8
        case y8 => (intro w hSw; obtain ⟨s1, s2⟩ := hSw; go_simp)
        simp only [Act.put]
        refine wpAnyH_take (i := 9) (v := .slice by_ f.b.length cy) rfl (by kernel_rfl) (by kernel_rfl) (by kernel_rfl) (fun _ _ _ h => h) (Or.inl ⟨by rfl, ?y9⟩) (by assumption) ?r9
        case y9 => (intro w hSw; obtain ⟨s1, s2⟩ := hSw; go_simp)
        simp only [Act.put]
        refine wpAnyH_ready (rs := [1]) (by kernel_rfl) (by simp) (AllReadyH.cons rfl (fun K hK => ?_) AllReadyH.nil)
        go_simp
        refine hK.out _ _ ⟨d2x, d1x⟩ (fun hHeld => ?_)
        clear hK K
        refine wpAnyH_ready (rs := [10]) (by kernel_rfl) (by simp) (AllReadyH.cons rfl (fun K hK => ?_) AllReadyH.nil)
        refine step_append_run rfl _ _ _ _ rfl _ _ _ rfl rfl hrun ?_
        refine hK.out _ _ HY2.out (fun hHeld => ?_)
        clear hK K
        simp only [Act.put]
        refine wpAnyH_take (i := 11) (v := .pointer (some ⟨w2.heap.size, 1, none⟩)) rfl (by kernel_rfl) (by kernel_rfl) (by kernel_rfl) (fun _ _ _ h => h) (Or.inl ⟨by rfl, ?y10⟩) (by assumption) ?r10
        case y10 => (intro w hSw; obtain ⟨s1, s2⟩ := hSw; go_simp)
        simp only [Act.put]
        refine wpAnyH_ready (rs := [12]) (by kernel_rfl) (by simp) (AllReadyH.cons rfl (fun K hK => ?_) AllReadyH.nil)
        go_simp
        refine hK.out _ _ ⟨(World.cell?_setCell_other _ _ _ _ n1).trans HY2.out.1, (World.cell?_setCell_other _ _ _ _ n2).trans HY2.out.2⟩ (fun hHeld => ?_)
        clear hK K
        refine wpAnyH_done (by kernel_rfl) ?_ _
        clear d2x d1x p1 y1 z1 hrun n1 n2
        have r1 := HPZ.out.cell 1 rfl
        have hyl := HPZ.out.lt
        obtain ⟨ao4, cap4, w4, hrun4, q3, q4, O4, S4⟩ := run_appendB HOW.out (HX2.out.ext HEW.out fun _ _ h => h) (by unfold Fits; omega) 31
        have pb4 := HPZ.out.ext S4.1 fun hi => Nat.lt_irrefl _ (HFR.out _ hi)
        have t0 := pb4.cell 0 rfl
        have t1 := pb4.cell 1 rfl
        have t2 := pb4.cell 2 rfl
        have t9 := pb4.frozen 1
        have HFR4 := Lib.hid (fun i (hi : inFoot (.slice ao4 (f.b.length + b.length) cap4) i) => show w2.heap.size < i from (S4.2 i hi).elim (fun h => HFR.out i h) fun h => by omega)
        have HOL4 := Lib.hid (fun i (hi : inFoot (.slice ao4 (f.b.length + b.length) cap4) i) => O4.lt i hi)
        have HOW4 := Lib.hid (O4.ext (F := One w2.heap.size) ((Ext.refl (One w2.heap.size) w4).setCell (p := ⟨w2.heap.size, 1, none⟩) (fun _ => rfl) (.slice ao4 (f.b.length + b.length) cap4)) fun i hi e => by have e : i = w2.heap.size := e; have := HFR4.out i hi; omega)
        have HEW4 := Lib.hid ((HEW.out.trans S4.1 fun i hi h => absurd (HFR.out i h) (by omega)).setCell (p := ⟨w2.heap.size, 1, none⟩) (fun h => absurd h (Nat.lt_irrefl _)) (.slice ao4 (f.b.length + b.length) cap4))
        clear pb4 O4 S4 hyl
        go_wp2_with (first
          | (at_builtin; refine wpList_append_run rfl (.tmp 74) (.tmp 75) 31 31 rfl _ _ _ rfl rfl hrun4 ?_)
          | (go_at_call 87; refine (qput_m _ q _ u2 fl (befD D) (HQ2.out.ext0 HEW4.out) ⟨⟨s.data.toList, f.b ++ b, f.sy⟩, .slice ao4 (f.b.length + b.length) cap4⟩ HOW4.out.bytes (fun i hi => ⟨by have := HOL4.out i hi; simpa [World.setCell] using this, by have := HFR4.out i hi; omega, fun hu => by have := HFR4.out i hi; have := HQ2.out.arms.lt i hu; omega⟩) HPW.out).mono ?_; rintro e w5 ⟨rfl, u5, fl5, hq5, e5, hk5⟩; rw [befD_put] at hq5; have HQ5 := Lib.hid hq5; have HE5 := Lib.hid e5; have HK5 := Lib.hid hk5; clear hq5 e5 hk5))
        go_ret
        rw [HDN.out]
        exact QActed.of (fv' := u5) (av' := u2) (fl' := fl5) HQ5.out (((HE2.out.trans HEW4.out fun _ _ h => h.elim)).same HE5.out) (by
          have hs2 := HE2.out.size
          have hs3 := HEW4.out.size
          rintro i (hi | hi | hi)
          · exact .inl (.inl hi)
          · rcases HK5.out i hi with h | h | h
            · exact .inl (.inr (.inl h))
            · have := HFR4.out i h
              exact .inr (by omega)
            · exact .inr (by omega)
          · exact .inr (HK2.out i hi))
    · have hrm : D.room s.data.toList (D.size s.data.toList + b.length) = false := by unfold Dk.room; rw [HU.out, hLm, f4, hfd]; simp; omega
      have HDN := Lib.hid (qapp_no D _ b HR.out hrm)
      have HA := Lib.hid (show M < b.length by omega)
      clear hrm hfd hk hy hyf f1 f2 f3 f4 f5 hM hroom hLm hul2 hul
      go_enter Try.func51, Try.ntmps51
      go_wp2_with (first
        | (go_at_call 83; refine (HAsk.out _ (Ext.refl _ _)).mono ?_; rintro e w' ⟨rfl, rfl⟩; rw [HR.out])
        | (go_at_call 84; refine (HAt.out _ (Ext.refl _ _)).mono ?_; rintro e w' ⟨i, rfl, hi, rfl⟩; obtain rfl := atQ_uniq HWF.out hi HFD.out HK.out; clear hi))
      have z2 : M < b.length := HA.out; have z6 : (M : Int) < (b.length : Int) := (by omega); have z7 : ¬ (k : Int) < 0 := (by omega)
      go_quiet ((go_at_call 85; exact Calls.quiet_of_same (qused_q _ q _ av fl D H.out _ HU)))
      clear z2 z6 z7
      go_wp2_with fail
      go_ret
      rw [HDN.out]
      exact QActed.same HQD.out ((Ext.refl Nil w).drewN _) _
  · have e1 : D.append s.data.toList b = (D, D.refuse s.data.toList) := by unfold Dk.append; rw [if_pos hr]
    rw [e1]
    generalize hR : D.refuse s.data.toList = R at *
    have hne : (R != 0) = true := by rw [bne_iff_ne]; exact hr
    have HR := Lib.hid hR; have HQD := Lib.hid hQD
    clear hr hR e1 hQD
    go_enter Try.func51, Try.ntmps51
    go_wp2_with (go_at_call 83; refine (qasked_m w q _ av fl D h s hs).mono ?_; rintro e w' ⟨rfl, rfl⟩; rw [HR.out])
    go_ret
    exact QActed.same HQD.out (Ext.refl _ _) _

theorem qappend_m (w : World) (q : Nat) (D : Dk) (G : Nat → Prop) (hQ : QDisk w q D G) (hc : D.calls ≤ 1099511627776) (hal : D.arms.length ≤ 1099511627776) (s : ByteArray) (hs : s.size ≤ maxLen) (x : Value) (b : List UInt8) (hx : Bytes w x b) (hxq : ∀ k, inFoot x k → k ≠ q) (hb : b.length ≤ 549755813888) :
    Calls Try.prog 51 #[.pointer (some ⟨q, 0, none⟩), .string s, x] w (QActed w q G (D.append s.data.toList b)) := by
  cases hfd : D.find s.data.toList with
  | none => exact qappend_new_m w q D G hQ hc hal s hs x b hx hxq hb hfd
  | some f => exact qappend_old_m w q D G hQ hc hal s hs x b hx hxq hb hfd
end Go.Proofs.Ytnppneilbkmnfaa
namespace Go.Proofs.Ytnppneilbkmnfaa
open Go.RowKit

theorem qcrash_out_m (w : World) (q : Nat) (D : Dk) (G : Nat → Prop) (hQ : QDisk w q D G) (kv : Value) (junk : Int) (ho : D.out = true) :
    Calls Try.prog 44 #[.pointer (some ⟨q, 0, none⟩), kv, .int .u8 junk] w fun e w' => e = .returned (.tuple #[.agg #[.slice none 0 0], .int .i64 63]) ∧ Ext Nil w w' := by
  obtain ⟨fv, av, fl, h, rfl⟩ := hQ
  have eW : Ext Nil w (w.alloc (.cells #[.slice none 0 0] 36 (0, 0))) := (Ext.refl _ _).alloc _
  have hW := h.ext0 eW
  have c5 := hW.cells.cell 5 rfl
  rw [ho] at c5
  go_enter Try.func44, Try.ntmps44
  go_wp2_with (go_at_call 74; refine (good_m _ q fv av fl D hW).mono ?_; rintro e w' ⟨rfl, rfl⟩)
  refine bodyPost_ret (results_image rfl _ (b := w.heap.size) (v := .slice none 0 0) rfl (At.new w [.slice none 0 0] 36 |>.cell 0 rfl) (agg_image _) (size_image _)) rfl ?_
  exact ⟨rfl, (Ext.refl _ _).alloc _⟩
/-- the document's disk as Crash leaves it -/
theorem QAt.shut {w : World} {q : Nat} {fv av : Value} {fl : List TI} {D : Dk} (h : QAt w q fv av fl D) :
    QAt ((w.setCell ⟨q, 4, none⟩ (.bool true)).setCell ⟨q, 5, none⟩ (.bool true)) q fv av fl D.shut ∧ Ext (One q) w ((w.setCell ⟨q, 4, none⟩ (.bool true)).setCell ⟨q, 5, none⟩ (.bool true)) := by
  have e : Ext (One q) w ((w.setCell ⟨q, 4, none⟩ (.bool true)).setCell ⟨q, 5, none⟩ (.bool true)) := ((Ext.refl (One q) w).setCell (p := ⟨q, 4, none⟩) (fun _ => rfl) _).setCell (p := ⟨q, 5, none⟩) (fun _ => rfl) _
  exact ⟨⟨(h.cells.set 4 (.bool true)).set 5 (.bool true), h.files.extF e fun k hk e => h.apq k hk e, h.same, h.arms.extA e fun k hk e => (h.apa k hk).1 e, h.apq, h.apa, Dk.shut_wf h.wf⟩, e⟩
theorem QDisk.shut {w : World} {q : Nat} {D : Dk} {G : Nat → Prop} (h : QDisk w q D G) : QDisk ((w.setCell ⟨q, 4, none⟩ (.bool true)).setCell ⟨q, 5, none⟩ (.bool true)) q D.shut G := by
  obtain ⟨fv, av, fl, h, rfl⟩ := h
  exact ⟨fv, av, fl, h.shut.1, rfl⟩
end Go.Proofs.Ytnppneilbkmnfaa
namespace Go.Proofs.Ytnppneilbkmnfaa
open Go.RowKit

theorem sameNames_m (w : World) (va vb : Value) (L : List Nm) (ha : Own w 9 1 va L.length (namesV L)) (hb : Own w 9 1 vb L.length (namesV L)) :
    Calls Try.prog 39 #[va, vb] w fun e w' => e = .returned (.bool true) ∧ Ext Nil w w' := by
  obtain ⟨aa, ca, rfl, ha1, ha2⟩ := Own.shape ha
  obtain ⟨ab, cb, rfl, hb1, hb2⟩ := Own.shape hb
  unfold maxLen at ha2 hb2
  have HA := Lib.hid ha; have HB := Lib.hid hb
  clear ha hb
  go_enter Try.func39, Try.ntmps39
  go_wp2_with fail
  go_loopw [5] (fun i wr => ∃ k : Nat, k ≤ L.length ∧ i = .int .i64 k ∧ (∃ n, wr = w.drewN n)) (fun i _ => L.length - (intOf i).toNat)
  case atStart => exact ⟨0, Nat.zero_le _, rfl, ⟨0, rfl⟩⟩
  case round =>
    obtain ⟨k, hk, rfl, ⟨n, rfl⟩⟩ := hrel
    by_cases hlt : k < L.length
    · obtain ⟨ga, c1, rfl, rfl, -, -, hca⟩ := names_at HA.out (by omega)
      obtain ⟨gb, c2, rfl, rfl, -, -, hcb⟩ := names_at HB.out (by omega)
      have a1 := hca k hlt
      have b1 := hcb k hlt
      clear hca hcb
      generalize L[k] = s at *
      have hne : (s == s) = true := by simp
      go_wp2_with fail
      go_quiet (fail)
      go_wp2_with fail
      exact ⟨⟨k + 1, by omega, by go_num, ⟨_, rfl⟩⟩, by simp [intOf]; omega⟩
    · obtain rfl : k = L.length := by omega
      go_wp2_with fail
      go_ret
      exact ⟨rfl, (Ext.refl Nil w).drewN _⟩
end Go.Proofs.Ytnppneilbkmnfaa
namespace Go.Proofs.Ytnppneilbkmnfaa
open Go.RowKit

theorem left6_m (w : World) (g cap : Nat) (x : Value) (ys : List UInt8) (hl : OwnB w (.slice (some ⟨g, 0, none⟩) (ys.length + 3) cap) (ys ++ [201, 202, 203])) (hx : Bytes w x ys) (hfit : Fits (ys.length + 3)) :
    Calls Try.prog 98 #[.slice (some ⟨g, 0, none⟩) (ys.length + 3) cap, x] w fun e w' => e = .returned (.bool true) ∧ Ext Nil w w' := by
  have hfit' : ys.length + 3 ≤ 1099511627776 := hfit
  obtain ⟨ao, capx, rfl, hcapx, hmaxx, hc⟩ := hx.open
  obtain ⟨g', c, cs, hao, hcap, hn, hA, h1, h2, h3⟩ := hl.head (by simp)
  have hcm : cap ≤ maxLen := by
    obtain ⟨_, _, e, _, h⟩ := Own.shape hl
    simp only [Value.slice.injEq] at e
    omega
  have hle : ys.length + 3 ≤ cap := by simp at hn; omega
  have hB : Bytes w (.slice (some ⟨g, 0, none⟩) ys.length cap) ys := by
    refine ⟨by simp [bvs], _, cap, rfl, by omega, hcm, fun _ => ⟨g, 0, rfl, fun j u hj => ?_⟩⟩
    have hj' : j < ys.length := by
      have := (List.getElem?_eq_some_iff.1 hj).1
      simpa [bvs] using this
    have h4 := (hl.at j (by simp; omega)).1
    rw [Nat.zero_add, h4, ← hj]
    simp [bvs, bv, hj', List.getElem_append_left hj']
  have a0 := (hl.at ys.length (by simp)).1
  have a1 := (hl.at (ys.length + 1) (by simp)).1
  have a2 := (hl.at (ys.length + 2) (by simp)).1
  simp at a0 a1 a2
  have s1 := fun n => to_str (w.drewN n) _ _ (hB.drewN n)
  have s2 := fun n => to_str (w.drewN n) _ _ (hx.drewN n)
  have hbb : (ys == ys) = true := by simp
  have w3 : IntKind.i64.wrap ((ys.length : Int) + 3) = ((ys.length + 3 : Nat) : Int) := by rw [IntWalk.i64_in _ (by omega)]; omega
  have w1 : IntKind.i64.wrap ((ys.length : Int) + 1) = ((ys.length + 1 : Nat) : Int) := by rw [IntWalk.i64_in _ (by omega)]; omega
  have w2 : IntKind.i64.wrap ((ys.length : Int) + 2) = ((ys.length + 2 : Nat) : Int) := by rw [IntWalk.i64_in _ (by omega)]; omega
  clear hA h1 h2 h3 hc hn hcap hao hl hx hB
  generalize ys.length = n at *
  go_enter Try.func98, Try.ntmps98
  go_wp2_with fail
  go_quiet (fail)
  go_wp2_with fail
  go_ret
  exact ⟨rfl, (Ext.refl Nil w).drewN _⟩
end Go.Proofs.Ytnppneilbkmnfaa
namespace Go.Proofs.Ytnppneilbkmnfaa
open Go.RowKit

theorem spoil_m (w : World) (g cap : Nat) (l : List UInt8) (hl : OwnB w (.slice (some ⟨g, 0, none⟩) l.length cap) l) (hne : l ≠ []) (hfit : Fits l.length) :
    Calls Try.prog 54 #[.slice (some ⟨g, 0, none⟩) l.length cap] w fun e w' => e = .returned (.tuple #[]) ∧ (∃ l', l'.length = l.length ∧ OwnB w' (.slice (some ⟨g, 0, none⟩) l.length cap) l') ∧ Ext (One g) w w' := by
  have hfit' : l.length ≤ 1099511627776 := hfit
  have hgl := hl.lt g (by obtain ⟨g', c, cs, hao, hcap, -⟩ := hl.head hne; subst hcap; rfl)
  have hL : ∀ l' : List UInt8, l'.length = l.length → l' ≠ [] := fun l' h e => hne (List.length_eq_zero_iff.1 (by rw [← h, e]; rfl))
  have HL := Lib.hid hl
  clear hl
  go_enter Try.func54, Try.ntmps54
  go_wp2_with fail
  go_loopw [2] (fun i wr => ∃ (k : Nat) (l' : List UInt8), k ≤ l.length ∧ i = .int .i64 k ∧ l'.length = l.length ∧ OwnB wr (.slice (some ⟨g, 0, none⟩) l.length cap) l' ∧ Ext (One g) w wr) (fun i _ => l.length - (intOf i).toNat)
  case atStart => exact ⟨0, l, Nat.zero_le _, rfl, rfl, HL.out, Ext.refl _ _⟩
  case round =>
    obtain ⟨k, l', hk, rfl, hlen, hown, hS⟩ := hrel
    by_cases hlt : k < l.length
    · have hkl : k < l'.length := by omega
      have hat := hown.at k hkl
      obtain ⟨t0, t1⟩ := hat
      have hx : bits .xor .u8 ((l'[k].toNat : Nat) : Int) 90 = ((l'[k] ^^^ 90).toNat : Int) := xor_u8 l'[k] 90
      have HO := Lib.hid (hown.store k hkl (l'[k] ^^^ 90)); have HS := Lib.hid hS; have HN := Lib.hid hlen
      clear hown hS hlen
      go_wp2_with fail
      refine ⟨⟨k + 1, l'.set k (l'[k] ^^^ 90), by omega, by go_num, by rw [List.length_set]; exact HN.out, HO.out, HS.out.setCell (p := ⟨g, k, none⟩) (fun _ => rfl) _⟩, by simp [intOf]; omega⟩
    · obtain rfl : k = l.length := by omega
      go_wp2_with fail
      go_end0
      exact ⟨rfl, ⟨l', hlen, hown⟩, hS⟩
end Go.Proofs.Ytnppneilbkmnfaa
namespace Go.Proofs.Ytnppneilbkmnfaa
open Go.RowKit

theorem info_byte8 : (Try.prog.info? 5).map (fun i => (i.zero, i.size, i.bytes)) = some (some (.int .u8 0), 1, 1) := by kernel_rfl
theorem make_room (w : World) (M : Nat) (hM : M + 1 ≤ 1099511627776) : ∃ W1, (Instr.makeSlice 31 (.int .i64 0) (.int .i64 ((M + 1 : Nat) : Int))).run Try.prog w = .ok (.slice (some ⟨w.heap.size, 0, none⟩) 0 (M + 1)) W1 ∧
    OwnB W1 (.slice (some ⟨w.heap.size, 0, none⟩) 0 (M + 1)) [] ∧ Step Nil w (inFoot (.slice (some ⟨w.heap.size, 0, none⟩) 0 (M + 1))) W1 := by
  obtain ⟨i, hi, hz, h1, h2⟩ := info_parts info_byte8
  have hr := run_make (P := Try.prog) w 31 5 i (.int .u8 0) Try.underlying31 hi hz .i64 .i64 0 ((M + 1 : Nat) : Int) (Int.le_refl _) (by omega) (by rw [h2]; omega) (by omega)
  simp only [Int.toNat_zero, Int.toNat_natCast] at hr
  refine ⟨_, hr, ?_, ?_⟩
  · refine ⟨rfl, .inr ⟨w.heap.size, M, (madeCells (Value.cells (.int .u8 0)) ((M + 1) * i.size)).toList, rfl, ?_, Nat.zero_le _, by unfold maxLen; omega, ?_, rfl⟩⟩
    · have := At.new w (madeCells (Value.cells (.int .u8 0)) ((M + 1) * i.size)).toList 5
      simpa using this
    · rw [Array.length_toList, size_madeCells, h1]
  · exact ⟨(Ext.refl _ _).alloc _, fun k hk => .inr (by have hk : some w.heap.size = some k := hk; simp only [Option.some.injEq] at hk; omega)⟩

set_option maxRecDepth 20000 in
theorem room_m (w : World) (x : Value) (ys : List UInt8) (hx : Bytes w x ys) (hfit : Fits (ys.length + 3)) :
    Calls Try.prog 50 #[x] w fun e w' => ∃ g cap, ys.length + 3 ≤ cap ∧ cap ≤ maxLen ∧ e = .returned (.slice (some ⟨g, 0, none⟩) (ys.length + 3) cap) ∧
      OwnB w' (.slice (some ⟨g, 0, none⟩) (ys.length + 3) cap) (ys ++ [201, 202, 203]) ∧ Step Nil w (One g) w' := by
  have hfit' : ys.length + 3 ≤ 1099511627776 := hfit
  obtain ⟨ao, cap, rfl, hcap, hmax, hc⟩ := hx.open
  have w3 : IntKind.i64.wrap ((ys.length : Int) + 3) = ((ys.length + 2 + 1 : Nat) : Int) := by rw [IntWalk.i64_in _ (by omega)]; omega
  obtain ⟨W1, hmk, hO1, hS1⟩ := make_room w (ys.length + 2) (by omega)
  obtain ⟨ao2, cap2, w2, hrun2, p1, p2, O2, S2⟩ := run_appendB hO1 (hx.ext hS1.1 fun _ _ h => h) (by unfold Fits at *; simp; omega) 31
  simp only [List.length_nil, Nat.zero_add, List.nil_append] at hrun2 p1 O2 S2
  obtain ⟨ao3, cap3, w4, hrun3, p3, p4, O3, S3⟩ := run_appendB (OwnB.alloc O2 _) (Bytes.lit w2 [201, 202, 203] 5 (by simp [maxLen])) (by unfold Fits at *; simp; omega) 31
  simp only [List.length_cons, List.length_nil, Nat.zero_add] at hrun3 p3 O3 S3
  obtain ⟨g, c, cs, hao, hcc, -⟩ := O3.head (by simp)
  subst hao hcc
  have HR : Hid (∃ g' cap', ys.length + 3 ≤ cap' ∧ cap' ≤ maxLen ∧ Ending.returned (.slice (some ⟨g, 0, none⟩) (ys.length + 3) (c + 1)) = .returned (.slice (some ⟨g', 0, none⟩) (ys.length + 3) cap') ∧ OwnB w4 (.slice (some ⟨g', 0, none⟩) (ys.length + 3) cap') (ys ++ [201, 202, 203]) ∧ Step Nil w (One g') w4) := Lib.hid (by
    have h := (hS1.trans S2).trans ((step_alloc _ _ _).trans S3)
    exact ⟨g, c + 1, p3, p4, rfl, O3, h.1, fun k hk => h.2 k (by
      have hk : k = g := hk
      subst hk
      rfl)⟩)
  clear hx hc hcap O2 S2 O3 S3 hO1 hS1 hfit p1 p3
  generalize ys.length + 2 + 1 = N at *
  go_enter Try.func50, Try.ntmps50
  go_wp2_with (first
    | (at_builtin; refine wpList_append_run rfl (.tmp 8) (.tmp 9) 31 31 rfl _ _ _ rfl rfl hrun2 ?_)
    | (at_builtin; refine wpList_append_run rfl (.tmp 11) (.tmp 12) 31 31 rfl _ _ _ rfl rfl hrun3 ?_))
  go_ret
  exact HR.out
end Go.Proofs.Ytnppneilbkmnfaa
