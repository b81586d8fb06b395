/- The document's disk: the contracts of Read, Size, Names. Condition: the disk stands. | The document's disk: the contract of Remove. Condition: the disk stands; few calls were made. | The document's disk: the contract of Cut. Condition: the disk stands; few calls were made. | The contract of the document's Arm. Condition: the disk stands; few calls were made. -/
import Derived.Test.YtnppneilbkmnfaaK5
namespace Go.Proofs.Ytnppneilbkmnfaa
open Go.RowKit

theorem bytes_no {D : Dk} {s : Nm} (h : D.seek s ≠ 0) : D.bytes s = [] ∧ D.synced s = 0 := ⟨if_neg h, if_neg h⟩
theorem bytes_yes {D : Dk} {s : Nm} {f : FileM} (h : D.refuse s = 0) (hf : D.find s = some f) : D.seek s = 0 ∧ D.bytes s = f.b ∧ D.synced s = f.sy := by
  have h1 := seek_some h hf
  exact ⟨h1, by unfold Dk.bytes; rw [if_pos h1, hf], by unfold Dk.synced; rw [if_pos h1, hf]⟩
set_option maxRecDepth 20000 in
set_option maxHeartbeats 1000000 in
theorem qread_m (w : World) (q : Nat) (D : Dk) (G : Nat → Prop) (hQ : QDisk w q D G) (s : ByteArray) (hs : s.size ≤ maxLen) :
    Calls Try.prog 76 #[.pointer (some ⟨q, 0, none⟩), .string s] w fun e w' => ∃ ao cap, e = .returned (.tuple #[.slice ao (D.bytes s.data.toList).length cap, .int .i64 (D.seek s.data.toList)]) ∧ OwnB w' (.slice ao (D.bytes s.data.toList).length cap) (D.bytes s.data.toList) ∧ Step Nil w (inFoot (.slice ao (D.bytes s.data.toList).length cap)) w' := by
  obtain ⟨fv, av, fl, h, rfl⟩ := hQ
  obtain ⟨fa, fc, rfl, hf1, hf2⟩ := h.files.shape
  unfold maxLen at hf2
  have c2 := h.cells.cell 2 rfl
  have HAsk := Lib.hid (qasked_m w q _ av fl D h s hs)
  have HAt := Lib.hid (qat_m w q _ av fl D h s)
  by_cases hr : D.refuse s.data.toList = 0
  · cases hfd : D.find s.data.toList with
    | some f =>
      obtain ⟨h1, h2, -⟩ := bytes_yes hr hfd
      obtain ⟨f1, f2, f3, f4, f5⟩ := find_file h.wf hfd
      have hul := h.wf.used
      have hl1 := h.wf.lim1
      have hul2 : sumF D.fs = D.used := rfl
      have hfb : f.b.length ≤ 1073741824 := by omega
      rw [h1, h2]
      have HR := Lib.hid hr; have HFD := Lib.hid hfd; have H := Lib.hid h
      clear hr hfd h h1 h2 f1 f2 f3 f4 f5 hul hl1 hul2
      go_enter Try.func76, Try.ntmps76
      go_wp2_with (first
        | (go_at_call 83; refine (HAsk.out).mono ?_; rintro e w' ⟨rfl, rfl⟩; rw [HR.out])
        | (go_at_call 84; refine (HAt.out).mono ?_; rintro e w' ⟨i, rfl, hi, rfl⟩; obtain ⟨k, hk, rfl⟩ := atQ_some hi HFD.out; obtain ⟨y, hy, hyf⟩ := H.out.item hk; have hkl := (List.getElem?_eq_some_iff.1 hy).1; obtain ⟨g, c, hg, -⟩ := H.out.files.open (fun x _ => rfl) (by omega) (show 0 < 3 by omega); simp only [Value.slice.injEq, true_and] at hg; obtain ⟨rfl, rfl⟩ := hg; obtain ⟨by_, cy, -, y0, y1, y2, hgl, hyB, hyc, hym⟩ := H.out.files.cellQ hy; rw [hyf] at y1 hyc hyB; have hsr := Reads.src (P := Try.prog) hyB Try.underlying31 (bvs_one f.b); clear hi hk hy hyf y0 y2 hyB)
        | (at_builtin; refine wpList_append_fresh hsr (by unfold Fits; omega) rfl (.tmp 20) (.tmp 28) rfl rfl rfl ?_; intro ao3 cap3 w3 g1 g2 hown hst; have HOW := Lib.hid hown; have HST := Lib.hid hst; clear hown hst hsr))
      go_ret2
      exact ⟨_, _, rfl, HOW.out, HST.out⟩
    | none =>
      have h1 := seek_none hr hfd
      obtain ⟨h2, -⟩ := bytes_no (D := D) (s := s.data.toList) (by omega)
      rw [h1, h2]
      have HR := Lib.hid hr; have HFD := Lib.hid hfd
      clear hr hfd h h1 h2
      go_enter Try.func76, Try.ntmps76
      go_wp2_with (first
        | (go_at_call 83; refine (HAsk.out).mono ?_; rintro e w' ⟨rfl, rfl⟩; rw [HR.out])
        | (go_at_call 84; refine (HAt.out).mono ?_; rintro e w' ⟨i, rfl, hi, rfl⟩; obtain rfl := atQ_none hi HFD.out; clear hi))
      go_ret2
      exact ⟨none, 0, rfl, Own.nil _ _ _, Step.nilNil _ rfl⟩
  · have h1 := seek_refused hr
    obtain ⟨h2, -⟩ := bytes_no (D := D) (s := s.data.toList) (by omega)
    rw [h1, h2]
    generalize hR : D.refuse s.data.toList = R at *
    have hne : (R != 0) = true := by rw [bne_iff_ne]; exact hr
    clear hr hR h1 h2 HAt h
    go_enter Try.func76, Try.ntmps76
    go_wp2_with (go_at_call 83; refine (HAsk.out).mono ?_; rintro e w' ⟨rfl, rfl⟩)
    go_ret2
    exact ⟨none, 0, rfl, Own.nil _ _ _, Step.nilNil _ rfl⟩

set_option maxRecDepth 20000 in
set_option maxHeartbeats 1000000 in
theorem qsize_m (w : World) (q : Nat) (D : Dk) (G : Nat → Prop) (hQ : QDisk w q D G) (s : ByteArray) (hs : s.size ≤ maxLen) :
    Calls Try.prog 77 #[.pointer (some ⟨q, 0, none⟩), .string s] w fun e w' => e = .returned (.tuple #[.int .i64 (D.bytes s.data.toList).length, .int .i64 (D.synced s.data.toList), .int .i64 (D.seek s.data.toList)]) ∧ ∃ n, w' = w.drewN n := by
  obtain ⟨fv, av, fl, h, rfl⟩ := hQ
  obtain ⟨fa, fc, rfl, hf1, hf2⟩ := h.files.shape
  unfold maxLen at hf2
  have c2 := h.cells.cell 2 rfl
  have HAsk := Lib.hid (qasked_m w q _ av fl D h s hs)
  have HAt := Lib.hid (qat_m w q _ av fl D h s)
  by_cases hr : D.refuse s.data.toList = 0
  · cases hfd : D.find s.data.toList with
    | some f =>
      obtain ⟨h1, h2, h3⟩ := bytes_yes hr hfd
      rw [h1, h2, h3]
      have HR := Lib.hid hr; have HFD := Lib.hid hfd; have H := Lib.hid h
      clear hr hfd h h1 h2 h3
      go_enter Try.func77, Try.ntmps77
      go_wp2_with (first
        | (go_at_call 83; refine (HAsk.out).mono ?_; rintro e w' ⟨rfl, rfl⟩; rw [HR.out])
        | (go_at_call 84; refine (HAt.out).mono ?_; rintro e w' ⟨i, rfl, hi, rfl⟩; obtain ⟨k, hk, rfl⟩ := atQ_some hi HFD.out; obtain ⟨y, hy, hyf⟩ := H.out.item hk; have hkl := (List.getElem?_eq_some_iff.1 hy).1; obtain ⟨g, c, hg, -⟩ := H.out.files.open (fun x _ => rfl) (by omega) (show 0 < 3 by omega); simp only [Value.slice.injEq, true_and] at hg; obtain ⟨rfl, rfl⟩ := hg; obtain ⟨by_, cy, -, y0, y1, y2, hgl, hyB, hyc, hym⟩ := H.out.files.cellQ hy; rw [hyf] at y1 y2 hyc; clear hi hk hy hyf y0 hyB))
      go_quiet (fail)
      go_wp2_with fail
      go_ret3
      exact ⟨rfl, nq, rfl⟩
    | none =>
      have h1 := seek_none hr hfd
      obtain ⟨h2, h3⟩ := bytes_no (D := D) (s := s.data.toList) (by omega)
      rw [h1, h2, h3]
      have HR := Lib.hid hr; have HFD := Lib.hid hfd
      clear hr hfd h h1 h2 h3
      go_enter Try.func77, Try.ntmps77
      go_wp2_with (first
        | (go_at_call 83; refine (HAsk.out).mono ?_; rintro e w' ⟨rfl, rfl⟩; rw [HR.out])
        | (go_at_call 84; refine (HAt.out).mono ?_; rintro e w' ⟨i, rfl, hi, rfl⟩; obtain rfl := atQ_none hi HFD.out; clear hi))
      go_ret3
      exact ⟨rfl, 0, rfl⟩
  · have h1 := seek_refused hr
    obtain ⟨h2, h3⟩ := bytes_no (D := D) (s := s.data.toList) (by omega)
    rw [h1, h2, h3]
    generalize hR : D.refuse s.data.toList = R at *
    have hne : (R != 0) = true := by rw [bne_iff_ne]; exact hr
    clear hr hR h1 h2 h3 HAt h
    go_enter Try.func77, Try.ntmps77
    go_wp2_with (go_at_call 83; refine (HAsk.out).mono ?_; rintro e w' ⟨rfl, rfl⟩)
    go_ret3
    exact ⟨rfl, 0, rfl⟩

/-- rows of names -/
def kNm : RK Nm := ⟨9, 1, fun s => [encS s], fun _ => .slice none 0 0, fun _ => []⟩
theorem info_str : (Try.prog.info? 9).map (fun i => (i.zero, i.size, i.bytes)) = some (some (.string ⟨#[]⟩), 1, 16) := by kernel_rfl
theorem nm_next {w : World} {ua : Option Addr} {uc : Nat} {l : List Nm} (h : Row kNm w (.slice ua l.length uc) l) (x : Nm) (hfit : l.length ≤ 1099511627776) (ty : TypeId) :
    ∃ ao cap w', (Builtin.append_ #[78, 78] ty #[.slice ua l.length uc, .slice (some ⟨w.heap.size, 0, none⟩) 1 1]).run Try.prog (w.alloc (.cells #[encS x] 9 (0, 0))) = .ok (.slice ao (l.length + 1) cap) w' ∧
      Row kNm w' (.slice ao (l.length + 1) cap) (l ++ [x]) ∧ Step (inFoot (.slice ua l.length uc)) w (inFoot (.slice ao (l.length + 1) cap)) w' := by
  have e : Ext Nil w (w.alloc (.cells #[encS x] 9 (0, 0))) := (Ext.refl _ _).alloc _
  obtain ⟨ao, cap, w', hrun, h1, h2⟩ := Row.append (K := kNm) (ts := 78) (h.ext0 e).row Try.underlying78 info_str rfl (by omega) (x := x) (Reads.item w [encS x] 9 1 rfl) (by
    intro u hu
    simp only [kNm, List.mem_cons, List.not_mem_nil, or_false] at hu
    subst hu
    rfl) hfit ty
  refine ⟨ao, cap, w', hrun, ?_, (e.mono fun _ _ h => h.elim).same h2.1, fun k hk => (h2.2 k hk).imp id fun h => Nat.le_trans e.size h⟩
  exact h.snoc e ⟨rfl, none, 0, rfl, Nat.le_refl _, by simp [maxLen], fun h => absurd rfl h⟩ (fun k hq => by simp [kNm, inFoot, foot] at hq) (by simpa using h1) h2
theorem Row.names {w : World} {v : Value} {l : List Nm} (h : Row kNm w v l) : Own w 9 1 v l.length (namesV l) := by
  have := h.row
  have e : l.flatMap kNm.cells = namesV l := by
    unfold namesV kNm
    simp only []
    clear this h
    induction l with
    | nil => rfl
    | cons a l ih => rw [List.flatMap_cons, List.map_cons, ih]; rfl
  rw [e] at this
  exact this
set_option maxRecDepth 20000 in
set_option maxHeartbeats 1000000 in
theorem qnames_m (w : World) (q : Nat) (D : Dk) (G : Nat → Prop) (hQ : QDisk w q D G) :
    Calls Try.prog 40 #[.pointer (some ⟨q, 0, none⟩)] w fun e w' => ∃ ao cap, e = .returned (.slice ao D.names.length cap) ∧ Own w' 9 1 (.slice ao D.names.length cap) D.names.length (namesV D.names) ∧ Step Nil w (inFoot (.slice ao D.names.length cap)) w' := by
  obtain ⟨fv, av, fl, h, rfl⟩ := hQ
  obtain ⟨fa, fc, rfl, hf1, hf2⟩ := h.files.shape
  unfold maxLen at hf2
  have c4 := h.cells.cell 4 rfl
  have hg := good_m w q _ av fl D h
  unfold Dk.names
  cases ho : D.off
  · rw [ho] at c4
    simp only [Bool.false_eq_true, if_false, List.length_map]
    have hcn := h.wf.count
    rw [← h.len] at hcn ⊢
    have H := Lib.hid h; have HG := Lib.hid hg
    clear h ho hg
    go_enter Try.func40, Try.ntmps40
    go_wp2_with (go_at_call 74; refine (HG.out).mono ?_; rintro e w' ⟨rfl, rfl⟩)
    go_loopw [3, 4] (fun u i wr => ∃ k : Nat, i = .int .i64 (k : Int) ∧ k ≤ fl.length ∧ Row kNm wr u ((fl.take k).map TI.nm) ∧ Ext Nil w wr ∧ ∀ j, inFoot u j → w.heap.size ≤ j) (fun _ i _ => fl.length - (intOf i).toNat)
    case atStart => exact ⟨0, rfl, Nat.zero_le _, Row.nil _, Ext.refl _ _, by simp [inFoot, foot]⟩
    case round =>
      obtain ⟨k, rfl, hk, hU, hE, hF⟩ := hrel
      have d2 := hE.cell (H.out.cells.cell 2 rfl) fun h => h
      obtain ⟨ua, uc, rfl, hu1, hu2⟩ := hU.shape
      have hlen : ((fl.take k).map TI.nm).length = k := by simp; omega
      by_cases hlt : k < fl.length
      · obtain ⟨y, hy⟩ : ∃ y, fl[k]? = some y := ⟨_, List.getElem?_eq_getElem hlt⟩
        obtain ⟨g, c, hg, -⟩ := H.out.files.open (fun x _ => rfl) (by omega) (show 0 < 3 by omega)
        simp only [Value.slice.injEq, true_and] at hg
        obtain ⟨rfl, rfl⟩ := hg
        obtain ⟨by_, cy, -, Y0, -⟩ := H.out.files.cellQ hy
        have y0 := hE.cell Y0 fun h => h
        have hgl := (cell_spot y0).2
        have hnx : (fl.take (k + 1)).map TI.nm = (fl.take k).map TI.nm ++ [y.f.nm] := by rw [List.take_add_one, hy, List.map_append]; rfl
        rw [hlen] at hu1 ⊢
        have hU2 : Row kNm wr (.slice ua ((fl.take k).map TI.nm).length uc) ((fl.take k).map TI.nm) := hU
        have HU := Lib.hid hU2; have HE := Lib.hid hE; have HF := Lib.hid hF; have HNX := Lib.hid hnx; have HLN := Lib.hid hlen
        clear hU hU2 hE hF hnx hlen hy
        go_wp2_with (first
          | (at_builtin; obtain ⟨ao2, cap2, w3, hrun, hR3, hK3⟩ := nm_next HU.out y.f.nm (by have := HLN.out; omega) 78; simp only [HLN.out] at hrun hR3 hK3; refine wpList_append_run rfl (.tmp 24) (.tmp 33) 78 78 rfl _ _ _ rfl rfl hrun ?_; have HR3 := Lib.hid hR3; have HK3 := Lib.hid hK3; clear hR3 hK3 hrun))
        refine ⟨⟨k + 1, by first | rfl | go_num, hlt, by rw [HNX.out]; exact HR3.out, HE.out.trans HK3.out.1 fun i hi hf => by have := HF.out i (by rw [HLN.out]; exact hf); omega, fun j hj => ?_⟩, by simp [intOf]; omega⟩
        rcases HK3.out.2 j hj with h | h
        · exact HF.out j (by rw [HLN.out]; exact h)
        · exact Nat.le_trans HE.out.size h
      · obtain rfl : k = fl.length := by omega
        rw [List.take_length] at hU hlen hu1 ⊢
        rw [hlen] at hu1 ⊢
        have hnm : fl.map TI.nm = D.fs.map FileM.nm := by rw [← H.out.same, List.map_map]; rfl
        have hU2 : Row kNm wr (.slice ua (fl.map TI.nm).length uc) (fl.map TI.nm) := hU
        have hown := hU2.names
        rw [hlen, hnm] at hown
        have hnot : ¬ ((fl.length : Nat) : Int) < (fl.length : Int) := by omega
        have HOWN := Lib.hid hown; have HE := Lib.hid hE; have HF := Lib.hid hF; have HLN := Lib.hid hlen; have HNM := Lib.hid hnm
        clear hU hU2 hown hE hF hlt hlen hnm
        go_wp2_with fail
        go_ret
        exact ⟨_, _, rfl, HOWN.out, HE.out, fun j hj => .inr (HF.out j (by rw [List.take_length, HLN.out]; exact hj))⟩
  · rw [ho] at c4
    simp only [if_true]
    have HG := Lib.hid hg
    clear ho h hg
    go_enter Try.func40, Try.ntmps40
    go_wp2_with (go_at_call 74; refine (HG.out).mono ?_; rintro e w' ⟨rfl, rfl⟩)
    go_ret
    exact ⟨none, 0, rfl, Own.nil _ _ _, Step.nilNil _ rfl⟩
end Go.Proofs.Ytnppneilbkmnfaa
namespace Go.Proofs.Ytnppneilbkmnfaa
open Go.RowKit

/-- append of several items onto a row -/
theorem Row.appends {α : Type} {K : RK α} {w : World} {v : Value} {l : List α} (hown : Own w K.t K.size v l.length (l.flatMap K.cells)) {ts : TypeId} {z : Value} {by_ : Nat} (hu : Try.prog.underlying ts = some (.slice K.t)) (hi : (Try.prog.info? K.t).map (fun i => (i.zero, i.size, i.bytes)) = some (some z, K.size, by_))
    (hz : z.cells.size = K.size) (hby : by_ ≤ 64) {vx : Value} {xs : List α} (hm : Reads w K.size vx xs.length (xs.flatMap K.cells)) (hx : ∀ u ∈ xs.flatMap K.cells, u.oneCell' = true) (hfit : l.length + xs.length ≤ 1099511627776) (ty : TypeId) :
    ∃ ao cap w', (Builtin.append_ #[ts, ts] ty #[v, vx]).run Try.prog w = .ok (.slice ao (l.length + xs.length) cap) w' ∧ Own w' K.t K.size (.slice ao (l.length + xs.length) cap) (l ++ xs).length ((l ++ xs).flatMap K.cells) ∧ Step (inFoot v) w (inFoot (.slice ao (l.length + xs.length) cap)) w' := by
  obtain ⟨i, hi, hz', h1, h2⟩ := info_parts hi
  obtain ⟨v', w', hr, h3, h4, h5⟩ := run_append (P := Try.prog) w ts ts ty K.t i z K.size by_ hu hi hz' h1 h2 hz v l.length _ hown vx xs.length (xs.flatMap K.cells) (Reads.src (P := Try.prog) hm hu hx)
    (by unfold maxLen; omega) (by
      have : (l.length + xs.length) * by_ ≤ (l.length + xs.length) * 64 := Nat.mul_le_mul_left _ hby
      omega)
  obtain ⟨ao, cap, rfl, h6, h7⟩ := h3.shape
  refine ⟨ao, cap, w', hr, ?_, h4, h5⟩
  rw [List.length_append, List.flatMap_append]
  exact h3
theorem Row.snocs {α : Type} {K : RK α} {w w1 : World} {v v' : Value} {l xs : List α} (h : Row K w v l) (hx : ∀ x ∈ xs, Bytes w (K.pt x) (K.bs x)) (hxk : ∀ x ∈ xs, ∀ k, inFoot (K.pt x) k → k < w.heap.size ∧ ¬ inFoot v k)
    (hO : Own w1 K.t K.size v' (l ++ xs).length ((l ++ xs).flatMap K.cells)) (hS : Step (inFoot v) w (inFoot v') w1) : Row K w1 v' (l ++ xs) := by
  have hX : ∀ y ∈ l ++ xs, Bytes w (K.pt y) (K.bs y) ∧ ∀ k, inFoot (K.pt y) k → k < w.heap.size ∧ ¬ inFoot v k := by
    intro y hy
    rcases List.mem_append.1 hy with hy | hy
    · exact ⟨h.bytes y hy, h.apart y hy⟩
    · exact ⟨hx y hy, hxk y hy⟩
  refine ⟨hO, fun y hy => (hX y hy).1.ext hS.1 fun k hk => ((hX y hy).2 k hk).2, fun y hy k hk => ?_⟩
  have h1 := (hX y hy).2 k hk
  refine ⟨Nat.lt_of_lt_of_le h1.1 hS.1.size, fun hv => ?_⟩
  rcases hS.2 k hv with h2 | h2
  · exact h1.2 h2
  · omega
/-- a part of a row, read -/
theorem Row.part {α : Type} {K : RK α} {w : World} {g c : Nat} {l : List α} (h : Row K w (.slice (some ⟨g, 0, none⟩) l.length (c + 1)) l) (hlen : ∀ x ∈ l, (K.cells x).length = K.size) (hs : 0 < K.size) (hl0 : 0 < l.length) (i n cap : Nat) (hn : i + n ≤ l.length) (hc : n ≤ cap) (hm : cap ≤ maxLen) (ao : Option Addr) (hao : 0 < n → ao = some ⟨g, i * K.size, none⟩) :
    Reads w K.size (.slice ao n cap) n (((l.drop i).take n).flatMap K.cells) := by
  have hlen2 : ((l.drop i).take n).length = n := by rw [List.length_take, List.length_drop]; omega
  have hmem : ∀ x ∈ (l.drop i).take n, (K.cells x).length = K.size := fun x hx => hlen x (List.mem_of_mem_drop (List.mem_of_mem_take hx))
  have hfl := flat_len K.cells K.size _ hmem
  rw [hlen2] at hfl
  refine ⟨hfl, ao, cap, rfl, hc, hm, fun hne => ?_⟩
  have hn0 : 0 < n := by
    rcases Nat.eq_zero_or_pos n with h0 | h0
    · subst h0; simp at hne
    · exact h0
  refine ⟨g, i * K.size, hao hn0, fun j u hu => ?_⟩
  obtain ⟨g', c', h0, -, -, hg, hcell⟩ := h.open hlen hl0 hs
  simp only [Value.slice.injEq, Option.some.injEq, Addr.mk.injEq, and_true] at h0
  obtain ⟨rfl, -, -⟩ := h0
  have hj : j < n * K.size := by
    have := (List.getElem?_eq_some_iff.1 hu).1
    rwa [hfl] at this
  have hdiv : j / K.size < n := by rw [Nat.div_lt_iff_lt_mul hs]; exact hj
  have hmod := Nat.mod_lt j hs
  have hjj : j / K.size * K.size + j % K.size = j := by rw [Nat.mul_comm]; exact Nat.div_add_mod j K.size
  have h1 := flat_mem K.cells K.size ((l.drop i).take n) hmem (j / K.size) (by rw [hlen2]; exact hdiv) (j % K.size) hmod
  rw [hjj] at h1
  rw [h1] at hu
  have h2 : ((l.drop i).take n)[j / K.size]'(by rw [hlen2]; exact hdiv) = l[i + j / K.size]'(by omega) := by
    rw [List.getElem_take, List.getElem_drop]
  rw [h2] at hu
  have h3 := hcell (i + j / K.size) (by omega) _ u hu
  have e : (i + j / K.size) * K.size + j % K.size = i * K.size + j := by rw [Nat.add_mul]; omega
  rw [e] at h3
  exact h3
theorem delK_at {l : List TI} (h : Rises TI.nm l) {k : Nat} {y : TI} (hy : l[k]? = some y) : delK TI.nm y.nm l = l.take k ++ l.drop (k + 1) := by
  obtain ⟨hk, he⟩ := List.getElem?_eq_some_iff.1 hy
  have e : l = l.take k ++ y :: l.drop (k + 1) := by
    rw [← he, ← List.drop_eq_getElem_cons hk, List.take_append_drop]
  generalize l.take k = A at *
  generalize l.drop (k + 1) = B at *
  clear hy hk he
  subst e
  have h3 := List.pairwise_append.1 h
  have h4 := List.pairwise_cons.1 h3.2.1
  have d1 := delK_none TI.nm y.nm A fun a ha => before_ne (h3.2.2 a ha y (List.mem_cons_self ..))
  have d2 := delK_none TI.nm y.nm B fun a ha => (before_ne (h4.1 a ha)).symm
  unfold delK at *
  rw [List.filter_append, List.filter_cons, d1, if_neg (by simp), d2]
theorem remove_num (D : Dk) (s : Nm) (h : D.seek s = 0) : D.remove s = ({ befD D with fs := if befDo D then delK FileM.nm s D.fs else D.fs }, befE D) := by
  unfold Dk.remove
  rw [if_neg (by simp [h])]
  exact num_bef D (delK FileM.nm s)
theorem remove_no (D : Dk) (s : Nm) (h : D.seek s ≠ 0) : D.remove s = (D, D.seek s) := if_pos h
theorem del_wf {D : Dk} (hw : D.Wf) (s : Nm) : ({ befD D with fs := delK FileM.nm s D.fs } : Dk).Wf := by
  have hb := befD_wf hw
  have hsub : (delK FileM.nm s D.fs).Sublist D.fs := List.filter_sublist ..
  have hsum : ∀ l l' : List FileM, l'.Sublist l → sumF l' ≤ sumF l := by
    intro l l' hs
    induction hs with
    | slnil => exact Nat.le_refl _
    | cons a _ ih => unfold sumF at *; simp only [List.map_cons, List.sum_cons]; omega
    | cons_cons a _ ih => unfold sumF at *; simp only [List.map_cons, List.sum_cons]; omega
  obtain ⟨h1, h2, h3⟩ := befD_parts D
  refine ⟨rises_del FileM.nm hw.rises s, hb.lim0, hb.lim1, ?_, fun f hf => hw.synced f (hsub.subset hf), fun f hf => hw.names f (hsub.subset hf), Nat.le_trans hsub.length_le hw.count, hb.kinds, hb.outOff⟩
  show sumF (delK FileM.nm s D.fs) ≤ (befD D).lim
  rw [h1]
  exact Nat.le_trans (hsum _ _ hsub) hw.used
theorem tiCells_one (l : List TI) (h : ∀ x ∈ l, ∃ ao n cap, x.v = .slice ao n cap) : ∀ u ∈ l.flatMap TI.cells, u.oneCell' = true := by
  intro u hu
  obtain ⟨x, hx, hu⟩ := List.mem_flatMap.1 hu
  obtain ⟨ao, n, cap, hv⟩ := h x hx
  simp only [TI.cells, List.mem_cons, List.not_mem_nil, or_false] at hu
  rcases hu with rfl | rfl | rfl
  · rfl
  · rw [hv]; rfl
  · rfl
theorem Row.slices {w : World} {v : Value} {l : List TI} (h : Row kQ w v l) : ∀ x ∈ l, ∃ ao n cap, x.v = .slice ao n cap := fun x hx => by
  have hB : Bytes w x.v x.f.b := h.bytes x hx
  obtain ⟨ao, cap, hv, -⟩ := hB.open
  exact ⟨ao, _, cap, hv⟩
theorem rem_first {w : World} {g c : Nat} {fl : List TI} (h : Row kQ w (.slice (some ⟨g, 0, none⟩) fl.length (c + 1)) fl) {k : Nat} (hk : k < fl.length) (hfew : fl.length ≤ 65536) (hcm : c + 1 ≤ maxLen) (ty : TypeId) :
    ∃ ao cap w', (Builtin.append_ #[128, 128] ty #[.slice none 0 0, .slice (some ⟨g, 0, none⟩) k (c + 1)]).run Try.prog w = .ok (.slice ao k cap) w' ∧ Row kQ w' (.slice ao k cap) (fl.take k) ∧ Step Nil w (inFoot (.slice ao k cap)) w' := by
  have hl : (fl.take k).length = k := by rw [List.length_take]; omega
  have hrd := Row.part h (fun x _ => rfl) (show 0 < 3 by omega) (by omega) 0 k (c + 1) (by omega) (by obtain ⟨_, _, h0, h1, h2⟩ := h.shape; simp only [Value.slice.injEq] at h0; omega) hcm (some ⟨g, 0, none⟩) (fun _ => by rw [Nat.zero_mul])
  rw [List.drop_zero] at hrd
  have hrd2 : Reads w kQ.size (.slice (some ⟨g, 0, none⟩) k (c + 1)) (fl.take k).length ((fl.take k).flatMap kQ.cells) := by rw [hl]; exact hrd
  obtain ⟨ao, cap, w', hrun, h1, h2⟩ := Row.appends (K := kQ) (l := []) (xs := fl.take k) (ts := 128) (Own.nil w 132 3) Try.underlying128 info_fileQ rfl (by omega) hrd2 (tiCells_one _ fun x hx => h.slices x (List.mem_of_mem_take hx)) (by simp; omega) ty
  simp only [List.length_nil, Nat.zero_add, hl, List.nil_append] at hrun h1 h2
  have hR := Row.snocs (Row.nil (K := kQ) w) (xs := fl.take k) (fun x hx => h.bytes x (List.mem_of_mem_take hx)) (fun x hx i hi => ⟨(h.apart x (List.mem_of_mem_take hx) i hi).1, by simp [inFoot, foot]⟩) (w1 := w') (v' := .slice ao k cap) (by simpa [hl] using h1) (h2.weak fun i hi => by simp [inFoot, foot] at hi)
  exact ⟨ao, cap, w', hrun, by simpa using hR, h2.weak fun i hi => by simp [inFoot, foot] at hi⟩
theorem atQ_uniq {D : Dk} (hw : D.Wf) {s : Nm} {i : Int} {f : FileM} {k : Nat} (h : AtQ D s i) (hf : D.find s = some f) (hk : D.fs[k]? = some f) : i = (k : Int) := by
  obtain ⟨j, hj, rfl⟩ := atQ_some h hf
  have hkj : j = k := by
    obtain ⟨h1, e1⟩ := List.getElem?_eq_some_iff.1 hj
    obtain ⟨h2, e2⟩ := List.getElem?_eq_some_iff.1 hk
    rcases Nat.lt_trichotomy j k with hlt | he | hlt
    · have := List.pairwise_iff_getElem.1 hw.rises j k h1 h2 hlt
      rw [e1, e2, WideAt.bytes_irrefl] at this
      cases this
    · exact he
    · have := List.pairwise_iff_getElem.1 hw.rises k j h2 h1 hlt
      rw [e1, e2, WideAt.bytes_irrefl] at this
      cases this
  rw [hkj]
theorem rem_second {w0 w : World} {g c uc k : Nat} {ua : Option Addr} {fl : List TI} (h : Row kQ w (.slice (some ⟨g, 0, none⟩) fl.length (c + 1)) fl) (hu : Row kQ w (.slice ua k uc) (fl.take k)) (hnew : ∀ i, inFoot (.slice ua k uc) i → w0.heap.size ≤ i) (hold : ∀ i, feet kQ (.slice (some ⟨g, 0, none⟩) fl.length (c + 1)) fl i → i < w0.heap.size)
    (hk : k < fl.length) (hfew : fl.length ≤ 65536) (ao2 : Option Addr) (cap2 : Nat) (hao : 0 < fl.length - (k + 1) → ao2 = some ⟨g, (k + 1) * 3, none⟩) (hc2 : fl.length - (k + 1) ≤ cap2) (hm2 : cap2 ≤ maxLen) (ty : TypeId) :
    ∃ ao cap w', (Builtin.append_ #[128, 128] ty #[.slice ua k uc, .slice ao2 (fl.length - (k + 1)) cap2]).run Try.prog w = .ok (.slice ao (k + (fl.length - (k + 1))) cap) w' ∧ Row kQ w' (.slice ao (k + (fl.length - (k + 1))) cap) (fl.take k ++ fl.drop (k + 1)) ∧ Step (inFoot (.slice ua k uc)) w (inFoot (.slice ao (k + (fl.length - (k + 1))) cap)) w' := by
  have hl : (fl.take k).length = k := by rw [List.length_take]; omega
  have hl2 : (fl.drop (k + 1)).length = fl.length - (k + 1) := by rw [List.length_drop]
  have hrd := Row.part h (fun x _ => rfl) (show 0 < 3 by omega) (by omega) (k + 1) (fl.length - (k + 1)) cap2 (by omega) hc2 hm2 ao2 hao
  have ht : (fl.drop (k + 1)).take (fl.length - (k + 1)) = fl.drop (k + 1) := by rw [← hl2, List.take_length]
  rw [ht] at hrd
  have hrd2 : Reads w kQ.size (.slice ao2 (fl.length - (k + 1)) cap2) (fl.drop (k + 1)).length ((fl.drop (k + 1)).flatMap kQ.cells) := by rw [hl2]; exact hrd
  have hur : Own w kQ.t kQ.size (.slice ua k uc) (fl.take k).length ((fl.take k).flatMap kQ.cells) := hu.row
  obtain ⟨ao, cap, w', hrun, h1, h2⟩ := Row.appends (K := kQ) (l := fl.take k) (xs := fl.drop (k + 1)) (ts := 128) hur Try.underlying128 info_fileQ rfl (by omega) hrd2 (tiCells_one _ fun x hx => h.slices x (List.mem_of_mem_drop hx)) (by rw [hl, hl2]; omega) ty
  simp only [hl, hl2] at hrun h1 h2
  have hR := Row.snocs hu (xs := fl.drop (k + 1)) (fun x hx => h.bytes x (List.mem_of_mem_drop hx)) (fun x hx i hi => ⟨(h.apart x (List.mem_of_mem_drop hx) i hi).1, fun hv => by have := hnew i hv; have := hold i (.inr ⟨x, List.mem_of_mem_drop hx, hi⟩); omega⟩) (w1 := w') (v' := .slice ao (k + (fl.length - (k + 1))) cap) h1 h2
  exact ⟨ao, cap, w', hrun, hR, h2⟩

set_option maxRecDepth 20000 in
set_option maxHeartbeats 2000000 in
theorem qremove_m (w : World) (q : Nat) (D : Dk) (G : Nat → Prop) (hQ : QDisk w q D G) (hc : D.calls ≤ 1099511627776) (hal : D.arms.length ≤ 1099511627776) (s : ByteArray) (hs : s.size ≤ maxLen) :
    Calls Try.prog 101 #[.pointer (some ⟨q, 0, none⟩), .string s] w (QActed w q G (D.remove s.data.toList)) := by
  have hQD := hQ
  obtain ⟨fv, av, fl, h, rfl⟩ := hQ
  obtain ⟨fa, fc, rfl, hf1, hf2⟩ := h.files.shape
  have HAsk := Lib.hid (qasked_m w q _ av fl D h s hs)
  have HAt := Lib.hid (qat_m w q _ av fl D h s)
  have hcn := h.wf.count
  rw [← h.len] at hcn
  by_cases hr : D.refuse s.data.toList = 0
  · cases hfd : D.find s.data.toList with
    | some f =>
      have hsk := seek_some hr hfd
      have hri := rises_TI h.same h.wf.rises
      have HWF := Lib.hid h.wf
      have HR := Lib.hid hr; have HFD := Lib.hid hfd; have H := Lib.hid h; have HRI := Lib.hid hri; have HSK := Lib.hid hsk
      have hfn := (find_file h.wf hfd).2.1
      have HFN := Lib.hid hfn
      clear hr hfd h hri hsk hQD hfn
      cases hdo : befDo D
      · have hdn : D.remove s.data.toList = (befD D, befE D) := by rw [remove_num D _ HSK.out, hdo]; simp only [Bool.false_eq_true, if_false]; rw [same_fs]
        have HDO := Lib.hid hdo; have HDN := Lib.hid hdn
        clear hdo hdn
        go_enter Try.func101, Try.ntmps101
        go_wp2_with (first
          | (go_at_call 83; refine (HAsk.out).mono ?_; rintro e w' ⟨rfl, rfl⟩; rw [HR.out])
          | (go_at_call 84; refine (HAt.out).mono ?_; rintro e w' ⟨i, rfl, hi, rfl⟩; obtain ⟨k, hk, rfl⟩ := atQ_some hi HFD.out; clear hi hk)
          | (go_at_call 86; refine (befall_m _ q _ av fl D H.out hc hal).mono ?_; rintro e w2 ⟨u2, rfl, hq2, e2, hk2⟩; rw [HDO.out]; have HQ2 := Lib.hid hq2; have HE2 := Lib.hid e2; have HK2 := Lib.hid hk2; clear hq2 e2 hk2))
        go_ret
        rw [HDN.out]
        exact QActed.of (fv' := _) (av' := u2) (fl' := fl) HQ2.out HE2.out (by
          rintro k (hk | hk | hk)
          · exact .inl (.inl hk)
          · exact .inl (.inr (.inl hk))
          · exact .inr (HK2.out k hk))
      · have hdn : D.remove s.data.toList = ({ befD D with fs := delK FileM.nm s.data.toList D.fs }, befE D) := by rw [remove_num D _ HSK.out, hdo]; rfl
        have HDO := Lib.hid hdo; have HDN := Lib.hid hdn
        clear hdo hdn
        obtain ⟨k, hk⟩ : ∃ k : Nat, D.fs[k]? = some f := by
          obtain ⟨k, hk, he⟩ := List.mem_iff_getElem.1 (find_file HWF.out HFD.out).1
          exact ⟨k, by rw [List.getElem?_eq_getElem hk, he]⟩
        obtain ⟨y, hy, hyf⟩ := H.out.item hk
        have hkl := (List.getElem?_eq_some_iff.1 hy).1
        obtain ⟨g, c, hg, -, hcm, -⟩ := H.out.files.open (fun x _ => rfl) (by omega) (show 0 < 3 by omega)
        simp only [Value.slice.injEq, true_and] at hg
        obtain ⟨rfl, rfl⟩ := hg
        have HY := Lib.hid hy; have HYF := Lib.hid hyf; have HK := Lib.hid hk
        clear hk hy hyf
        by_cases hck : c = k
        · have hck2 := hck.symm
          subst hck2
          clear hck
          go_enter Try.func101, Try.ntmps101
          go_wp2_with (first
            | (go_at_call 83; refine (HAsk.out).mono ?_; rintro e w' ⟨rfl, rfl⟩; rw [HR.out])
            | (go_at_call 84; refine (HAt.out).mono ?_; rintro e w' ⟨i, rfl, hi, rfl⟩; obtain rfl := atQ_uniq HWF.out hi HFD.out HK.out; clear hi)
            | (go_at_call 86; refine (befall_m _ q _ av fl D H.out hc hal).mono ?_; rintro e w2 ⟨u2, rfl, hq2, e2, hk2⟩; rw [HDO.out]; have d2 := hq2.cells.cell 2 rfl; have hkw : IntKind.i64.wrap ((k : Int) + 1) = ((k + 1 : Nat) : Int) := (by rw [IntWalk.i64_in _ (by omega)]; omega); have HQ2 := Lib.hid hq2; have HE2 := Lib.hid e2; have HK2 := Lib.hid hk2; clear hq2 e2 hk2)
            | (at_builtin; obtain ⟨ao4, cap4, w4, hrun, hR4, hK4⟩ := rem_second (w0 := w2) (HQ2.out.ext0 HK3.out.1).files HR3.out (fun i hi => (HK3.out.2 i hi).resolve_left fun h => h) (fun i hi => HQ2.out.files.feet_lt i hi) hkl hcn (some ⟨g, 0, none⟩) (0) (by intro h9; omega) (by omega) (by omega) 128; have hz9 : fl.length - (k + 1) = 0 := (by omega); simp only [hz9, Nat.add_zero] at hrun hR4 hK4; refine wpList_append_run rfl (.tmp 34) (.tmp 41) 128 128 rfl _ _ _ rfl rfl hrun ?_; have HR4 := Lib.hid hR4; have HK4 := Lib.hid hK4; have e4 := hK3n.trans hK4.1 (fun i hi hf => by have := (HK3.out.2 i hf).resolve_left fun h => h; omega); have d4 := e4.cell HD2.out (fun h => h); have z4 := (HQ2.out.ext0 e4).cells.frozen 2; have HE4 := Lib.hid e4; clear d3 hR4 hK4 hrun e4)
            | (have hy := d2; at_builtin; clear hy; obtain ⟨ao3, cap3, w3, hrun, hR3, hK3⟩ := rem_first HQ2.out.files hkl hcn hcm 128; refine wpList_append_run rfl (.tmp 26) (.tmp 32) 128 128 rfl _ _ _ rfl rfl hrun ?_; have HD2 := Lib.hid d2; have hK3n := hK3.1; have d3 := hK3.1.cell d2 (fun h => h); have HR3 := Lib.hid hR3; have HK3 := Lib.hid hK3; clear hR3 hK3 hrun d2))
          go_ret
          rw [HDN.out]
          have hfold : (fl.take k ++ fl.drop (k + 1)).map TI.f = delK FileM.nm s.data.toList D.fs := by
            have h9 := delK_at HRI.out HY.out
            have h8 : y.nm = s.data.toList := by show y.f.nm = _; rw [HYF.out]; exact HFN.out
            rw [h8] at h9
            rw [← h9, delK_map TI.nm FileM.nm TI.f fun _ => rfl, H.out.same]
          have hnew4 : ∀ i, inFoot (.slice ao4 k cap4) i → w2.heap.size ≤ i := fun i hi => (HK4.out.2 i hi).elim (fun h => (HK3.out.2 i h).resolve_left fun h => h) fun h => Nat.le_trans HK3.out.1.size h
          have hold2 : ∀ x ∈ fl.take k ++ fl.drop (k + 1), x ∈ fl := fun x hx => (List.mem_append.1 hx).elim List.mem_of_mem_take List.mem_of_mem_drop
          have hq9 := (HQ2.out.ext0 HE4.out).refile (D' := { befD D with fs := delK FileM.nm s.data.toList D.fs }) HR4.out hfold (by
            rintro i (hi | ⟨x, hx, hi⟩)
            · have := hnew4 i hi
              have := HQ2.out.cells.lt
              omega
            · exact HQ2.out.apq i (.inr ⟨x, hold2 x hx, hi⟩)) (fun i hi => ⟨(HQ2.out.apa i hi).1, by
            rintro (h9 | ⟨x, hx, h9⟩)
            · have := hnew4 i h9
              have := HQ2.out.arms.lt i hi
              omega
            · exact (HQ2.out.apa i hi).2 (.inr ⟨x, hold2 x hx, h9⟩)⟩) rfl rfl rfl rfl rfl (del_wf HWF.out s.data.toList)
          have hs2 := HE2.out.size
          exact QActed.of (fv' := .slice ao4 k cap4) (av' := u2) (fl' := fl.take k ++ fl.drop (k + 1)) hq9 (Ext.setCell (F := fun i => i = q) (HE2.out.same (HE4.out.mono fun _ _ h => h.elim)) (p := ⟨q, 2, none⟩) (fun _ => rfl) _) (by
            rintro i (hi | (hi | ⟨x, hx, hi⟩) | hi)
            · exact .inl (.inl hi)
            · have := hnew4 i hi
              exact .inr (by omega)
            · exact .inl (.inr (.inl (.inr ⟨x, hold2 x hx, hi⟩)))
            · exact .inr (HK2.out i hi))
        · skip
          go_enter Try.func101, Try.ntmps101
          go_wp2_with (first
            | (go_at_call 83; refine (HAsk.out).mono ?_; rintro e w' ⟨rfl, rfl⟩; rw [HR.out])
            | (go_at_call 84; refine (HAt.out).mono ?_; rintro e w' ⟨i, rfl, hi, rfl⟩; obtain rfl := atQ_uniq HWF.out hi HFD.out HK.out; clear hi)
            | (go_at_call 86; refine (befall_m _ q _ av fl D H.out hc hal).mono ?_; rintro e w2 ⟨u2, rfl, hq2, e2, hk2⟩; rw [HDO.out]; have d2 := hq2.cells.cell 2 rfl; have hkw : IntKind.i64.wrap ((k : Int) + 1) = ((k + 1 : Nat) : Int) := (by rw [IntWalk.i64_in _ (by omega)]; omega); have HQ2 := Lib.hid hq2; have HE2 := Lib.hid e2; have HK2 := Lib.hid hk2; clear hq2 e2 hk2)
            | (at_builtin; obtain ⟨ao4, cap4, w4, hrun, hR4, hK4⟩ := rem_second (w0 := w2) (HQ2.out.ext0 HK3.out.1).files HR3.out (fun i hi => (HK3.out.2 i hi).resolve_left fun h => h) (fun i hi => HQ2.out.files.feet_lt i hi) hkl hcn (some ⟨g, (k + 1) * 3, none⟩) (c - k) (fun _ => rfl) (by omega) (by omega) 128; refine wpList_append_run rfl (.tmp 34) (.tmp 41) 128 128 rfl _ _ _ rfl rfl hrun ?_; have HR4 := Lib.hid hR4; have HK4 := Lib.hid hK4; have e4 := hK3n.trans hK4.1 (fun i hi hf => by have := (HK3.out.2 i hf).resolve_left fun h => h; omega); have d4 := e4.cell HD2.out (fun h => h); have z4 := (HQ2.out.ext0 e4).cells.frozen 2; have HE4 := Lib.hid e4; clear d3 hR4 hK4 hrun e4)
            | (have hy := d2; at_builtin; clear hy; obtain ⟨ao3, cap3, w3, hrun, hR3, hK3⟩ := rem_first HQ2.out.files hkl hcn hcm 128; refine wpList_append_run rfl (.tmp 26) (.tmp 32) 128 128 rfl _ _ _ rfl rfl hrun ?_; have HD2 := Lib.hid d2; have hK3n := hK3.1; have d3 := hK3.1.cell d2 (fun h => h); have HR3 := Lib.hid hR3; have HK3 := Lib.hid hK3; clear hR3 hK3 hrun d2))
          go_ret
          rw [HDN.out]
          have hfold : (fl.take k ++ fl.drop (k + 1)).map TI.f = delK FileM.nm s.data.toList D.fs := by
            have h9 := delK_at HRI.out HY.out
            have h8 : y.nm = s.data.toList := by show y.f.nm = _; rw [HYF.out]; exact HFN.out
            rw [h8] at h9
            rw [← h9, delK_map TI.nm FileM.nm TI.f fun _ => rfl, H.out.same]
          have hnew4 : ∀ i, inFoot (.slice ao4 (k + (fl.length - (k + 1))) cap4) i → w2.heap.size ≤ i := fun i hi => (HK4.out.2 i hi).elim (fun h => (HK3.out.2 i h).resolve_left fun h => h) fun h => Nat.le_trans HK3.out.1.size h
          have hold2 : ∀ x ∈ fl.take k ++ fl.drop (k + 1), x ∈ fl := fun x hx => (List.mem_append.1 hx).elim List.mem_of_mem_take List.mem_of_mem_drop
          have hq9 := (HQ2.out.ext0 HE4.out).refile (D' := { befD D with fs := delK FileM.nm s.data.toList D.fs }) HR4.out hfold (by
            rintro i (hi | ⟨x, hx, hi⟩)
            · have := hnew4 i hi
              have := HQ2.out.cells.lt
              omega
            · exact HQ2.out.apq i (.inr ⟨x, hold2 x hx, hi⟩)) (fun i hi => ⟨(HQ2.out.apa i hi).1, by
            rintro (h9 | ⟨x, hx, h9⟩)
            · have := hnew4 i h9
              have := HQ2.out.arms.lt i hi
              omega
            · exact (HQ2.out.apa i hi).2 (.inr ⟨x, hold2 x hx, h9⟩)⟩) rfl rfl rfl rfl rfl (del_wf HWF.out s.data.toList)
          have hs2 := HE2.out.size
          exact QActed.of (fv' := .slice ao4 (k + (fl.length - (k + 1))) cap4) (av' := u2) (fl' := fl.take k ++ fl.drop (k + 1)) hq9 (Ext.setCell (F := fun i => i = q) (HE2.out.same (HE4.out.mono fun _ _ h => h.elim)) (p := ⟨q, 2, none⟩) (fun _ => rfl) _) (by
            rintro i (hi | (hi | ⟨x, hx, hi⟩) | hi)
            · exact .inl (.inl hi)
            · have := hnew4 i hi
              exact .inr (by omega)
            · exact .inl (.inr (.inl (.inr ⟨x, hold2 x hx, hi⟩)))
            · exact .inr (HK2.out i hi))
    | none =>
      have hsk := seek_none hr hfd
      have e1 := remove_no D s.data.toList (by omega)
      rw [hsk] at e1
      rw [e1]
      have HR := Lib.hid hr; have HFD := Lib.hid hfd; have HQD := Lib.hid hQD
      clear hr hfd h hsk e1 hQD
      go_enter Try.func101, Try.ntmps101
      go_wp2_with (first
        | (go_at_call 83; refine (HAsk.out).mono ?_; rintro e w' ⟨rfl, rfl⟩; rw [HR.out])
        | (go_at_call 84; refine (HAt.out).mono ?_; rintro e w' ⟨i, rfl, hi, rfl⟩; obtain rfl := atQ_none hi HFD.out; clear hi))
      go_ret
      exact QActed.same HQD.out (Ext.refl _ _) _
  · have hsk := seek_refused hr
    have e1 := remove_no D s.data.toList (by omega)
    rw [hsk] at e1
    rw [e1]
    generalize hR : D.refuse s.data.toList = R at *
    have hne : (R != 0) = true := by rw [bne_iff_ne]; exact hr
    have HQD := Lib.hid hQD
    clear hr hR hsk e1 HAt h hQD
    go_enter Try.func101, Try.ntmps101
    go_wp2_with (go_at_call 83; refine (HAsk.out).mono ?_; rintro e w' ⟨rfl, rfl⟩)
    go_ret
    exact QActed.same HQD.out (Ext.refl _ _) _
end Go.Proofs.Ytnppneilbkmnfaa
namespace Go.Proofs.Ytnppneilbkmnfaa
open Go.RowKit

theorem cut_num (D : Dk) (s : Nm) (n : Nat) {f : FileM} (h : D.seek s = 0) (hf : D.find s = some f) (hn : n ≤ f.b.length) : D.cut s (n : Int) = ({ befD D with fs := if befDo D then putK FileM.nm ⟨s, f.b.take n, n⟩ D.fs else D.fs }, befE D) := by
  have hs : D.size s = f.b.length := by unfold Dk.size; rw [hf]
  have e1 : Dk.cutTo s (n : Int).toNat = fun E : Dk => { E with fs := cutF s n E.fs } := funext fun E => by rw [Int.toNat_natCast]; exact Dk.cutTo_eq E s n
  have e2 : cutF s n D.fs = putK FileM.nm ⟨s, f.b.take n, n⟩ D.fs := by
    unfold cutF
    have hf2 : findK FileM.nm s D.fs = some f := hf
    rw [hf2]
  unfold Dk.cut
  rw [if_neg (by simp [h]), if_neg (by rw [hs]; omega), e1, num_bef, e2]
theorem cut_seek (D : Dk) (s : Nm) (n : Int) (h : D.seek s ≠ 0) : D.cut s n = (D, D.seek s) := if_pos h
theorem cut_arg (D : Dk) (s : Nm) (n : Int) (h : D.seek s = 0) (hn : n < 0 ∨ (D.size s : Int) < n) : D.cut s n = (D, 2) := by
  unfold Dk.cut
  rw [if_neg (by simp [h]), if_pos hn]

set_option maxRecDepth 20000 in
set_option maxHeartbeats 4000000 in
theorem qcut_m (w : World) (q : Nat) (D : Dk) (G : Nat → Prop) (hQ : QDisk w q D G) (hc : D.calls ≤ 1099511627776) (hal : D.arms.length ≤ 1099511627776) (s : ByteArray) (hs : s.size ≤ maxLen) (n : Int) :
    Calls Try.prog 100 #[.pointer (some ⟨q, 0, none⟩), .string s, .int .i64 n] w (QActed w q G (D.cut s.data.toList n)) := by
  have hQD := hQ
  obtain ⟨fv, av, fl, h, rfl⟩ := hQ
  obtain ⟨fa, fc, rfl, hf1, hf2⟩ := h.files.shape
  have HAsk := Lib.hid (qasked_m w q _ av fl D h s hs)
  have HAt := Lib.hid (qat_m w q _ av fl D h s)
  have hcn := h.wf.count
  rw [← h.len] at hcn
  have c2 := h.cells.cell 2 rfl
  by_cases hr : D.refuse s.data.toList = 0
  · cases hfd : D.find s.data.toList with
    | some f =>
      have hsk := seek_some hr hfd
      obtain ⟨f1, f2, f3, f4, f5⟩ := find_file h.wf hfd
      have hul := h.wf.used
      have hl1 := h.wf.lim1
      have hul2 : sumF D.fs = D.used := rfl
      have hfb : f.b.length ≤ 1073741824 := by omega
      have hroom : D.used ≤ D.lim := by omega
      obtain ⟨k, hk⟩ : ∃ k : Nat, D.fs[k]? = some f := by
        obtain ⟨k, hk, he⟩ := List.mem_iff_getElem.1 f1
        exact ⟨k, by rw [List.getElem?_eq_getElem hk, he]⟩
      obtain ⟨y, hy, hyf⟩ := h.item hk
      have hkl := (List.getElem?_eq_some_iff.1 hy).1
      obtain ⟨g, c, hg, -, hcm, -⟩ := h.files.open (fun x _ => rfl) (by omega) (show 0 < 3 by omega)
      simp only [Value.slice.injEq, true_and] at hg
      obtain ⟨rfl, rfl⟩ := hg
      obtain ⟨by_, cy, hyv, Y0, Y1, Y2, hgl, hyB, hyc, hym⟩ := h.files.cellQ hy
      rw [hyf] at Y1 hyB hyc hyv
      have HWF := Lib.hid h.wf; have HR := Lib.hid hr; have HFD := Lib.hid hfd; have H := Lib.hid h; have HSK := Lib.hid hsk; have HK := Lib.hid hk; have HYB := Lib.hid hyB; have HF4 := Lib.hid f4; have HROOM := Lib.hid hroom; have HQD := Lib.hid hQD; have HF2 := Lib.hid f2; have HYQ := Lib.hid (fun j (hj : inFoot (.slice by_ f.b.length cy) j) => h.apq j (.inr ⟨y, List.mem_of_getElem? hy, by rw [← hyv] at hj; exact hj⟩))
      clear hr hfd h hsk hk hy hyf hyv f1 f2 f3 f4 f5 hul hl1 hul2 hyB Y0 Y2 hroom hQD
      by_cases hneg : n < 0
      · have HDN := Lib.hid (cut_arg D s.data.toList n HSK.out (.inl hneg))
        go_enter Try.func100, Try.ntmps100
        go_wp2_with (first
          | (go_at_call 83; refine (HAsk.out).mono ?_; rintro e w' ⟨rfl, rfl⟩; rw [HR.out])
          | (go_at_call 84; refine (HAt.out).mono ?_; rintro e w' ⟨i, rfl, hi, rfl⟩; obtain rfl := atQ_uniq HWF.out hi HFD.out HK.out; clear hi))
        go_ret
        rw [HDN.out]
        exact QActed.same HQD.out (Ext.refl _ _) _
      by_cases hbig : (f.b.length : Int) < n
      · have HDN := Lib.hid (cut_arg D s.data.toList n HSK.out (.inr (by rw [HF4.out]; exact hbig)))
        go_enter Try.func100, Try.ntmps100
        go_wp2_with (first
          | (go_at_call 83; refine (HAsk.out).mono ?_; rintro e w' ⟨rfl, rfl⟩; rw [HR.out])
          | (go_at_call 84; refine (HAt.out).mono ?_; rintro e w' ⟨i, rfl, hi, rfl⟩; obtain rfl := atQ_uniq HWF.out hi HFD.out HK.out; clear hi))
        go_ret
        rw [HDN.out]
        exact QActed.same HQD.out (Ext.refl _ _) _
      obtain ⟨m, rfl⟩ := Int.eq_ofNat_of_zero_le (show 0 ≤ n by omega)
      have hmf : m ≤ f.b.length := by omega
      have hmc : m ≤ cy := by omega
      have g1 : ¬ (m : Int) < 0 := by omega
      have g2 : ¬ (f.b.length : Int) < (m : Int) := by omega
      clear hneg hbig
      cases hdo : befDo D
      · have hdn : D.cut s.data.toList (m : Int) = (befD D, befE D) := by rw [cut_num D _ m HSK.out HFD.out hmf, hdo]; simp only [Bool.false_eq_true, if_false]; rw [same_fs]
        have HDO := Lib.hid hdo; have HDN := Lib.hid hdn
        clear hdo hdn
        go_enter Try.func100, Try.ntmps100
        go_wp2_with (first
          | (go_at_call 83; refine (HAsk.out).mono ?_; rintro e w' ⟨rfl, rfl⟩; rw [HR.out])
          | (go_at_call 84; refine (HAt.out).mono ?_; rintro e w' ⟨i, rfl, hi, rfl⟩; obtain rfl := atQ_uniq HWF.out hi HFD.out HK.out; clear hi)
          | (go_at_call 86; refine (befall_m _ q _ av fl D H.out hc hal).mono ?_; rintro e w2 ⟨u2, rfl, hq2, e2, hk2⟩; rw [HDO.out]; have HQ2 := Lib.hid hq2; have HE2 := Lib.hid e2; have HK2 := Lib.hid hk2; clear hq2 e2 hk2))
        go_ret
        rw [HDN.out]
        exact QActed.of (fv' := _) (av' := u2) (fl' := fl) HQ2.out HE2.out (by
          rintro k (hk | hk | hk)
          · exact .inl (.inl hk)
          · exact .inl (.inr (.inl hk))
          · exact .inr (HK2.out k hk))
      · have hdn : D.cut s.data.toList (m : Int) = ({ befD D with fs := putK FileM.nm ⟨s.data.toList, f.b.take m, m⟩ D.fs }, befE D) := by rw [cut_num D _ m HSK.out HFD.out hmf, hdo]; rfl
        have hlm : (f.b.take m).length = m := by rw [List.length_take]; omega
        have hpw := put_wf2 HWF.out ⟨s.data.toList, f.b.take m, m⟩ (by show m ≤ (f.b.take m).length; omega) (refuse_nm HR.out) (by
          unfold Dk.room
          rw [HF4.out, HFD.out]
          have := HROOM.out
          simp only [hlm, Option.isSome_some, Bool.true_or, Bool.and_true, decide_eq_true_eq]
          omega)
        have HDO := Lib.hid hdo; have HDN := Lib.hid hdn; have HPW := Lib.hid hpw; have HLM := Lib.hid hlm
        clear hdo hdn hpw hlm
        go_enter Try.func100, Try.ntmps100
        go_wp2_with (first
          | (go_at_call 83; refine (HAsk.out).mono ?_; rintro e w' ⟨rfl, rfl⟩; rw [HR.out])
          | (go_at_call 84; refine (HAt.out).mono ?_; rintro e w' ⟨i, rfl, hi, rfl⟩; obtain rfl := atQ_uniq HWF.out hi HFD.out HK.out; clear hi)
          | (go_at_call 86; refine (befall_m _ q _ av fl D H.out hc hal).mono ?_; rintro e w2 ⟨u2, rfl, hq2, e2, hk2⟩; rw [HDO.out]; have d2 := hq2.cells.cell 2 rfl; have d1 := e2.cell Y1 (fun e => H.out.apq g (.inl (by simp [inFoot, foot])) e); have hb2 := (HYB.out.ext e2 (fun j hj e => HYQ.out j hj e)); have HQ2 := Lib.hid hq2; have HE2 := Lib.hid e2; have HK2 := Lib.hid hk2; have HB2 := Lib.hid hb2; clear hq2 e2 hk2 hb2 c2 Y1))
        have eX : Ext Nil w2 (w2.alloc (.cells #[.string s, .slice none 0 0, .int .i64 (m : Int)] 132 (0, 0))) := (Ext.refl _ _).alloc _
        have pb := At.new w2 [.string s, .slice none 0 0, .int .i64 (m : Int)] 132
        have sX : (w2.alloc (.cells #[.string s, .slice none 0 0, .int .i64 (m : Int)] 132 (0, 0))).heap.size = w2.heap.size + 1 := by simp
        have hq2l := HQ2.out.cells.lt
        have hg2l : g < w2.heap.size := (cell_spot d1).2
        have HEX := Lib.hid eX; have HPB := Lib.hid pb; have HSX := Lib.hid sX
        have d2x := eX.cell d2 fun h => h
        have d1x := eX.cell d1 fun h => h
        have p1 := pb.cell 1 rfl
        have hbX := (HB2.out.ext eX fun _ _ h => h).take m hmf
        clear eX pb sX d2 d1
        generalize w2.alloc (.cells #[.string s, .slice none 0 0, .int .i64 (m : Int)] 132 (0, 0)) = X at *
        obtain ⟨ao3, cap3, w3, hrun, q1, q2, O3, S3⟩ := run_appendB (w := X.drew) (v := .slice none 0 0) (l := []) (Own.nil _ _ _) (hbX.ext (F := Nil) (Ext.refl Nil X).drew fun _ _ h => h) (by rw [HLM.out]; unfold Fits; simp; omega) 31
        simp only [List.length_nil, Nat.zero_add, HLM.out, List.nil_append] at hrun O3 S3 q1
        have S3 : Step Nil X (inFoot (.slice ao3 m cap3)) w3 := ⟨((Ext.refl Nil X).drew).same (S3.1.mono fun i _ h => by simp [inFoot, foot] at h), fun i hi => (S3.2 i hi).imp (fun h => by simp [inFoot, foot] at h) id⟩
        have pb3 := HPB.out.ext S3.1 fun h => h
        have y1 := pb3.cell 1 rfl
        have z1 := pb3.frozen 1
        have d2y := S3.1.cell d2x fun h => h
        have d1y := S3.1.cell d1x fun h => h
        have n1 : (⟨w2.heap.size, 1, none⟩ : Addr) ≠ ⟨q, 2, none⟩ := by intro e; simp only [Addr.mk.injEq] at e; omega
        have n2 : (⟨w2.heap.size, 1, none⟩ : Addr) ≠ ⟨g, k * 3 + 1, none⟩ := by intro e; simp only [Addr.mk.injEq] at e; omega
        have HY2 := Lib.hid (And.intro d2y d1y)
        have HPZ := Lib.hid (pb3.set 1 (.slice ao3 m cap3))
        have HFR := Lib.hid (fun i (hi : inFoot (.slice ao3 m cap3) i) => by have h9 := (S3.2 i hi).resolve_left fun h => h; rw [HSX.out] at h9; exact (show w2.heap.size < i by omega))
        have HOL := Lib.hid (fun i (hi : inFoot (.slice ao3 m cap3) i) => O3.lt i hi)
        have HOW := Lib.hid (O3.ext (F := One w2.heap.size) ((Ext.refl (One w2.heap.size) w3).setCell (p := ⟨w2.heap.size, 1, none⟩) (fun _ => rfl) (.slice ao3 m cap3)) fun i hi e => by have e : i = w2.heap.size := e; have := HFR.out i hi; omega)
        have HEW := Lib.hid ((HEX.out.same S3.1).setCell (p := ⟨w2.heap.size, 1, none⟩) (fun h => absurd h (Nat.lt_irrefl _)) (.slice ao3 m cap3))
        clear hbX O3 S3 pb3 d2y d1y
        refine wp_region_held_drew (S := fun w' => w'.cell? ⟨q, 2, none⟩ = some (.slice (some ⟨g, 0, none⟩) fl.length (c + 1)) ∧ w'.cell? ⟨g, k * 3 + 1, none⟩ = some (.slice by_ f.b.length cy)) (by kernel_rfl) ⟨d2x, d1x⟩ (fun hHeld => ?_)
        refine wpAnyH_take (i := 0) (v := .pointer (some ⟨w2.heap.size, 1, none⟩)) rfl (by kernel_rfl) (by kernel_rfl) (by kernel_rfl) (fun _ _ _ h => h) (Or.inl ⟨by rfl, ?y1⟩) (by assumption) ?r1
        case y1 => (intro w hSw; obtain ⟨s1, s2⟩ := hSw; go_simp)
        simp only [Act.put]
        refine wpAnyH_take (i := 2) (v := .pointer (some ⟨q, 0, none⟩)) rfl (by kernel_rfl) (by kernel_rfl) (by kernel_rfl) (fun _ _ _ h => h) (Or.inl ⟨by rfl, ?y2⟩) (by assumption) ?r2
        case y2 => (intro w hSw; obtain ⟨s1, s2⟩ := hSw; go_simp)
        simp only [Act.put]
        refine wpAnyH_take (i := 3) (v := .pointer (some ⟨q, 0, none⟩)) rfl (by kernel_rfl) (by kernel_rfl) (by kernel_rfl) (fun _ _ _ h => h) (Or.inl ⟨by rfl, ?y3⟩) (by assumption) ?r3
        case y3 => (intro w hSw; obtain ⟨s1, s2⟩ := hSw; go_simp)
        simp only [Act.put]
        refine wpAnyH_take (i := 4) (v := .pointer (some ⟨q, 2, none⟩)) rfl (by kernel_rfl) (by kernel_rfl) (by kernel_rfl) (fun _ _ _ h => h) (Or.inl ⟨by rfl, ?y4⟩) (by assumption) ?r4
        case y4 => (intro w hSw; obtain ⟨s1, s2⟩ := hSw; go_simp)
        simp only [Act.put]
        refine wpAnyH_take (i := 5) (v := .slice (some ⟨g, 0, none⟩) fl.length (c + 1)) rfl (by kernel_rfl) (by kernel_rfl) (by kernel_rfl) (fun _ _ _ h => h) (Or.inl ⟨by rfl, ?y5⟩) (by assumption) ?r5
        case y5 => (intro w hSw; obtain ⟨s1, s2⟩ := hSw; go_simp)
        simp only [Act.put]
        refine wpAnyH_take (i := 6) (v := .int .i64 (k : Int)) rfl (by kernel_rfl) (by kernel_rfl) (by kernel_rfl) (fun _ _ _ h => h) (Or.inl ⟨by rfl, ?y6⟩) (by assumption) ?r6
        case y6 => (intro w hSw; obtain ⟨s1, s2⟩ := hSw; go_simp)
        simp only [Act.put]
        refine wpAnyH_take (i := 7) (v := .pointer (some ⟨g, k * 3, none⟩)) rfl (by kernel_rfl) (by kernel_rfl) (by kernel_rfl) (fun _ _ _ h => h) (Or.inl ⟨by rfl, ?y7⟩) (by assumption) ?r7
        case y7 => (intro w hSw; obtain ⟨s1, s2⟩ := hSw; go_simp)
        simp only [Act.put]
        refine wpAnyH_take (i := 8) (v := .pointer (some ⟨g, k * 3 + 1, none⟩)) rfl (by kernel_rfl) (by kernel_rfl) (by kernel_rfl) (fun _ _ _ h => h) (Or.inl ⟨by rfl, ?y8⟩) (by assumption) ?r8
        case y8 => (intro w hSw; obtain ⟨s1, s2⟩ := hSw; go_simp)
        simp only [Act.put]
        refine wpAnyH_take (i := 9) (v := .slice by_ f.b.length cy) rfl (by kernel_rfl) (by kernel_rfl) (by kernel_rfl) (fun _ _ _ h => h) (Or.inl ⟨by rfl, ?y9⟩) (by assumption) ?r9
        case y9 => (intro w hSw; obtain ⟨s1, s2⟩ := hSw; go_simp)
        simp only [Act.put]
        refine wpAnyH_take (i := 10) (v := .int .i64 (m : Int)) rfl (by kernel_rfl) (by kernel_rfl) (by kernel_rfl) (fun _ _ _ h => h) (Or.inl ⟨by rfl, ?y10⟩) (by assumption) ?r10
        case y10 => (intro w hSw; obtain ⟨s1, s2⟩ := hSw; go_simp)
        simp only [Act.put]
        refine wpAnyH_take (i := 11) (v := .slice by_ m cy) rfl (by kernel_rfl) (by kernel_rfl) (by kernel_rfl) (fun _ _ _ h => h) (Or.inl ⟨by rfl, ?y11⟩) (by assumption) ?r11
        case y11 => (intro w hSw; obtain ⟨s1, s2⟩ := hSw; go_simp)
        simp only [Act.put]
        refine wpAnyH_ready (rs := [1]) (by kernel_rfl) (by simp) (AllReadyH.cons rfl (fun K hK => ?_) AllReadyH.nil)
        go_simp
        refine hK.out _ _ ⟨d2x, d1x⟩ (fun hHeld => ?_)
        clear hK K
        refine wpAnyH_ready (rs := [12]) (by kernel_rfl) (by simp) (AllReadyH.cons rfl (fun K hK => ?_) AllReadyH.nil)
        refine step_append_run rfl _ _ _ _ rfl _ _ _ rfl rfl hrun ?_
        refine hK.out _ _ HY2.out (fun hHeld => ?_)
        clear hK K
        simp only [Act.put]
        refine wpAnyH_take (i := 13) (v := .pointer (some ⟨w2.heap.size, 1, none⟩)) rfl (by kernel_rfl) (by kernel_rfl) (by kernel_rfl) (fun _ _ _ h => h) (Or.inl ⟨by rfl, ?y12⟩) (by assumption) ?r12
        case y12 => (intro w hSw; obtain ⟨s1, s2⟩ := hSw; go_simp)
        simp only [Act.put]
        refine wpAnyH_ready (rs := [14]) (by kernel_rfl) (by simp) (AllReadyH.cons rfl (fun K hK => ?_) AllReadyH.nil)
        go_simp
        refine hK.out _ _ ⟨(World.cell?_setCell_other _ _ _ _ n1).trans HY2.out.1, (World.cell?_setCell_other _ _ _ _ n2).trans HY2.out.2⟩ (fun hHeld => ?_)
        clear hK K
        refine wpAnyH_done (by kernel_rfl) ?_ _
        have r0 := HPZ.out.cell 0 rfl
        have r1 := HPZ.out.cell 1 rfl
        have r2 := HPZ.out.cell 2 rfl
        go_wp2_with (first
          | (go_at_call 87; refine (qput_m _ q _ u2 fl (befD D) (HQ2.out.ext0 HEW.out) ⟨⟨s.data.toList, f.b.take m, m⟩, .slice ao3 m cap3⟩ HOW.out.bytes (fun i hi => ⟨by have := HOL.out i hi; simpa [World.setCell] using this, by have := HFR.out i hi; omega, fun hu => by have := HFR.out i hi; have := HQ2.out.arms.lt i hu; omega⟩) HPW.out).mono ?_; rintro e w5 ⟨rfl, u5, fl5, hq5, e5, hk5⟩; rw [befD_put] at hq5; have HQ5 := Lib.hid hq5; have HE5 := Lib.hid e5; have HK5 := Lib.hid hk5; clear hq5 e5 hk5))
        go_ret
        rw [HDN.out]
        exact QActed.of (fv' := u5) (av' := u2) (fl' := fl5) HQ5.out (((HE2.out.trans HEW.out fun _ _ h => h.elim)).same HE5.out) (by
          have hs2 := HE2.out.size
          have hs3 := HEW.out.size
          rintro i (hi | hi | hi)
          · exact .inl (.inl hi)
          · rcases HK5.out i hi with h | h | h
            · exact .inl (.inr (.inl h))
            · have := HFR.out i h
              exact .inr (by omega)
            · exact .inr (by omega)
          · exact .inr (HK2.out i hi))
    | none =>
      have hsk := seek_none hr hfd
      have e1 := cut_seek D s.data.toList n (by omega)
      rw [hsk] at e1
      rw [e1]
      have HR := Lib.hid hr; have HFD := Lib.hid hfd; have HQD := Lib.hid hQD
      clear hr hfd h hsk e1 hQD
      go_enter Try.func100, Try.ntmps100
      go_wp2_with (first
        | (go_at_call 83; refine (HAsk.out).mono ?_; rintro e w' ⟨rfl, rfl⟩; rw [HR.out])
        | (go_at_call 84; refine (HAt.out).mono ?_; rintro e w' ⟨i, rfl, hi, rfl⟩; obtain rfl := atQ_none hi HFD.out; clear hi))
      go_ret
      exact QActed.same HQD.out (Ext.refl _ _) _
  · have hsk := seek_refused hr
    have e1 := cut_seek D s.data.toList n (by omega)
    rw [hsk] at e1
    rw [e1]
    generalize hR : D.refuse s.data.toList = R at *
    have hne : (R != 0) = true := by rw [bne_iff_ne]; exact hr
    have HQD := Lib.hid hQD
    clear hr hR hsk e1 HAt h hQD
    go_enter Try.func100, Try.ntmps100
    go_wp2_with (go_at_call 83; refine (HAsk.out).mono ?_; rintro e w' ⟨rfl, rfl⟩)
    go_ret
    exact QActed.same HQD.out (Ext.refl _ _) _
end Go.Proofs.Ytnppneilbkmnfaa
namespace Go.Proofs.Ytnppneilbkmnfaa
open Go.RowKit

theorem qarm_off_m (w : World) (q : Nat) (D : Dk) (G : Nat → Prop) (hQ : QDisk w q D G) (a k : Int) (b : Bool) (ho : D.off = true) :
    Calls Try.prog 80 #[.pointer (some ⟨q, 0, none⟩), .agg #[.int .i64 a, .int .i64 k, .bool b]] w (QActed w q G (D.arm a k b)) := by
  have hdef : D.arm a k b = (D, 63) := by unfold Dk.arm; rw [if_pos ho]
  rw [hdef]
  have hQQ := hQ
  obtain ⟨fv, av, fl, h, rfl⟩ := hQ
  have eW : Ext Nil w (w.alloc (.cells #[.int .i64 a, .int .i64 k, .bool b] 29 (0, 0))) := (Ext.refl _ _).alloc _
  have hW := h.ext0 eW
  have c4 := hW.cells.cell 4 rfl
  rw [ho] at c4
  go_enter Try.func80, Try.ntmps80
  go_wp2_with (go_at_call 74; refine (good_m _ q fv av fl D hW).mono ?_; rintro e w' ⟨rfl, rfl⟩)
  go_ret
  exact QActed.same hQQ eW _
theorem qarm_bad_m (w : World) (q : Nat) (D : Dk) (G : Nat → Prop) (hQ : QDisk w q D G) (a k : Int) (b : Bool) (ho : D.off = false) (hbad : a < 1 ∨ 4294967296 < a ∨ (k ≠ 1 ∧ k ≠ 2) ∨ (b = true ∧ k = 1)) :
    Calls Try.prog 80 #[.pointer (some ⟨q, 0, none⟩), .agg #[.int .i64 a, .int .i64 k, .bool b]] w (QActed w q G (D.arm a k b)) := by
  have hdef : D.arm a k b = (D, 2) := by unfold Dk.arm; rw [if_neg (by simp [ho]), if_pos hbad]
  rw [hdef]
  have hQQ := hQ
  obtain ⟨fv, av, fl, h, rfl⟩ := hQ
  have eW : Ext Nil w (w.alloc (.cells #[.int .i64 a, .int .i64 k, .bool b] 29 (0, 0))) := (Ext.refl _ _).alloc _
  have hW := h.ext0 eW
  have c4 := hW.cells.cell 4 rfl
  rw [ho] at c4
  by_cases h1 : a < 1
  · clear hbad
    go_enter Try.func80, Try.ntmps80
    go_wp2_with (go_at_call 74; refine (good_m _ q fv av fl D hW).mono ?_; rintro e w' ⟨rfl, rfl⟩)
    go_ret
    exact QActed.same hQQ eW _
  · have h1 : 1 ≤ a := by omega
    by_cases h2 : 4294967296 < a
    · clear hbad
      go_enter Try.func80, Try.ntmps80
      go_wp2_with (go_at_call 74; refine (good_m _ q fv av fl D hW).mono ?_; rintro e w' ⟨rfl, rfl⟩)
      go_ret
      exact QActed.same hQQ eW _
    · have h2 : a ≤ 4294967296 := by omega
      by_cases h3 : k = 1
      · have hb : b = true := by
          rcases hbad with h | h | h | h
          · omega
          · omega
          · omega
          · exact h.1
        subst h3 hb
        clear hbad
        go_enter Try.func80, Try.ntmps80
        go_wp2_with (go_at_call 74; refine (good_m _ q fv av fl D hW).mono ?_; rintro e w' ⟨rfl, rfl⟩)
        go_ret
        exact QActed.same hQQ eW _
      · have h4 : k ≠ 2 := by
          rcases hbad with h | h | h | h
          · omega
          · omega
          · exact h.2
          · exact absurd h.2 h3
        have n1 : (k != 1) = true := by rw [bne_iff_ne]; exact h3
        have n2 : (k != 2) = true := by rw [bne_iff_ne]; exact h4
        clear hbad h3 h4
        go_enter Try.func80, Try.ntmps80
        go_wp2_with (go_at_call 74; refine (good_m _ q fv av fl D hW).mono ?_; rintro e w' ⟨rfl, rfl⟩)
        go_ret
        exact QActed.same hQQ eW _

/-- what turns when a trouble is laid behind the others -/
theorem QAt.armed {w X w1 : World} {q : Nat} {fv av : Value} {fl : List TI} {D : Dk} (h : QAt w q fv av fl D) (e : Ext Nil w X) (v' : Value) (a : ArmM) (hR : Row kArm w1 v' (D.arms ++ [a])) (hS : Step (inFoot av) X (inFoot v') w1) (ha : (a.kind = 1 ∨ a.kind = 2) ∧ 1 ≤ a.tat ∧ a.tat ≤ 4294967296) :
    QAt (w1.setCell ⟨q, 6, none⟩ v') q fv v' fl { D with arms := D.arms ++ [a] } ∧ Step (qbl q fv av fl) w (qbl q fv v' fl) (w1.setCell ⟨q, 6, none⟩ v') := by
  have hX := h.ext0 e
  have hq := hX.cells.lt
  have e1 : Ext (fun k => k = q ∨ inFoot av k) X (w1.setCell ⟨q, 6, none⟩ v') := (hS.1.mono fun _ _ h => .inr h).setCell (p := ⟨q, 6, none⟩) (fun _ => .inl rfl) v'
  have hvq : ∀ k, inFoot v' k → k ≠ q ∧ ¬ feet kQ fv fl k := fun k hk => (hS.2 k hk).elim (fun hu => h.apa k hu) fun hu => ⟨by omega, fun hf => by have := hX.files.feet_lt k hf; omega⟩
  refine ⟨⟨(hX.cells.ext hS.1 fun hu => (h.apa q hu).1 rfl).set 6 v', hX.files.extF e1 fun k hk hf => hf.elim (h.apq k hk) fun hu => (h.apa k hu).2 hk, h.same, hR.extA (F := One q) ((Ext.refl (One q) w1).setCell (p := ⟨q, 6, none⟩) (fun _ => (rfl : q = q)) v') fun k hk ek => (hvq k hk).1 ek, h.apq, hvq,
    ⟨h.wf.rises, h.wf.lim0, h.wf.lim1, h.wf.used, h.wf.synced, h.wf.names, h.wf.count, fun x hx => ?_, h.wf.outOff⟩⟩, ?_, ?_⟩
  · rcases List.mem_append.1 hx with hx | hx
    · exact h.wf.kinds x hx
    · rw [List.mem_singleton] at hx
      subst hx
      exact ha
  · exact (e.mono fun _ _ h => h.elim).trans e1 fun i _ hi => hi.elim (fun h => .inl h) fun h => .inr (.inr h)
  · rintro k (hk | hk | hk)
    · exact .inl (.inl hk)
    · exact .inl (.inr (.inl hk))
    · exact (hS.2 k hk).elim (fun h => .inl (.inr (.inr h))) fun h => .inr (Nat.le_trans e.size h)

set_option maxRecDepth 20000 in
set_option maxHeartbeats 2000000 in
theorem qarm_ok_m (w : World) (q : Nat) (D : Dk) (G : Nat → Prop) (hQ : QDisk w q D G) (hc : D.calls ≤ 1099511627776) (hal : D.arms.length ≤ 1099511627776) (a k : Int) (b : Bool) (ho : D.off = false) (h1 : 1 ≤ a) (h2 : a ≤ 4294967296) (hkb : k = 1 ∧ b = false ∨ k = 2) :
    Calls Try.prog 80 #[.pointer (some ⟨q, 0, none⟩), .agg #[.int .i64 a, .int .i64 k, .bool b]] w (QActed w q G (D.arm a k b)) := by
  obtain ⟨m, rfl⟩ := Int.eq_ofNat_of_zero_le (show 0 ≤ a by omega)
  have hdef : D.arm m k b = ({ D with arms := D.arms ++ [⟨D.calls + m, m, k, b⟩] }, 0) := by
    unfold Dk.arm
    rw [if_neg (by simp [ho]), if_neg]
    · rfl
    · rintro (h | h | h | h)
      · omega
      · omega
      · omega
      · rcases hkb with h' | h'
        · rw [h'.2] at h; cases h.1
        · omega
  rw [hdef]
  clear hdef
  obtain ⟨fv, av, fl, h, rfl⟩ := hQ
  have eW : Ext Nil w (w.alloc (.cells #[.int .i64 m, .int .i64 k, .bool b] 29 (0, 0))) := (Ext.refl _ _).alloc _
  have hW := h.ext0 eW
  have c4 := hW.cells.cell 4 rfl
  rw [ho] at c4
  obtain ⟨ao, cap, rfl, hcap, hcm⟩ := h.arms.shape
  have b6 := hW.cells.cell 6 rfl
  have b5 := hW.cells.cell 3 rfl
  have f6 := hW.cells.frozen 6
  have hN := At.new w [.int .i64 m, .int .i64 k, .bool b] 29
  have b0 := hN.cell 0 rfl
  have b1 := hN.cell 1 rfl
  have b2 := hN.cell 2 rfl
  have hd := h.cells.lt
  obtain ⟨J, hJ⟩ : ∃ J : Nat, J = D.calls + m := ⟨_, rfl⟩
  have hw1 : IntKind.i64.wrap ((D.calls : Int) + (m : Int)) = (J : Int) := by rw [IntWalk.i64_in _ (by omega)]; omega
  -- the new trouble's block, the append, what turns
  have hrunX : ∃ ao2 cap2 w1, (Builtin.append_ #[129, 129] 129 #[.slice ao D.arms.length cap, .slice (some ⟨w.heap.size + 1, 0, none⟩) 1 1]).run Try.prog (((w.alloc (.cells #[.int .i64 m, .int .i64 k, .bool b] 29 (0, 0))).alloc (.cells #[.int .i64 J, .int .i64 m, .int .i64 k, .bool b] 144 (0, 0))).drew) = .ok (.slice ao2 (D.arms.length + 1) cap2) w1 ∧
      Ext (inFoot (.slice ao D.arms.length cap)) (w.alloc (.cells #[.int .i64 m, .int .i64 k, .bool b] 29 (0, 0))) w1 ∧
      ∃ av', QAt (w1.setCell ⟨q, 6, none⟩ (.slice ao2 (D.arms.length + 1) cap2)) q fv av' fl { D with arms := D.arms ++ [⟨D.calls + m, m, k, b⟩] } ∧ Step (qbl q fv (.slice ao D.arms.length cap) fl) w (qbl q fv av' fl) (w1.setCell ⟨q, 6, none⟩ (.slice ao2 (D.arms.length + 1) cap2)) := by
    have hs1 : (w.alloc (.cells #[.int .i64 m, .int .i64 k, .bool b] 29 (0, 0))).drew.heap.size = w.heap.size + 1 := by
      show (w.alloc (.cells #[.int .i64 m, .int .i64 k, .bool b] 29 (0, 0))).heap.size = _
      simp
    obtain ⟨ao2, cap2, w1, hr, hR1, hS1⟩ := arm_next (hW.arms.ext0 (Ext.refl Nil _).drew) ⟨J, m, k, b⟩ hal 129
    rw [hs1] at hr
    have hS1 : Step _ (w.alloc (.cells #[.int .i64 m, .int .i64 k, .bool b] 29 (0, 0))) _ w1 := ⟨(Ext.refl _ _).drew.same hS1.1, hS1.2⟩
    have hA := h.armed eW _ ⟨J, m, k, b⟩ hR1 hS1 ⟨by rcases hkb with h | h <;> simp [h], by show 1 ≤ (m : Int); omega, by show (m : Int) ≤ 4294967296; omega⟩
    rw [hJ] at hA
    exact ⟨ao2, cap2, w1, hr, hS1.1, _, hA⟩
  obtain ⟨ao2, cap2, w1, hrun, hS1, hEND⟩ := hrunX
  have eX := (Ext.refl Nil (w.alloc (.cells #[.int .i64 m, .int .i64 k, .bool b] 29 (0, 0)))).alloc (.cells #[.int .i64 J, .int .i64 m, .int .i64 k, .bool b] 144 (0, 0))
  have hAf : ∀ k, inFoot (.slice ao D.arms.length cap) k → k < w.heap.size := h.arms.lt
  have hbf : ¬ inFoot (.slice ao D.arms.length cap) w.heap.size := fun e => by have := hAf _ e; omega
  have hqf : ¬ inFoot (.slice ao D.arms.length cap) q := fun e => (h.apa q e).1 rfl
  have x0 := eX.cell b0 fun h => h
  have x1 := eX.cell b1 fun h => h
  have x2 := eX.cell b2 fun h => h
  have x5 := eX.cell b5 fun h => h
  have x6 := eX.cell b6 fun h => h
  have y0 := hS1.cell b0 hbf
  have y1 := hS1.cell b1 hbf
  have y2 := hS1.cell b2 hbf
  have y5 := hS1.cell b5 hqf
  have AX := hW.cells.ext hS1 hqf
  have z6 := AX.cell 6 rfl
  have zf := AX.frozen 6
  have HEND := Lib.hid hEND; have HJ := Lib.hid hJ; have HAF := Lib.hid hAf; have HS1 := Lib.hid hS1
  clear hEND hJ hAf hS1 AX hN eX hbf hqf
  rcases hkb with ⟨rfl, rfl⟩ | rfl
  all_goals try cases b
  all_goals
    go_enter Try.func80, Try.ntmps80
    go_wp2_with (go_at_call 74; refine (good_m _ q fv _ fl D hW).mono ?_; rintro e w' ⟨rfl, rfl⟩)
  · refine wp_region_held_drew (S := fun w' => w'.cell? ⟨w.heap.size, 0, none⟩ = some (.int .i64 m) ∧ w'.cell? ⟨w.heap.size, 1, none⟩ = some (.int .i64 1) ∧ w'.cell? ⟨w.heap.size, 2, none⟩ = some (.bool false) ∧ w'.cell? ⟨q, 3, none⟩ = some (.int .i64 D.calls)) (by kernel_rfl) ⟨b0, b1, b2, b5⟩ (fun hHeld => ?_)
    refine wpAnyH_take (i := 0) (v := .pointer (some ⟨q, 0, none⟩)) rfl (by kernel_rfl) (by kernel_rfl) (by kernel_rfl) (fun _ _ _ h => h) (Or.inl ⟨by rfl, ?y1⟩) (by assumption) ?r1
    case y1 => (intro w hSw; obtain ⟨s1, s2, s3, s4⟩ := hSw; go_simp)
    simp only [Act.put]
    refine wpAnyH_take (i := 1) (v := .pointer (some ⟨q, 0, none⟩)) rfl (by kernel_rfl) (by kernel_rfl) (by kernel_rfl) (fun _ _ _ h => h) (Or.inl ⟨by rfl, ?y2⟩) (by assumption) ?r2
    case y2 => (intro w hSw; obtain ⟨s1, s2, s3, s4⟩ := hSw; go_simp)
    simp only [Act.put]
    refine wpAnyH_take (i := 2) (v := .pointer (some ⟨q, 0, none⟩)) rfl (by kernel_rfl) (by kernel_rfl) (by kernel_rfl) (fun _ _ _ h => h) (Or.inl ⟨by rfl, ?y3⟩) (by assumption) ?r3
    case y3 => (intro w hSw; obtain ⟨s1, s2, s3, s4⟩ := hSw; go_simp)
    simp only [Act.put]
    refine wpAnyH_take (i := 3) (v := .pointer (some ⟨q, 6, none⟩)) rfl (by kernel_rfl) (by kernel_rfl) (by kernel_rfl) (fun _ _ _ h => h) (Or.inl ⟨by rfl, ?y4⟩) (by assumption) ?r4
    case y4 => (intro w hSw; obtain ⟨s1, s2, s3, s4⟩ := hSw; go_simp)
    simp only [Act.put]
    refine wpAnyH_take (i := 5) (v := .pointer (some ⟨q, 0, none⟩)) rfl (by kernel_rfl) (by kernel_rfl) (by kernel_rfl) (fun _ _ _ h => h) (Or.inl ⟨by rfl, ?y5⟩) (by assumption) ?r5
    case y5 => (intro w hSw; obtain ⟨s1, s2, s3, s4⟩ := hSw; go_simp)
    simp only [Act.put]
    refine wpAnyH_take (i := 6) (v := .pointer (some ⟨q, 0, none⟩)) rfl (by kernel_rfl) (by kernel_rfl) (by kernel_rfl) (fun _ _ _ h => h) (Or.inl ⟨by rfl, ?y6⟩) (by assumption) ?r6
    case y6 => (intro w hSw; obtain ⟨s1, s2, s3, s4⟩ := hSw; go_simp)
    simp only [Act.put]
    refine wpAnyH_take (i := 7) (v := .pointer (some ⟨q, 3, none⟩)) rfl (by kernel_rfl) (by kernel_rfl) (by kernel_rfl) (fun _ _ _ h => h) (Or.inl ⟨by rfl, ?y7⟩) (by assumption) ?r7
    case y7 => (intro w hSw; obtain ⟨s1, s2, s3, s4⟩ := hSw; go_simp)
    simp only [Act.put]
    refine wpAnyH_take (i := 8) (v := .int .i64 D.calls) rfl (by kernel_rfl) (by kernel_rfl) (by kernel_rfl) (fun _ _ _ h => h) (Or.inl ⟨by rfl, ?y8⟩) (by assumption) ?r8
    case y8 => (intro w hSw; obtain ⟨s1, s2, s3, s4⟩ := hSw; go_simp)
    simp only [Act.put]
    refine wpAnyH_take (i := 9) (v := .pointer (some ⟨w.heap.size, 0, none⟩)) rfl (by kernel_rfl) (by kernel_rfl) (by kernel_rfl) (fun _ _ _ h => h) (Or.inl ⟨by rfl, ?y9⟩) (by assumption) ?r9
    case y9 => (intro w hSw; obtain ⟨s1, s2, s3, s4⟩ := hSw; go_simp)
    simp only [Act.put]
    refine wpAnyH_take (i := 10) (v := .int .i64 m) rfl (by kernel_rfl) (by kernel_rfl) (by kernel_rfl) (fun _ _ _ h => h) (Or.inl ⟨by rfl, ?y10⟩) (by assumption) ?r10
    case y10 => (intro w hSw; obtain ⟨s1, s2, s3, s4⟩ := hSw; go_simp)
    simp only [Act.put]
    refine wpAnyH_take (i := 11) (v := .int .i64 J) rfl (by kernel_rfl) (by kernel_rfl) (by kernel_rfl) (fun _ _ _ h => h) (Or.inl ⟨by rfl, ?y11⟩) (by assumption) ?r11
    case y11 => (intro w hSw; obtain ⟨s1, s2, s3, s4⟩ := hSw; go_simp)
    simp only [Act.put]
    refine wpAnyH_take (i := 12) (v := .agg #[.int .i64 m, .int .i64 1, .bool false]) rfl (by kernel_rfl) (by kernel_rfl) (by kernel_rfl) (fun _ _ _ h => h) (Or.inl ⟨by rfl, ?y12⟩) (by assumption) ?r12
    case y12 => (intro w hSw; obtain ⟨s1, s2, s3, s4⟩ := hSw; go_simp)
    simp only [Act.put]
    refine wpAnyH_take (i := 13) (v := .agg #[.int .i64 J, .int .i64 m, .int .i64 1, .bool false]) rfl (by kernel_rfl) (by kernel_rfl) (by kernel_rfl) (fun _ _ _ h => h) (Or.inl ⟨by rfl, ?y13⟩) (by assumption) ?r13
    case y13 => (intro w hSw; obtain ⟨s1, s2, s3, s4⟩ := hSw; go_simp)
    simp only [Act.put]
    refine wpAnyH_ready (rs := [4, 14]) (by kernel_rfl) (by simp) (AllReadyH.cons rfl (fun K hK => ?o4) (AllReadyH.cons rfl (fun K hK => ?o14) AllReadyH.nil))
    case o4 =>
      go_simp
      refine hK.out _ _ ⟨b0, b1, b2, b5⟩ (fun hHeld => ?_)
      clear hK K
      refine wpAnyH_ready (rs := [14]) (by kernel_rfl) (by simp) (AllReadyH.cons rfl (fun K hK => ?_) AllReadyH.nil)
      go_simp
      refine hK.out _ _ ⟨x0, x1, x2, x5⟩ (fun hHeld => ?_)
      clear hK K
      refine wpAnyH_ready (rs := [15]) (by kernel_rfl) (by simp) (AllReadyH.cons rfl (fun K hK => ?_) AllReadyH.nil)
      refine step_append_run rfl _ _ _ _ rfl _ _ _ rfl rfl hrun ?_
      refine hK.out _ _ ⟨y0, y1, y2, y5⟩ (fun hHeld => ?_)
      clear hK K
      simp only [Act.put]
      refine wpAnyH_take (i := 16) (v := .pointer (some ⟨q, 0, none⟩)) rfl (by kernel_rfl) (by kernel_rfl) (by kernel_rfl) (fun _ _ _ h => h) (Or.inl ⟨by rfl, ?y14⟩) (by assumption) ?r14
      case y14 => (intro w hSw; obtain ⟨s1, s2, s3, s4⟩ := hSw; go_simp)
      simp only [Act.put]
      refine wpAnyH_take (i := 17) (v := .pointer (some ⟨q, 6, none⟩)) rfl (by kernel_rfl) (by kernel_rfl) (by kernel_rfl) (fun _ _ _ h => h) (Or.inl ⟨by rfl, ?y15⟩) (by assumption) ?r15
      case y15 => (intro w hSw; obtain ⟨s1, s2, s3, s4⟩ := hSw; go_simp)
      simp only [Act.put]
      refine wpAnyH_ready (rs := [18]) (by kernel_rfl) (by simp) (AllReadyH.cons rfl (fun K hK => ?_) AllReadyH.nil)
      go_simp
      refine hK.out _ _ ⟨(World.cell?_setCell_other _ _ _ _ (by simp)).trans y0, (World.cell?_setCell_other _ _ _ _ (by simp)).trans y1, (World.cell?_setCell_other _ _ _ _ (by simp)).trans y2, (World.cell?_setCell_other _ _ _ _ (by simp)).trans y5⟩ (fun hHeld => ?_)
      clear hK K
      refine wpAnyH_done (by kernel_rfl) ?_ _
      go_wp2_with fail
      go_ret
      obtain ⟨av', g1, g2⟩ := HEND.out
      exact ⟨rfl, _, ⟨fv, av', fl, g1, rfl⟩, g2⟩
    case o14 =>
      go_simp
      refine hK.out _ _ ⟨x0, x1, x2, x5⟩ (fun hHeld => ?_)
      clear hK K
      refine wpAnyH_ready (rs := [4]) (by kernel_rfl) (by simp) (AllReadyH.cons rfl (fun K hK => ?_) AllReadyH.nil)
      go_simp
      refine hK.out _ _ ⟨x0, x1, x2, x5⟩ (fun hHeld => ?_)
      clear hK K
      refine wpAnyH_ready (rs := [15]) (by kernel_rfl) (by simp) (AllReadyH.cons rfl (fun K hK => ?_) AllReadyH.nil)
      refine step_append_run rfl _ _ _ _ rfl _ _ _ rfl rfl hrun ?_
      refine hK.out _ _ ⟨y0, y1, y2, y5⟩ (fun hHeld => ?_)
      clear hK K
      simp only [Act.put]
      refine wpAnyH_take (i := 16) (v := .pointer (some ⟨q, 0, none⟩)) rfl (by kernel_rfl) (by kernel_rfl) (by kernel_rfl) (fun _ _ _ h => h) (Or.inl ⟨by rfl, ?yq14⟩) (by assumption) ?rq14
      case yq14 => (intro w hSw; obtain ⟨s1, s2, s3, s4⟩ := hSw; go_simp)
      simp only [Act.put]
      refine wpAnyH_take (i := 17) (v := .pointer (some ⟨q, 6, none⟩)) rfl (by kernel_rfl) (by kernel_rfl) (by kernel_rfl) (fun _ _ _ h => h) (Or.inl ⟨by rfl, ?yq15⟩) (by assumption) ?rq15
      case yq15 => (intro w hSw; obtain ⟨s1, s2, s3, s4⟩ := hSw; go_simp)
      simp only [Act.put]
      refine wpAnyH_ready (rs := [18]) (by kernel_rfl) (by simp) (AllReadyH.cons rfl (fun K hK => ?_) AllReadyH.nil)
      go_simp
      refine hK.out _ _ ⟨(World.cell?_setCell_other _ _ _ _ (by simp)).trans y0, (World.cell?_setCell_other _ _ _ _ (by simp)).trans y1, (World.cell?_setCell_other _ _ _ _ (by simp)).trans y2, (World.cell?_setCell_other _ _ _ _ (by simp)).trans y5⟩ (fun hHeld => ?_)
      clear hK K
      refine wpAnyH_done (by kernel_rfl) ?_ _
      go_wp2_with fail
      go_ret
      obtain ⟨av', g1, g2⟩ := HEND.out
      exact ⟨rfl, _, ⟨fv, av', fl, g1, rfl⟩, g2⟩
  · refine wp_region_held_drew (S := fun w' => w'.cell? ⟨w.heap.size, 0, none⟩ = some (.int .i64 m) ∧ w'.cell? ⟨w.heap.size, 1, none⟩ = some (.int .i64 2) ∧ w'.cell? ⟨w.heap.size, 2, none⟩ = some (.bool false) ∧ w'.cell? ⟨q, 3, none⟩ = some (.int .i64 D.calls)) (by kernel_rfl) ⟨b0, b1, b2, b5⟩ (fun hHeld => ?_)
    refine wpAnyH_take (i := 0) (v := .pointer (some ⟨q, 0, none⟩)) rfl (by kernel_rfl) (by kernel_rfl) (by kernel_rfl) (fun _ _ _ h => h) (Or.inl ⟨by rfl, ?y16⟩) (by assumption) ?r16
    case y16 => (intro w hSw; obtain ⟨s1, s2, s3, s4⟩ := hSw; go_simp)
    simp only [Act.put]
    refine wpAnyH_take (i := 1) (v := .pointer (some ⟨q, 0, none⟩)) rfl (by kernel_rfl) (by kernel_rfl) (by kernel_rfl) (fun _ _ _ h => h) (Or.inl ⟨by rfl, ?y17⟩) (by assumption) ?r17
    case y17 => (intro w hSw; obtain ⟨s1, s2, s3, s4⟩ := hSw; go_simp)
    simp only [Act.put]
    refine wpAnyH_take (i := 2) (v := .pointer (some ⟨q, 0, none⟩)) rfl (by kernel_rfl) (by kernel_rfl) (by kernel_rfl) (fun _ _ _ h => h) (Or.inl ⟨by rfl, ?y18⟩) (by assumption) ?r18
    case y18 => (intro w hSw; obtain ⟨s1, s2, s3, s4⟩ := hSw; go_simp)
    simp only [Act.put]
    refine wpAnyH_take (i := 3) (v := .pointer (some ⟨q, 6, none⟩)) rfl (by kernel_rfl) (by kernel_rfl) (by kernel_rfl) (fun _ _ _ h => h) (Or.inl ⟨by rfl, ?y19⟩) (by assumption) ?r19
    case y19 => (intro w hSw; obtain ⟨s1, s2, s3, s4⟩ := hSw; go_simp)
    simp only [Act.put]
    refine wpAnyH_take (i := 5) (v := .pointer (some ⟨q, 0, none⟩)) rfl (by kernel_rfl) (by kernel_rfl) (by kernel_rfl) (fun _ _ _ h => h) (Or.inl ⟨by rfl, ?y20⟩) (by assumption) ?r20
    case y20 => (intro w hSw; obtain ⟨s1, s2, s3, s4⟩ := hSw; go_simp)
    simp only [Act.put]
    refine wpAnyH_take (i := 6) (v := .pointer (some ⟨q, 0, none⟩)) rfl (by kernel_rfl) (by kernel_rfl) (by kernel_rfl) (fun _ _ _ h => h) (Or.inl ⟨by rfl, ?y21⟩) (by assumption) ?r21
    case y21 => (intro w hSw; obtain ⟨s1, s2, s3, s4⟩ := hSw; go_simp)
    simp only [Act.put]
    refine wpAnyH_take (i := 7) (v := .pointer (some ⟨q, 3, none⟩)) rfl (by kernel_rfl) (by kernel_rfl) (by kernel_rfl) (fun _ _ _ h => h) (Or.inl ⟨by rfl, ?y22⟩) (by assumption) ?r22
    case y22 => (intro w hSw; obtain ⟨s1, s2, s3, s4⟩ := hSw; go_simp)
    simp only [Act.put]
    refine wpAnyH_take (i := 8) (v := .int .i64 D.calls) rfl (by kernel_rfl) (by kernel_rfl) (by kernel_rfl) (fun _ _ _ h => h) (Or.inl ⟨by rfl, ?y23⟩) (by assumption) ?r23
    case y23 => (intro w hSw; obtain ⟨s1, s2, s3, s4⟩ := hSw; go_simp)
    simp only [Act.put]
    refine wpAnyH_take (i := 9) (v := .pointer (some ⟨w.heap.size, 0, none⟩)) rfl (by kernel_rfl) (by kernel_rfl) (by kernel_rfl) (fun _ _ _ h => h) (Or.inl ⟨by rfl, ?y24⟩) (by assumption) ?r24
    case y24 => (intro w hSw; obtain ⟨s1, s2, s3, s4⟩ := hSw; go_simp)
    simp only [Act.put]
    refine wpAnyH_take (i := 10) (v := .int .i64 m) rfl (by kernel_rfl) (by kernel_rfl) (by kernel_rfl) (fun _ _ _ h => h) (Or.inl ⟨by rfl, ?y25⟩) (by assumption) ?r25
    case y25 => (intro w hSw; obtain ⟨s1, s2, s3, s4⟩ := hSw; go_simp)
    simp only [Act.put]
    refine wpAnyH_take (i := 11) (v := .int .i64 J) rfl (by kernel_rfl) (by kernel_rfl) (by kernel_rfl) (fun _ _ _ h => h) (Or.inl ⟨by rfl, ?y26⟩) (by assumption) ?r26
    case y26 => (intro w hSw; obtain ⟨s1, s2, s3, s4⟩ := hSw; go_simp)
    simp only [Act.put]
    refine wpAnyH_take (i := 12) (v := .agg #[.int .i64 m, .int .i64 2, .bool false]) rfl (by kernel_rfl) (by kernel_rfl) (by kernel_rfl) (fun _ _ _ h => h) (Or.inl ⟨by rfl, ?y27⟩) (by assumption) ?r27
    case y27 => (intro w hSw; obtain ⟨s1, s2, s3, s4⟩ := hSw; go_simp)
    simp only [Act.put]
    refine wpAnyH_take (i := 13) (v := .agg #[.int .i64 J, .int .i64 m, .int .i64 2, .bool false]) rfl (by kernel_rfl) (by kernel_rfl) (by kernel_rfl) (fun _ _ _ h => h) (Or.inl ⟨by rfl, ?y28⟩) (by assumption) ?r28
    case y28 => (intro w hSw; obtain ⟨s1, s2, s3, s4⟩ := hSw; go_simp)
    simp only [Act.put]
    refine wpAnyH_ready (rs := [4, 14]) (by kernel_rfl) (by simp) (AllReadyH.cons rfl (fun K hK => ?o4) (AllReadyH.cons rfl (fun K hK => ?o14) AllReadyH.nil))
    case o4 =>
      go_simp
      refine hK.out _ _ ⟨b0, b1, b2, b5⟩ (fun hHeld => ?_)
      clear hK K
      refine wpAnyH_ready (rs := [14]) (by kernel_rfl) (by simp) (AllReadyH.cons rfl (fun K hK => ?_) AllReadyH.nil)
      go_simp
      refine hK.out _ _ ⟨x0, x1, x2, x5⟩ (fun hHeld => ?_)
      clear hK K
      refine wpAnyH_ready (rs := [15]) (by kernel_rfl) (by simp) (AllReadyH.cons rfl (fun K hK => ?_) AllReadyH.nil)
      refine step_append_run rfl _ _ _ _ rfl _ _ _ rfl rfl hrun ?_
      refine hK.out _ _ ⟨y0, y1, y2, y5⟩ (fun hHeld => ?_)
      clear hK K
      simp only [Act.put]
      refine wpAnyH_take (i := 16) (v := .pointer (some ⟨q, 0, none⟩)) rfl (by kernel_rfl) (by kernel_rfl) (by kernel_rfl) (fun _ _ _ h => h) (Or.inl ⟨by rfl, ?y29⟩) (by assumption) ?r29
      case y29 => (intro w hSw; obtain ⟨s1, s2, s3, s4⟩ := hSw; go_simp)
      simp only [Act.put]
      refine wpAnyH_take (i := 17) (v := .pointer (some ⟨q, 6, none⟩)) rfl (by kernel_rfl) (by kernel_rfl) (by kernel_rfl) (fun _ _ _ h => h) (Or.inl ⟨by rfl, ?y30⟩) (by assumption) ?r30
      case y30 => (intro w hSw; obtain ⟨s1, s2, s3, s4⟩ := hSw; go_simp)
      simp only [Act.put]
      refine wpAnyH_ready (rs := [18]) (by kernel_rfl) (by simp) (AllReadyH.cons rfl (fun K hK => ?_) AllReadyH.nil)
      go_simp
      refine hK.out _ _ ⟨(World.cell?_setCell_other _ _ _ _ (by simp)).trans y0, (World.cell?_setCell_other _ _ _ _ (by simp)).trans y1, (World.cell?_setCell_other _ _ _ _ (by simp)).trans y2, (World.cell?_setCell_other _ _ _ _ (by simp)).trans y5⟩ (fun hHeld => ?_)
      clear hK K
      refine wpAnyH_done (by kernel_rfl) ?_ _
      go_wp2_with fail
      go_ret
      obtain ⟨av', g1, g2⟩ := HEND.out
      exact ⟨rfl, _, ⟨fv, av', fl, g1, rfl⟩, g2⟩
    case o14 =>
      go_simp
      refine hK.out _ _ ⟨x0, x1, x2, x5⟩ (fun hHeld => ?_)
      clear hK K
      refine wpAnyH_ready (rs := [4]) (by kernel_rfl) (by simp) (AllReadyH.cons rfl (fun K hK => ?_) AllReadyH.nil)
      go_simp
      refine hK.out _ _ ⟨x0, x1, x2, x5⟩ (fun hHeld => ?_)
      clear hK K
      refine wpAnyH_ready (rs := [15]) (by kernel_rfl) (by simp) (AllReadyH.cons rfl (fun K hK => ?_) AllReadyH.nil)
      refine step_append_run rfl _ _ _ _ rfl _ _ _ rfl rfl hrun ?_
      refine hK.out _ _ ⟨y0, y1, y2, y5⟩ (fun hHeld => ?_)
      clear hK K
      simp only [Act.put]
      refine wpAnyH_take (i := 16) (v := .pointer (some ⟨q, 0, none⟩)) rfl (by kernel_rfl) (by kernel_rfl) (by kernel_rfl) (fun _ _ _ h => h) (Or.inl ⟨by rfl, ?yq29⟩) (by assumption) ?rq29
      case yq29 => (intro w hSw; obtain ⟨s1, s2, s3, s4⟩ := hSw; go_simp)
      simp only [Act.put]
      refine wpAnyH_take (i := 17) (v := .pointer (some ⟨q, 6, none⟩)) rfl (by kernel_rfl) (by kernel_rfl) (by kernel_rfl) (fun _ _ _ h => h) (Or.inl ⟨by rfl, ?yq30⟩) (by assumption) ?rq30
      case yq30 => (intro w hSw; obtain ⟨s1, s2, s3, s4⟩ := hSw; go_simp)
      simp only [Act.put]
      refine wpAnyH_ready (rs := [18]) (by kernel_rfl) (by simp) (AllReadyH.cons rfl (fun K hK => ?_) AllReadyH.nil)
      go_simp
      refine hK.out _ _ ⟨(World.cell?_setCell_other _ _ _ _ (by simp)).trans y0, (World.cell?_setCell_other _ _ _ _ (by simp)).trans y1, (World.cell?_setCell_other _ _ _ _ (by simp)).trans y2, (World.cell?_setCell_other _ _ _ _ (by simp)).trans y5⟩ (fun hHeld => ?_)
      clear hK K
      refine wpAnyH_done (by kernel_rfl) ?_ _
      go_wp2_with fail
      go_ret
      obtain ⟨av', g1, g2⟩ := HEND.out
      exact ⟨rfl, _, ⟨fv, av', fl, g1, rfl⟩, g2⟩
  · refine wp_region_held_drew (S := fun w' => w'.cell? ⟨w.heap.size, 0, none⟩ = some (.int .i64 m) ∧ w'.cell? ⟨w.heap.size, 1, none⟩ = some (.int .i64 2) ∧ w'.cell? ⟨w.heap.size, 2, none⟩ = some (.bool true) ∧ w'.cell? ⟨q, 3, none⟩ = some (.int .i64 D.calls)) (by kernel_rfl) ⟨b0, b1, b2, b5⟩ (fun hHeld => ?_)
    refine wpAnyH_take (i := 0) (v := .pointer (some ⟨q, 0, none⟩)) rfl (by kernel_rfl) (by kernel_rfl) (by kernel_rfl) (fun _ _ _ h => h) (Or.inl ⟨by rfl, ?y31⟩) (by assumption) ?r31
    case y31 => (intro w hSw; obtain ⟨s1, s2, s3, s4⟩ := hSw; go_simp)
    simp only [Act.put]
    refine wpAnyH_take (i := 1) (v := .pointer (some ⟨q, 0, none⟩)) rfl (by kernel_rfl) (by kernel_rfl) (by kernel_rfl) (fun _ _ _ h => h) (Or.inl ⟨by rfl, ?y32⟩) (by assumption) ?r32
    case y32 => (intro w hSw; obtain ⟨s1, s2, s3, s4⟩ := hSw; go_simp)
    simp only [Act.put]
    refine wpAnyH_take (i := 2) (v := .pointer (some ⟨q, 0, none⟩)) rfl (by kernel_rfl) (by kernel_rfl) (by kernel_rfl) (fun _ _ _ h => h) (Or.inl ⟨by rfl, ?y33⟩) (by assumption) ?r33
    case y33 => (intro w hSw; obtain ⟨s1, s2, s3, s4⟩ := hSw; go_simp)
    simp only [Act.put]
    refine wpAnyH_take (i := 3) (v := .pointer (some ⟨q, 6, none⟩)) rfl (by kernel_rfl) (by kernel_rfl) (by kernel_rfl) (fun _ _ _ h => h) (Or.inl ⟨by rfl, ?y34⟩) (by assumption) ?r34
    case y34 => (intro w hSw; obtain ⟨s1, s2, s3, s4⟩ := hSw; go_simp)
    simp only [Act.put]
    refine wpAnyH_take (i := 5) (v := .pointer (some ⟨q, 0, none⟩)) rfl (by kernel_rfl) (by kernel_rfl) (by kernel_rfl) (fun _ _ _ h => h) (Or.inl ⟨by rfl, ?y35⟩) (by assumption) ?r35
    case y35 => (intro w hSw; obtain ⟨s1, s2, s3, s4⟩ := hSw; go_simp)
    simp only [Act.put]
    refine wpAnyH_take (i := 6) (v := .pointer (some ⟨q, 0, none⟩)) rfl (by kernel_rfl) (by kernel_rfl) (by kernel_rfl) (fun _ _ _ h => h) (Or.inl ⟨by rfl, ?y36⟩) (by assumption) ?r36
    case y36 => (intro w hSw; obtain ⟨s1, s2, s3, s4⟩ := hSw; go_simp)
    simp only [Act.put]
    refine wpAnyH_take (i := 7) (v := .pointer (some ⟨q, 3, none⟩)) rfl (by kernel_rfl) (by kernel_rfl) (by kernel_rfl) (fun _ _ _ h => h) (Or.inl ⟨by rfl, ?y37⟩) (by assumption) ?r37
    case y37 => (intro w hSw; obtain ⟨s1, s2, s3, s4⟩ := hSw; go_simp)
    simp only [Act.put]
    refine wpAnyH_take (i := 8) (v := .int .i64 D.calls) rfl (by kernel_rfl) (by kernel_rfl) (by kernel_rfl) (fun _ _ _ h => h) (Or.inl ⟨by rfl, ?y38⟩) (by assumption) ?r38
    case y38 => (intro w hSw; obtain ⟨s1, s2, s3, s4⟩ := hSw; go_simp)
    simp only [Act.put]
    refine wpAnyH_take (i := 9) (v := .pointer (some ⟨w.heap.size, 0, none⟩)) rfl (by kernel_rfl) (by kernel_rfl) (by kernel_rfl) (fun _ _ _ h => h) (Or.inl ⟨by rfl, ?y39⟩) (by assumption) ?r39
    case y39 => (intro w hSw; obtain ⟨s1, s2, s3, s4⟩ := hSw; go_simp)
    simp only [Act.put]
    refine wpAnyH_take (i := 10) (v := .int .i64 m) rfl (by kernel_rfl) (by kernel_rfl) (by kernel_rfl) (fun _ _ _ h => h) (Or.inl ⟨by rfl, ?y40⟩) (by assumption) ?r40
    case y40 => (intro w hSw; obtain ⟨s1, s2, s3, s4⟩ := hSw; go_simp)
    simp only [Act.put]
    refine wpAnyH_take (i := 11) (v := .int .i64 J) rfl (by kernel_rfl) (by kernel_rfl) (by kernel_rfl) (fun _ _ _ h => h) (Or.inl ⟨by rfl, ?y41⟩) (by assumption) ?r41
    case y41 => (intro w hSw; obtain ⟨s1, s2, s3, s4⟩ := hSw; go_simp)
    simp only [Act.put]
    refine wpAnyH_take (i := 12) (v := .agg #[.int .i64 m, .int .i64 2, .bool true]) rfl (by kernel_rfl) (by kernel_rfl) (by kernel_rfl) (fun _ _ _ h => h) (Or.inl ⟨by rfl, ?y42⟩) (by assumption) ?r42
    case y42 => (intro w hSw; obtain ⟨s1, s2, s3, s4⟩ := hSw; go_simp)
    simp only [Act.put]
    refine wpAnyH_take (i := 13) (v := .agg #[.int .i64 J, .int .i64 m, .int .i64 2, .bool true]) rfl (by kernel_rfl) (by kernel_rfl) (by kernel_rfl) (fun _ _ _ h => h) (Or.inl ⟨by rfl, ?y43⟩) (by assumption) ?r43
    case y43 => (intro w hSw; obtain ⟨s1, s2, s3, s4⟩ := hSw; go_simp)
    simp only [Act.put]
    refine wpAnyH_ready (rs := [4, 14]) (by kernel_rfl) (by simp) (AllReadyH.cons rfl (fun K hK => ?o4) (AllReadyH.cons rfl (fun K hK => ?o14) AllReadyH.nil))
    case o4 =>
      go_simp
      refine hK.out _ _ ⟨b0, b1, b2, b5⟩ (fun hHeld => ?_)
      clear hK K
      refine wpAnyH_ready (rs := [14]) (by kernel_rfl) (by simp) (AllReadyH.cons rfl (fun K hK => ?_) AllReadyH.nil)
      go_simp
      refine hK.out _ _ ⟨x0, x1, x2, x5⟩ (fun hHeld => ?_)
      clear hK K
      refine wpAnyH_ready (rs := [15]) (by kernel_rfl) (by simp) (AllReadyH.cons rfl (fun K hK => ?_) AllReadyH.nil)
      refine step_append_run rfl _ _ _ _ rfl _ _ _ rfl rfl hrun ?_
      refine hK.out _ _ ⟨y0, y1, y2, y5⟩ (fun hHeld => ?_)
      clear hK K
      simp only [Act.put]
      refine wpAnyH_take (i := 16) (v := .pointer (some ⟨q, 0, none⟩)) rfl (by kernel_rfl) (by kernel_rfl) (by kernel_rfl) (fun _ _ _ h => h) (Or.inl ⟨by rfl, ?y44⟩) (by assumption) ?r44
      case y44 => (intro w hSw; obtain ⟨s1, s2, s3, s4⟩ := hSw; go_simp)
      simp only [Act.put]
      refine wpAnyH_take (i := 17) (v := .pointer (some ⟨q, 6, none⟩)) rfl (by kernel_rfl) (by kernel_rfl) (by kernel_rfl) (fun _ _ _ h => h) (Or.inl ⟨by rfl, ?y45⟩) (by assumption) ?r45
      case y45 => (intro w hSw; obtain ⟨s1, s2, s3, s4⟩ := hSw; go_simp)
      simp only [Act.put]
      refine wpAnyH_ready (rs := [18]) (by kernel_rfl) (by simp) (AllReadyH.cons rfl (fun K hK => ?_) AllReadyH.nil)
      go_simp
      refine hK.out _ _ ⟨(World.cell?_setCell_other _ _ _ _ (by simp)).trans y0, (World.cell?_setCell_other _ _ _ _ (by simp)).trans y1, (World.cell?_setCell_other _ _ _ _ (by simp)).trans y2, (World.cell?_setCell_other _ _ _ _ (by simp)).trans y5⟩ (fun hHeld => ?_)
      clear hK K
      refine wpAnyH_done (by kernel_rfl) ?_ _
      go_wp2_with fail
      go_ret
      obtain ⟨av', g1, g2⟩ := HEND.out
      exact ⟨rfl, _, ⟨fv, av', fl, g1, rfl⟩, g2⟩
    case o14 =>
      go_simp
      refine hK.out _ _ ⟨x0, x1, x2, x5⟩ (fun hHeld => ?_)
      clear hK K
      refine wpAnyH_ready (rs := [4]) (by kernel_rfl) (by simp) (AllReadyH.cons rfl (fun K hK => ?_) AllReadyH.nil)
      go_simp
      refine hK.out _ _ ⟨x0, x1, x2, x5⟩ (fun hHeld => ?_)
      clear hK K
      refine wpAnyH_ready (rs := [15]) (by kernel_rfl) (by simp) (AllReadyH.cons rfl (fun K hK => ?_) AllReadyH.nil)
      refine step_append_run rfl _ _ _ _ rfl _ _ _ rfl rfl hrun ?_
      refine hK.out _ _ ⟨y0, y1, y2, y5⟩ (fun hHeld => ?_)
      clear hK K
      simp only [Act.put]
      refine wpAnyH_take (i := 16) (v := .pointer (some ⟨q, 0, none⟩)) rfl (by kernel_rfl) (by kernel_rfl) (by kernel_rfl) (fun _ _ _ h => h) (Or.inl ⟨by rfl, ?yq44⟩) (by assumption) ?rq44
      case yq44 => (intro w hSw; obtain ⟨s1, s2, s3, s4⟩ := hSw; go_simp)
      simp only [Act.put]
      refine wpAnyH_take (i := 17) (v := .pointer (some ⟨q, 6, none⟩)) rfl (by kernel_rfl) (by kernel_rfl) (by kernel_rfl) (fun _ _ _ h => h) (Or.inl ⟨by rfl, ?yq45⟩) (by assumption) ?rq45
      case yq45 => (intro w hSw; obtain ⟨s1, s2, s3, s4⟩ := hSw; go_simp)
      simp only [Act.put]
      refine wpAnyH_ready (rs := [18]) (by kernel_rfl) (by simp) (AllReadyH.cons rfl (fun K hK => ?_) AllReadyH.nil)
      go_simp
      refine hK.out _ _ ⟨(World.cell?_setCell_other _ _ _ _ (by simp)).trans y0, (World.cell?_setCell_other _ _ _ _ (by simp)).trans y1, (World.cell?_setCell_other _ _ _ _ (by simp)).trans y2, (World.cell?_setCell_other _ _ _ _ (by simp)).trans y5⟩ (fun hHeld => ?_)
      clear hK K
      refine wpAnyH_done (by kernel_rfl) ?_ _
      go_wp2_with fail
      go_ret
      obtain ⟨av', g1, g2⟩ := HEND.out
      exact ⟨rfl, _, ⟨fv, av', fl, g1, rfl⟩, g2⟩

theorem qarm_m (w : World) (q : Nat) (D : Dk) (G : Nat → Prop) (hQ : QDisk w q D G) (hc : D.calls ≤ 1099511627776) (hal : D.arms.length ≤ 1099511627776) (a k : Int) (b : Bool) :
    Calls Try.prog 80 #[.pointer (some ⟨q, 0, none⟩), .agg #[.int .i64 a, .int .i64 k, .bool b]] w (QActed w q G (D.arm a k b)) := by
  cases ho : D.off
  · by_cases hbad : a < 1 ∨ 4294967296 < a ∨ (k ≠ 1 ∧ k ≠ 2) ∨ (b = true ∧ k = 1)
    · exact qarm_bad_m w q D G hQ a k b ho hbad
    · refine qarm_ok_m w q D G hQ hc hal a k b ho (by omega) (by omega) ?_
      have h3 : k = 1 ∨ k = 2 := by omega
      rcases h3 with h3 | h3
      · left
        refine ⟨h3, ?_⟩
        cases b with
        | false => rfl
        | true => exact absurd (.inr (.inr (.inr ⟨rfl, h3⟩))) hbad
      · exact .inr h3
  · exact qarm_off_m w q D G hQ a k b ho
end Go.Proofs.Ytnppneilbkmnfaa
