/- The contracts of the laws' note and loosen. Condition: the book stands in memory of its own. | The contract of the laws' does on a disk; two disks apart; a disk beside a book of what is safe. Condition: few calls were made; what is read is none of the disk's. -/
import Derived.Test.YtnppneilbkmnfaaZG
import Derived.Test.YtnppneilbkmnfaaZSu
namespace Go.Proofs.Ytnppneilbkmnfaa
open Go.RowKit

def kSafe : RK SI := ⟨65, 3, SI.cells, SI.v, SI.b⟩
theorem info_safe : (Try.prog.info? 65).map (fun i => (i.zero, i.size, i.bytes)) = some (some (.agg #[.string ⟨#[]⟩, .slice none 0 0, .bool false]), 3, 48) := by kernel_rfl
theorem Row.cellS {w : World} {g c : Nat} {n : Nat} {l : List SI} (h : Row kSafe w (.slice (some ⟨g, 0, none⟩) n (c + 1)) l) {k : Nat} {x : SI} (hx : l[k]? = some x) :
    ∃ bx cx, x.v = .slice bx x.b.length cx ∧ w.cell? ⟨g, k * 3, none⟩ = some (.string ⟨x.nm.toArray⟩) ∧ w.cell? ⟨g, k * 3 + 1, none⟩ = some (.slice bx x.b.length cx) ∧ w.cell? ⟨g, k * 3 + 2, none⟩ = some (.bool x.op) ∧ g < w.heap.size ∧ Bytes w (.slice bx x.b.length cx) x.b ∧ x.b.length ≤ cx ∧ cx ≤ maxLen := by
  have hB := h.bytes x (List.mem_of_getElem? hx)
  have hB : Bytes w x.v x.b := hB
  obtain ⟨bx, cx, hv, h1, h2, -⟩ := hB.open
  obtain ⟨hi, he⟩ := List.getElem?_eq_some_iff.1 hx
  subst he
  obtain ⟨g', c', h0, -, -, hg, hc⟩ := h.open (fun x _ => rfl) (by omega) (show 0 < 3 by omega)
  simp only [Value.slice.injEq, Option.some.injEq, Addr.mk.injEq, and_true] at h0
  obtain ⟨rfl, -, -⟩ := h0
  have c0 := hc k hi 0 (encS l[k].nm) rfl
  have c1 := hc k hi 1 l[k].v rfl
  have c2 := hc k hi 2 (.bool l[k].op) rfl
  rw [hv] at c1 hB
  exact ⟨bx, cx, hv, c0, c1, c2, hg, hB, h1, h2⟩
theorem safe_next {w : World} {ua : Option Addr} {uc : Nat} {l : List SI} (h : Row kSafe w (.slice ua l.length uc) l) (x : SI) (hb : Bytes w x.v x.b) (hk : ∀ k, inFoot x.v k → k < w.heap.size ∧ ¬ inFoot (.slice ua l.length uc) k) (hfit : l.length ≤ 1099511627776) (ty : TypeId) :
    ∃ ao cap w', (Builtin.append_ #[59, 59] ty #[.slice ua l.length uc, .slice (some ⟨w.heap.size, 0, none⟩) 1 1]).run Try.prog (w.alloc (.cells #[encS x.nm, x.v, .bool x.op] 65 (0, 0))) = .ok (.slice ao (l.length + 1) cap) w' ∧
      Row kSafe w' (.slice ao (l.length + 1) cap) (l ++ [x]) ∧ Step (inFoot (.slice ua l.length uc)) w (inFoot (.slice ao (l.length + 1) cap)) w' := by
  have e : Ext Nil w (w.alloc (.cells #[encS x.nm, x.v, .bool x.op] 65 (0, 0))) := (Ext.refl _ _).alloc _
  obtain ⟨ao, cap, w', hrun, h1, h2⟩ := Row.append (K := kSafe) (ts := 59) (h.ext0 e).row Try.underlying59 info_safe rfl (by omega) (x := x) (Reads.item w [encS x.nm, x.v, .bool x.op] 65 3 rfl) (by
    intro u hu
    obtain ⟨bx, cx, hv, -⟩ := hb.open
    simp only [kSafe, SI.cells, List.mem_cons, List.not_mem_nil, or_false] at hu
    rcases hu with rfl | rfl | rfl
    · rfl
    · rw [hv]; rfl
    · rfl) hfit ty
  refine ⟨ao, cap, w', hrun, ?_, (e.mono fun _ _ h => h.elim).same h2.1, fun k hk => (h2.2 k hk).imp id fun h => Nat.le_trans e.size h⟩
  exact h.snoc e (hb.alloc _) (fun k hq => ⟨Nat.lt_of_lt_of_le (hk k hq).1 e.size, (hk k hq).2⟩) (by simpa using h1) h2
theorem offL_snoc (l : List SI) (s : Nm) {k : Nat} {x : SI} (hx : l[k]? = some x) : offL (l.take (k + 1)) s = offL (l.take k) s ++ (if x.nm == s then [] else [x]) := by
  unfold offL
  rw [List.take_add_one, hx, List.filter_append]
  cases h : x.nm == s <;> simp [h]
theorem openL_snoc (l : List SI) (s : Nm) {k : Nat} {x : SI} (hx : l[k]? = some x) : openL (l.take (k + 1)) s = openL (l.take k) s ++ [if x.nm == s then { x with op := true } else x] := by
  unfold openL
  rw [List.take_add_one, hx, List.map_append]
  rfl
theorem offL_len (l : List SI) (s : Nm) : (offL l s).length ≤ l.length := List.length_filter_le ..
/-- a book handed on: it stands in new memory -/
def Booked (w : World) (l : List SI) (e : Ending) (w' : World) : Prop := ∃ v', e = .returned v' ∧ Row kSafe w' v' l ∧ Ext Nil w w' ∧ ∀ k, inFoot v' k → w.heap.size ≤ k

set_option maxRecDepth 20000 in
set_option maxHeartbeats 400000 in
theorem note_m (w : World) (v : Value) (l : List SI) (hR : Row kSafe w v l) (s : ByteArray) (b : Value) (B : List UInt8) (hb : Bytes w b B) (hbk : ∀ k, inFoot b k → k < w.heap.size) (hfew : l.length ≤ 1099511627775) :
    Calls Try.prog 30 #[v, .string s, b] w (Booked w (noteL l ⟨s.data.toList, B, false, b⟩)) := by
  obtain ⟨av, cv, rfl, hv1, hv2⟩ := hR.shape
  unfold maxLen at hv2
  have HR := Lib.hid hR
  obtain ⟨ab, cb, rfl, hb1, hb2, -⟩ := hb.open
  have HB := Lib.hid hb; have HBK := Lib.hid hbk
  clear hb hbk
  clear hR
  go_enter Try.func30, Try.ntmps30
  go_wp2_with fail
  go_loopw [7, 8] (fun u i wr => ∃ (k : Nat), i = .int .i64 (k : Int) ∧ k ≤ l.length ∧ Row kSafe wr u (offL (l.take k) s.data.toList) ∧ Ext Nil w wr ∧ ∀ q, inFoot u q → w.heap.size ≤ q) (fun _ i _ => l.length - (intOf i).toNat)
  case atStart => exact ⟨0, rfl, Nat.zero_le _, Row.nil _, Ext.refl _ _, by simp [inFoot, foot]⟩
  case round =>
    obtain ⟨k, rfl, hk, hU, hE, hF⟩ := hrel
    by_cases hlt : k < l.length
    · obtain ⟨x, hx⟩ : ∃ x, l[k]? = some x := ⟨_, List.getElem?_eq_getElem hlt⟩
      obtain ⟨g, c, hg, -⟩ := HR.out.open (fun x _ => rfl) (by omega) (show 0 < 3 by omega)
      simp only [Value.slice.injEq, true_and] at hg
      obtain ⟨rfl, rfl⟩ := hg
      obtain ⟨bx, cx, hxv, x0, x1, x2, hgl, hxB, hxc, hxm⟩ := (HR.out.ext0 hE).cellS hx
      have hap := fun q (hq : inFoot x.v q) => HR.out.apart x (List.mem_of_getElem? hx) q hq
      have hlen : (offL (l.take k) s.data.toList).length ≤ k := by have := offL_len (l.take k) s.data.toList; rw [List.length_take] at this; omega
      have hM1 := offL_snoc l s.data.toList hx
      generalize hMM : offL (l.take k) s.data.toList = M at *
      have HM1 := Lib.hid hM1; have HMM := Lib.hid hMM
      clear hM1 hMM
      obtain ⟨ua, uc, rfl, hu1, hu2⟩ := hU.shape
      have HU := Lib.hid hU; have HE := Lib.hid hE; have HF := Lib.hid hF; have HXV := Lib.hid hxv; have HXB := Lib.hid hxB; have HAP := Lib.hid hap
      clear hU hE hF hx hxv hxB hap
      by_cases hn : x.nm = s.data.toList
      · have hnb : (x.nm == s.data.toList) = true := by rw [hn]; simp
        have hnl : (x.nm == s.toList) = true := by rw [ByteArray.toList_eq]; exact hnb
        have HNB := Lib.hid hnb
        clear hn hnb
        go_wp2_with fail
        refine ⟨⟨k + 1, by first | rfl | go_num, by omega, ?_, HE.out, HF.out⟩, by simp [intOf]; omega⟩
        rw [HM1.out, if_pos HNB.out, List.append_nil]
        exact HU.out
      · have hnb : (x.nm == s.data.toList) = false := by rw [beq_eq_false_iff_ne]; exact hn
        have hnl : (x.nm == s.toList) = false := by rw [ByteArray.toList_eq]; exact hnb
        have HNB := Lib.hid hnb
        clear hn hnb
        go_wp2_with (at_builtin; obtain ⟨ao2, cap2, w3, hrun, hR3, hK3⟩ := safe_next (HU.out) x (by rw [HXV.out]; exact HXB.out) (fun q hq => ⟨Nat.lt_of_lt_of_le (HAP.out q hq).1 HE.out.size, fun hv => by have := HF.out q hv; have := (HAP.out q hq).1; omega⟩) (by omega) 59; rw [HXV.out] at hrun; refine wpList_append_run rfl (.tmp 22) (.tmp 27) 59 59 rfl _ _ _ rfl rfl hrun ?_; have HR3 := Lib.hid hR3; have HK3 := Lib.hid hK3; clear hR3 hK3 hrun)
        refine ⟨⟨k + 1, by first | rfl | go_num, by omega, by rw [HM1.out]; rw [if_neg (by rw [HNB.out]; simp)]; exact HR3.out, (HE.out).trans HK3.out.1 fun i hi hf => by have := HF.out i hf; omega, fun q hq => ?_⟩, by simp [intOf]; omega⟩
        rcases HK3.out.2 q hq with h | h
        · exact HF.out q h
        · exact Nat.le_trans (HE.out).size h
    · obtain rfl : k = l.length := by omega
      rw [List.take_length] at hU
      obtain ⟨ua, uc, rfl, hu1, hu2⟩ := hU.shape
      have hnot : ¬ ((l.length : Nat) : Int) < (l.length : Int) := by omega
      have HU := Lib.hid hU; have HE := Lib.hid hE; have HF := Lib.hid hF
      clear hU hE hF hlt
      have hol := offL_len l s.data.toList
      go_wp2_with (at_builtin; obtain ⟨ao2, cap2, w3, hrun, hR3, hK3⟩ := safe_next HU.out ⟨s.data.toList, B, false, .slice ab B.length cb⟩ (HB.out.ext HE.out fun _ _ h => h) (fun q hq => ⟨Nat.lt_of_lt_of_le (HBK.out q hq) HE.out.size, fun hv => by have := HF.out q hv; have := HBK.out q hq; omega⟩) (by omega) 59; refine wpList_append_run rfl (.tmp 29) (.tmp 33) 59 59 rfl _ _ _ rfl rfl hrun ?_; have HR3 := Lib.hid hR3; have HK3 := Lib.hid hK3; clear hR3 hK3 hrun)
      go_ret
      refine ⟨_, rfl, HR3.out, HE.out.trans HK3.out.1 fun i hi hf => by have := HF.out i hf; omega, fun q hq => ?_⟩
      rcases HK3.out.2 q hq with h | h
      · exact HF.out q h
      · exact Nat.le_trans HE.out.size h

set_option maxRecDepth 20000 in
set_option maxHeartbeats 400000 in
theorem loosen_gone (w : World) (v : Value) (l : List SI) (hR : Row kSafe w v l) (s : ByteArray)  (hfew : l.length ≤ 1099511627775) :
    Calls Try.prog 28 #[v, .string s, .bool true] w (Booked w (offL l s.data.toList)) := by
  obtain ⟨av, cv, rfl, hv1, hv2⟩ := hR.shape
  unfold maxLen at hv2
  have HR := Lib.hid hR
  clear hR
  go_enter Try.func28, Try.ntmps28
  go_wp2_with fail
  go_loopw [7, 8] (fun u i wr => ∃ (k : Nat), i = .int .i64 (k : Int) ∧ k ≤ l.length ∧ Row kSafe wr u (offL (l.take k) s.data.toList) ∧ Ext Nil w wr ∧ ∀ q, inFoot u q → w.heap.size ≤ q) (fun _ i _ => l.length - (intOf i).toNat)
  case atStart => exact ⟨0, rfl, Nat.zero_le _, Row.nil _, Ext.refl _ _, by simp [inFoot, foot]⟩
  case round =>
    obtain ⟨k, rfl, hk, hU, hE, hF⟩ := hrel
    by_cases hlt : k < l.length
    · obtain ⟨x, hx⟩ : ∃ x, l[k]? = some x := ⟨_, List.getElem?_eq_getElem hlt⟩
      obtain ⟨g, c, hg, -⟩ := HR.out.open (fun x _ => rfl) (by omega) (show 0 < 3 by omega)
      simp only [Value.slice.injEq, true_and] at hg
      obtain ⟨rfl, rfl⟩ := hg
      obtain ⟨bx, cx, hxv, x0, x1, x2, hgl, hxB, hxc, hxm⟩ := (HR.out.ext0 hE).cellS hx
      have hap := fun q (hq : inFoot x.v q) => HR.out.apart x (List.mem_of_getElem? hx) q hq
      have hlen : (offL (l.take k) s.data.toList).length ≤ k := by have := offL_len (l.take k) s.data.toList; rw [List.length_take] at this; omega
      have hM1 := offL_snoc l s.data.toList hx
      generalize hMM : offL (l.take k) s.data.toList = M at *
      have HM1 := Lib.hid hM1; have HMM := Lib.hid hMM
      clear hM1 hMM
      obtain ⟨ua, uc, rfl, hu1, hu2⟩ := hU.shape
      have HU := Lib.hid hU; have HE := Lib.hid hE; have HF := Lib.hid hF; have HXV := Lib.hid hxv; have HXB := Lib.hid hxB; have HAP := Lib.hid hap
      clear hU hE hF hx hxv hxB hap
      have eY : Ext Nil wr (wr.alloc (.cells #[.string ⟨x.nm.toArray⟩, .slice bx x.b.length cx, .bool x.op] 65 (0, 0))) := (Ext.refl _ _).alloc _
      have AY := At.new wr [.string ⟨x.nm.toArray⟩, .slice bx x.b.length cx, .bool x.op] 65
      have z0 := AY.cell 0 rfl
      have z1 := AY.cell 1 rfl
      have z2 := AY.cell 2 rfl
      have f2 := AY.frozen 2
      have HAY := Lib.hid AY; have HEY := Lib.hid eY
      have HSY := Lib.hid (show (wr.alloc (.cells #[.string ⟨x.nm.toArray⟩, .slice bx x.b.length cx, .bool x.op] 65 (0, 0))).heap.size = wr.heap.size + 1 by simp)
      clear AY eY
      by_cases hn : x.nm = s.data.toList
      · have hnb : (x.nm == s.data.toList) = true := by rw [hn]; simp
        have hnl : (x.nm == s.toList) = true := by rw [ByteArray.toList_eq]; exact hnb
        have HNB := Lib.hid hnb
        clear hn hnb
        go_wp2_with fail
        refine ⟨⟨k + 1, by first | rfl | go_num, by omega, ?_, HE.out.same HEY.out, HF.out⟩, by simp [intOf]; omega⟩
        rw [HM1.out, if_pos HNB.out, List.append_nil]
        exact HU.out.ext0 HEY.out
      · have hnb : (x.nm == s.data.toList) = false := by rw [beq_eq_false_iff_ne]; exact hn
        have hnl : (x.nm == s.toList) = false := by rw [ByteArray.toList_eq]; exact hnb
        have HNB := Lib.hid hnb
        clear hn hnb
        go_wp2_with (at_builtin; obtain ⟨ao2, cap2, w3, hrun, hR3, hK3⟩ := safe_next (HU.out.ext0 HEY.out) x (by show Bytes _ x.v x.b; rw [HXV.out]; exact HXB.out.ext HEY.out fun _ _ h => h) (fun q hq => ⟨Nat.lt_of_lt_of_le (HAP.out q (show inFoot x.v q from hq)).1 (HE.out.same HEY.out).size, fun hv => by have := HF.out q hv; have := (HAP.out q (show inFoot x.v q from hq)).1; omega⟩) (by omega) 59; rw [HXV.out, HSY.out] at hrun; refine wpList_append_run rfl (.tmp 26) (.tmp 28) 59 59 rfl _ _ _ rfl rfl hrun ?_; have HR3 := Lib.hid hR3; have HK3 := Lib.hid hK3; clear hR3 hK3 hrun)
        refine ⟨⟨k + 1, by first | rfl | go_num, by omega, by rw [HM1.out]; rw [if_neg (by rw [HNB.out]; simp)]; exact HR3.out, (HE.out.same HEY.out).trans HK3.out.1 fun i hi hf => by have := HF.out i hf; omega, fun q hq => ?_⟩, by simp [intOf]; omega⟩
        rcases HK3.out.2 q hq with h | h
        · exact HF.out q h
        · exact Nat.le_trans (HE.out.same HEY.out).size h
    · obtain rfl : k = l.length := by omega
      rw [List.take_length] at hU
      obtain ⟨ua, uc, rfl, hu1, hu2⟩ := hU.shape
      have hnot : ¬ ((l.length : Nat) : Int) < (l.length : Int) := by omega
      have HU := Lib.hid hU; have HE := Lib.hid hE; have HF := Lib.hid hF
      clear hU hE hF hlt
      go_wp2_with fail
      go_ret
      exact ⟨_, rfl, HU.out, HE.out, HF.out⟩

set_option maxRecDepth 20000 in
set_option maxHeartbeats 400000 in
theorem loosen_open (w : World) (v : Value) (l : List SI) (hR : Row kSafe w v l) (s : ByteArray)  (hfew : l.length ≤ 1099511627775) :
    Calls Try.prog 28 #[v, .string s, .bool false] w (Booked w (openL l s.data.toList)) := by
  obtain ⟨av, cv, rfl, hv1, hv2⟩ := hR.shape
  unfold maxLen at hv2
  have HR := Lib.hid hR
  clear hR
  go_enter Try.func28, Try.ntmps28
  go_wp2_with fail
  go_loopw [7, 8] (fun u i wr => ∃ (k : Nat), i = .int .i64 (k : Int) ∧ k ≤ l.length ∧ Row kSafe wr u (openL (l.take k) s.data.toList) ∧ Ext Nil w wr ∧ ∀ q, inFoot u q → w.heap.size ≤ q) (fun _ i _ => l.length - (intOf i).toNat)
  case atStart => exact ⟨0, rfl, Nat.zero_le _, Row.nil _, Ext.refl _ _, by simp [inFoot, foot]⟩
  case round =>
    obtain ⟨k, rfl, hk, hU, hE, hF⟩ := hrel
    by_cases hlt : k < l.length
    · obtain ⟨x, hx⟩ : ∃ x, l[k]? = some x := ⟨_, List.getElem?_eq_getElem hlt⟩
      obtain ⟨g, c, hg, -⟩ := HR.out.open (fun x _ => rfl) (by omega) (show 0 < 3 by omega)
      simp only [Value.slice.injEq, true_and] at hg
      obtain ⟨rfl, rfl⟩ := hg
      obtain ⟨bx, cx, hxv, x0, x1, x2, hgl, hxB, hxc, hxm⟩ := (HR.out.ext0 hE).cellS hx
      have hap := fun q (hq : inFoot x.v q) => HR.out.apart x (List.mem_of_getElem? hx) q hq
      have hlen : (openL (l.take k) s.data.toList).length ≤ k := by unfold openL; rw [List.length_map, List.length_take]; omega
      have hM1 := openL_snoc l s.data.toList hx
      generalize hMM : openL (l.take k) s.data.toList = M at *
      have HM1 := Lib.hid hM1; have HMM := Lib.hid hMM
      clear hM1 hMM
      obtain ⟨ua, uc, rfl, hu1, hu2⟩ := hU.shape
      have HU := Lib.hid hU; have HE := Lib.hid hE; have HF := Lib.hid hF; have HXV := Lib.hid hxv; have HXB := Lib.hid hxB; have HAP := Lib.hid hap
      clear hU hE hF hx hxv hxB hap
      have eY : Ext Nil wr (wr.alloc (.cells #[.string ⟨x.nm.toArray⟩, .slice bx x.b.length cx, .bool x.op] 65 (0, 0))) := (Ext.refl _ _).alloc _
      have AY := At.new wr [.string ⟨x.nm.toArray⟩, .slice bx x.b.length cx, .bool x.op] 65
      have z0 := AY.cell 0 rfl
      have z1 := AY.cell 1 rfl
      have z2 := AY.cell 2 rfl
      have f2 := AY.frozen 2
      have HAY := Lib.hid AY; have HEY := Lib.hid eY
      have HSY := Lib.hid (show (wr.alloc (.cells #[.string ⟨x.nm.toArray⟩, .slice bx x.b.length cx, .bool x.op] 65 (0, 0))).heap.size = wr.heap.size + 1 by simp)
      clear AY eY
      by_cases hn : x.nm = s.data.toList
      · have hnb : (x.nm == s.data.toList) = true := by rw [hn]; simp
        have hnl : (x.nm == s.toList) = true := by rw [ByteArray.toList_eq]; exact hnb
        have HNB := Lib.hid hnb
        clear hn hnb
        have eZ : Ext Nil wr (wr.alloc (.cells #[.string ⟨x.nm.toArray⟩, .slice bx x.b.length cx, .bool true] 65 (0, 0))) := (Ext.refl _ _).alloc _
        have AZ := At.new wr [.string ⟨x.nm.toArray⟩, .slice bx x.b.length cx, .bool true] 65
        have k0 := AZ.cell 0 rfl
        have k1 := AZ.cell 1 rfl
        have k2 := AZ.cell 2 rfl
        have HEZ := Lib.hid eZ
        have HSZ := Lib.hid (show (wr.alloc (.cells #[.string ⟨x.nm.toArray⟩, .slice bx x.b.length cx, .bool true] 65 (0, 0))).heap.size = wr.heap.size + 1 by simp)
        clear eZ AZ
        go_wp2_with (at_builtin; obtain ⟨ao2, cap2, w3, hrun, hR3, hK3⟩ := safe_next (HU.out.ext0 HEZ.out) { x with op := true } (by show Bytes _ x.v x.b; rw [HXV.out]; exact HXB.out.ext HEZ.out fun _ _ h => h) (fun q hq => ⟨Nat.lt_of_lt_of_le (HAP.out q (show inFoot x.v q from hq)).1 (HE.out.same HEZ.out).size, fun hv => by have := HF.out q hv; have := (HAP.out q (show inFoot x.v q from hq)).1; omega⟩) (by omega) 59; simp only [HSZ.out] at hrun; rw [HXV.out] at hrun; refine wpList_append_run rfl (.tmp 26) (.tmp 28) 59 59 rfl _ _ _ rfl rfl hrun ?_; have HR3 := Lib.hid hR3; have HK3 := Lib.hid hK3; clear hR3 hK3 hrun)
        refine ⟨⟨k + 1, by first | rfl | go_num, by omega, by rw [HM1.out]; rw [if_pos HNB.out]; exact HR3.out, (HE.out.same HEZ.out).trans HK3.out.1 fun i hi hf => by have := HF.out i hf; omega, fun q hq => ?_⟩, by simp [intOf]; omega⟩
        rcases HK3.out.2 q hq with h | h
        · exact HF.out q h
        · exact Nat.le_trans (HE.out.same HEZ.out).size h
      · have hnb : (x.nm == s.data.toList) = false := by rw [beq_eq_false_iff_ne]; exact hn
        have hnl : (x.nm == s.toList) = false := by rw [ByteArray.toList_eq]; exact hnb
        have HNB := Lib.hid hnb
        clear hn hnb
        go_wp2_with (at_builtin; obtain ⟨ao2, cap2, w3, hrun, hR3, hK3⟩ := safe_next (HU.out.ext0 HEY.out) x (by show Bytes _ x.v x.b; rw [HXV.out]; exact HXB.out.ext HEY.out fun _ _ h => h) (fun q hq => ⟨Nat.lt_of_lt_of_le (HAP.out q (show inFoot x.v q from hq)).1 (HE.out.same HEY.out).size, fun hv => by have := HF.out q hv; have := (HAP.out q (show inFoot x.v q from hq)).1; omega⟩) (by omega) 59; rw [HXV.out, HSY.out] at hrun; refine wpList_append_run rfl (.tmp 26) (.tmp 28) 59 59 rfl _ _ _ rfl rfl hrun ?_; have HR3 := Lib.hid hR3; have HK3 := Lib.hid hK3; clear hR3 hK3 hrun)
        refine ⟨⟨k + 1, by first | rfl | go_num, by omega, by rw [HM1.out]; rw [if_neg (by rw [HNB.out]; simp)]; exact HR3.out, (HE.out.same HEY.out).trans HK3.out.1 fun i hi hf => by have := HF.out i hf; omega, fun q hq => ?_⟩, by simp [intOf]; omega⟩
        rcases HK3.out.2 q hq with h | h
        · exact HF.out q h
        · exact Nat.le_trans (HE.out.same HEY.out).size h
    · obtain rfl : k = l.length := by omega
      rw [List.take_length] at hU
      obtain ⟨ua, uc, rfl, hu1, hu2⟩ := hU.shape
      have hnot : ¬ ((l.length : Nat) : Int) < (l.length : Int) := by omega
      have HU := Lib.hid hU; have HE := Lib.hid hE; have HF := Lib.hid hF
      clear hU hE hF hlt
      go_wp2_with fail
      go_ret
      exact ⟨_, rfl, HU.out, HE.out, HF.out⟩
end Go.Proofs.Ytnppneilbkmnfaa
namespace Go.Proofs.Ytnppneilbkmnfaa
open Go.RowKit

set_option maxRecDepth 20000 in
set_option maxHeartbeats 1000000 in
theorem does_a (w : World) (d : Nat) (D : Dk) (F : Nat → Prop) (hD0 : Disk w d D F) (o : OpD) (B : List UInt8) (ks : List Int) (ho : OpOk w o B ks) (hoF : ∀ k, inFoot (.slice o.dx o.dn o.dc) k → ¬ F k) (hc : D.calls ≤ 1099511627776) (ha : D.arms.length ≤ 1099511627776) (hb : B.length ≤ 549755813888) :
    Calls Try.prog 25 #[.pointer (some ⟨d, 0, none⟩), .agg o.cells.toArray] w (Acted w d F (D.does o B)) := by
  obtain ⟨K, who, s, dx, dn, dc, N, t0, t1, t2, kx, kn, kc, junk⟩ := o
  obtain ⟨hs, hdn, hdata, hdlt, -, -, -, -⟩ := ho
  simp only [] at hs hdn hdata hdlt hoF
  have hdef : D.does ⟨K, who, s, dx, dn, dc, N, t0, t1, t2, kx, kn, kc, junk⟩ B = if K = 1 then D.append s.data.toList B else if K = 2 then D.sync s.data.toList else if K = 3 then D.replace s.data.toList B
    else if K = 4 then D.cut s.data.toList N else if K = 5 then D.remove s.data.toList else if K = 11 then D.arm t0 t1 t2 else (D, 0) := rfl
  rw [hdef]
  unfold OpD.cells
  simp only []
  have eW : Ext Nil w (w.alloc (.cells #[.int .i64 K, .int .i64 who, .string s, .slice dx dn dc, .int .i64 N, .int .i64 t0, .int .i64 t1, .bool t2, .slice kx kn kc, .int .u8 junk] 47 (0, 0))) := (Ext.refl _ _).alloc _
  have hD := hD0.ext eW fun _ _ h => h
  have hx := hdata.ext eW fun _ _ h => h
  have HD := Lib.hid hD; have HD0 := Lib.hid hD0; have EW := Lib.hid eW; have HX := Lib.hid hx; have HXF := Lib.hid hoF
  clear hD hD0 eW hx hoF hdata hdlt hdef hdn
  by_cases h1 : K = 1
  · rw [if_pos h1]
    subst h1
    go_enter Try.func25, Try.ntmps25
    go_wp2_with (go_at_call 20; refine (append_m _ d D F HD.out hc s hs _ B HX.out HXF.out hb).mono ?_; intro e w' hq; obtain ⟨rfl, F', hD', hS'⟩ := hq)
    go_ret
    exact ⟨rfl, F', hD', (EW.out.mono fun _ _ h => h.elim).same hS'.1, fun k hk => (hS'.2 k hk).imp id fun h => Nat.le_trans EW.out.size h⟩
  rw [if_neg h1]
  by_cases h2 : K = 2
  · rw [if_pos h2]
    subst h2
    go_enter Try.func25, Try.ntmps25
    go_wp2_with (go_at_call 65; refine (sync_m _ d D F HD.out hc s hs).mono ?_; intro e w' hq; obtain ⟨rfl, F', hD', hS'⟩ := hq)
    go_ret
    exact ⟨rfl, F', hD', (EW.out.mono fun _ _ h => h.elim).same hS'.1, fun k hk => (hS'.2 k hk).imp id fun h => Nat.le_trans EW.out.size h⟩
  rw [if_neg h2]
  by_cases h3 : K = 3
  · rw [if_pos h3]
    subst h3
    go_enter Try.func25, Try.ntmps25
    go_wp2_with (go_at_call 52; refine (replace_m _ d D F HD.out hc s hs _ B HX.out HXF.out hb).mono ?_; intro e w' hq; obtain ⟨rfl, F', hD', hS'⟩ := hq)
    go_ret
    exact ⟨rfl, F', hD', (EW.out.mono fun _ _ h => h.elim).same hS'.1, fun k hk => (hS'.2 k hk).imp id fun h => Nat.le_trans EW.out.size h⟩
  rw [if_neg h3]
  by_cases h4 : K = 4
  · rw [if_pos h4]
    subst h4
    go_enter Try.func25, Try.ntmps25
    go_wp2_with (go_at_call 66; refine (cut_m _ d D F HD.out hc s hs N).mono ?_; intro e w' hq; obtain ⟨rfl, F', hD', hS'⟩ := hq)
    go_ret
    exact ⟨rfl, F', hD', (EW.out.mono fun _ _ h => h.elim).same hS'.1, fun k hk => (hS'.2 k hk).imp id fun h => Nat.le_trans EW.out.size h⟩
  rw [if_neg h4]
  by_cases h5 : K = 5
  · rw [if_pos h5]
    subst h5
    go_enter Try.func25, Try.ntmps25
    go_wp2_with (go_at_call 67; refine (remove_m _ d D F HD.out hc s hs).mono ?_; intro e w' hq; obtain ⟨rfl, F', hD', hS'⟩ := hq)
    go_ret
    exact ⟨rfl, F', hD', (EW.out.mono fun _ _ h => h.elim).same hS'.1, fun k hk => (hS'.2 k hk).imp id fun h => Nat.le_trans EW.out.size h⟩
  rw [if_neg h5]
  by_cases h11 : K = 11
  · rw [if_pos h11]
    subst h11
    go_enter Try.func25, Try.ntmps25
    go_wp2_with (go_at_call 19; refine (arm_m _ d D F HD.out hc ha t0 t1 t2).mono ?_; intro e w' hq; obtain ⟨rfl, F', hD', hS'⟩ := hq)
    go_ret
    exact ⟨rfl, F', hD', (EW.out.mono fun _ _ h => h.elim).same hS'.1, fun k hk => (hS'.2 k hk).imp id fun h => Nat.le_trans EW.out.size h⟩
  rw [if_neg h11]
  go_enter Try.func25, Try.ntmps25
  go_wp2_with fail
  go_ret
  exact Acted.same HD0.out EW.out _

/-! ### two disks apart -/
def Two (W w : World) (a : Nat) (A : Dk) (b : Nat) (B : Dk) : Prop := ∃ F G, Disk w a A F ∧ Disk w b B G ∧ (∀ k, F k → ¬ G k) ∧ (∀ k, F k → W.heap.size ≤ k) ∧ (∀ k, G k → W.heap.size ≤ k) ∧ Ext Nil W w
theorem Two.swap {W w : World} {a b : Nat} {A B : Dk} (h : Two W w a A b B) : Two W w b B a A := by
  obtain ⟨F, G, h1, h2, h3, h4, h5, h6⟩ := h
  exact ⟨G, F, h2, h1, fun k hg hf => h3 k hf hg, h5, h4, h6⟩
theorem Two.ext0 {W w w' : World} {a b : Nat} {A B : Dk} (h : Two W w a A b B) (e : Ext Nil w w') : Two W w' a A b B := by
  obtain ⟨F, G, h1, h2, h3, h4, h5, h6⟩ := h
  exact ⟨F, G, h1.ext e fun _ _ h => h, h2.ext e fun _ _ h => h, h3, h4, h5, h6.same e⟩
theorem Two.first {W w : World} {a b : Nat} {A B : Dk} (h : Two W w a A b B) : Life W w a A := by
  obtain ⟨F, G, h1, h2, h3, h4, h5, h6⟩ := h
  exact ⟨F, h1, h4, h6⟩
theorem Two.second {W w : World} {a b : Nat} {A B : Dk} (h : Two W w a A b B) : Life W w b B := h.swap.first
theorem Two.make {W w1 w2 : World} {a b : Nat} {A B : Dk} (h1 : Life W w1 a A) (h2 : Life w1 w2 b B) : Two W w2 a A b B := by
  obtain ⟨F, hF1, hF2, hF3⟩ := h1
  obtain ⟨G, hG1, hG2, hG3⟩ := h2
  have hs := hF3.size
  exact ⟨F, G, hF1.ext hG3 fun _ _ h => h, hG1, fun k hf hg => by have := hF1.lt k hf; have := hG2 k hg; omega, hF2, fun k hk => Nat.le_trans hs (hG2 k hk), hF3.same hG3⟩
theorem two_acted {W w w' : World} {a b : Nat} {B : Dk} {F G : Nat → Prop} {r : Dk × Int} {e : Ending} (h2 : Disk w b B G) (h3 : ∀ k, F k → ¬ G k) (h4 : ∀ k, F k → W.heap.size ≤ k) (h5 : ∀ k, G k → W.heap.size ≤ k) (h6 : Ext Nil W w) (h : Acted w a F r e w') :
    e = .returned (.int .i64 r.2) ∧ Two W w' a r.1 b B := by
  obtain ⟨he, F', hD, hS⟩ := h
  have hs := h6.size
  refine ⟨he, F', G, hD, h2.ext hS.1 fun k hg hf => h3 k hf hg, fun k hf hg => ?_, fun k hf => ?_, h5, h6.trans hS.1 fun i hi hf => by have := h4 i hf; omega⟩
  · rcases hS.2 k hf with h | h
    · exact h3 k h hg
    · have := h2.lt k hg
      omega
  · rcases hS.2 k hf with h | h
    · exact h4 k h
    · omega
theorem two_does (W w : World) (a b : Nat) (A B : Dk) (h : Two W w a A b B) (x : OpI) (ho : OpOk W x.o x.B x.ks) (hc : A.calls ≤ 1099511627776) (ha : A.arms.length ≤ 1099511627776) (hb : x.B.length ≤ 549755813888) :
    Calls Try.prog 25 #[.pointer (some ⟨a, 0, none⟩), .agg #[.int .i64 x.o.K, .int .i64 x.o.who, .string x.o.s, .slice x.o.dx x.o.dn x.o.dc, .int .i64 x.o.N, .int .i64 x.o.t0, .int .i64 x.o.t1, .bool x.o.t2, .slice x.o.kx x.o.kn x.o.kc, .int .u8 x.o.junk]] w fun e w' =>
      e = .returned (.int .i64 (A.does x.o x.B).2) ∧ Two W w' a (A.does x.o x.B).1 b B := by
  obtain ⟨F, G, h1, h2, h3, h4, h5, h6⟩ := h
  refine (does_a w a A F h1 x.o x.B x.ks (ho.ext0 h6) (fun k hk hf => by have := ho.dlt k hk; have := h4 k hf; omega) hc ha hb).mono ?_
  intro e w' hq
  exact two_acted h2 h3 h4 h5 h6 hq
theorem two_arm (W w : World) (a b : Nat) (A B : Dk) (h : Two W w a A b B) (hc : A.calls ≤ 1099511627776) (ha : A.arms.length ≤ 1099511627776) (t k : Int) (f : Bool) :
    Calls Try.prog 19 #[.pointer (some ⟨a, 0, none⟩), .agg #[.int .i64 t, .int .i64 k, .bool f]] w fun e w' => e = .returned (.int .i64 (A.arm t k f).2) ∧ Two W w' a (A.arm t k f).1 b B := by
  obtain ⟨F, G, h1, h2, h3, h4, h5, h6⟩ := h
  refine (arm_m w a A F h1 hc ha t k f).mono ?_
  intro e w' hq
  exact two_acted h2 h3 h4 h5 h6 hq

/-! ### a disk beside a book -/
def LS (W w : World) (d : Nat) (D : Dk) (u : Value) (l : List SI) : Prop := ∃ F, Disk w d D F ∧ (∀ k, F k → W.heap.size ≤ k) ∧ Ext Nil W w ∧ Row kSafe w u l ∧ ∀ k, feet kSafe u l k → ¬ F k
def LSB (W w : World) (d : Nat) (D : Dk) (u : Value) (l : List SI) (b : Value) (B : List UInt8) : Prop := ∃ F, Disk w d D F ∧ (∀ k, F k → W.heap.size ≤ k) ∧ Ext Nil W w ∧ Row kSafe w u l ∧ (∀ k, feet kSafe u l k → ¬ F k) ∧ Bytes w b B ∧ ∀ k, inFoot b k → k < w.heap.size ∧ ¬ F k
theorem LS.life {W w : World} {d : Nat} {D : Dk} {u : Value} {l : List SI} (h : LS W w d D u l) : Life W w d D := by
  obtain ⟨F, h1, h2, h3, -⟩ := h
  exact ⟨F, h1, h2, h3⟩
theorem LS.ext0 {W w w' : World} {d : Nat} {D : Dk} {u : Value} {l : List SI} (h : LS W w d D u l) (e : Ext Nil w w') : LS W w' d D u l := by
  obtain ⟨F, h1, h2, h3, h4, h5⟩ := h
  exact ⟨F, h1.ext e fun _ _ h => h, h2, h3.same e, h4.ext0 e, h5⟩
theorem LS.begin {W w : World} {d : Nat} {D : Dk} (h : Life W w d D) : LS W w d D (.slice none 0 0) [] := by
  obtain ⟨F, h1, h2, h3⟩ := h
  refine ⟨F, h1, h2, h3, Row.nil _, ?_⟩
  rintro k (h | ⟨x, hx, -⟩)
  · simp [inFoot, foot] at h
  · cases hx
theorem LS.shape {W w : World} {d : Nat} {D : Dk} {u : Value} {l : List SI} (h : LS W w d D u l) : ∃ ao cap, u = .slice ao l.length cap ∧ l.length ≤ cap ∧ cap ≤ maxLen := by
  obtain ⟨F, h1, h2, h3, h4, h5⟩ := h
  exact h4.shape
theorem ls_does (W w : World) (d : Nat) (D : Dk) (u : Value) (l : List SI) (h : LS W w d D u l) (ob : Obj) (x : OpI) (ho : OpOk W x.o x.B x.ks) (hc : D.calls ≤ 1099511627776) (ha : D.arms.length ≤ 1099511627776) (hb : x.B.length ≤ 549755813888) :
    Calls Try.prog 25 #[.pointer (some ⟨d, 0, none⟩), .agg #[.int .i64 x.o.K, .int .i64 x.o.who, .string x.o.s, .slice x.o.dx x.o.dn x.o.dc, .int .i64 x.o.N, .int .i64 x.o.t0, .int .i64 x.o.t1, .bool x.o.t2, .slice x.o.kx x.o.kn x.o.kc, .int .u8 x.o.junk]] (w.alloc ob) fun e w' =>
      e = .returned (.int .i64 (D.does x.o x.B).2) ∧ LS W w' d (D.does x.o x.B).1 u l ∧ w.heap.size < w'.heap.size ∧ ∀ i v, (w.alloc ob).cell? ⟨w.heap.size, i, none⟩ = some v → w'.cell? ⟨w.heap.size, i, none⟩ = some v := by
  obtain ⟨F, h1, h2, h3, h4, h5⟩ := h
  have eW : Ext Nil w (w.alloc ob) := (Ext.refl _ _).alloc _
  refine (does_a _ d D F (h1.ext eW fun _ _ h => h) x.o x.B x.ks (ho.ext0 (h3.same eW)) (fun k hk hf => by have := ho.dlt k hk; have := h2 k hf; omega) hc ha hb).mono ?_
  rintro e w' ⟨he, F', hD, hS⟩
  have hs := (h3.same eW).size
  have hsz : w.heap.size < (w.alloc ob).heap.size := by simp
  refine ⟨he, ⟨F', hD, fun k hk => (hS.2 k hk).elim (h2 k) fun h => by omega, (h3.same eW).trans hS.1 fun i hi hf => by have := h2 i hf; omega, (h4.ext0 eW).extF hS.1 h5, fun k hk hf => ?_⟩, Nat.lt_of_lt_of_le hsz hS.1.size, fun i v hv => hS.1.cell hv fun hf => ?_⟩
  · rcases hS.2 k hf with h | h
    · exact h5 k hk h
    · have := h4.feet_lt k hk
      omega
  · have := h1.lt _ hf
    exact absurd this (Nat.lt_irrefl _)
theorem ls_booked {W w w' : World} {d : Nat} {D : Dk} {F : Nat → Prop} {l' : List SI} {v' : Value} (h1 : Disk w d D F) (h2 : ∀ k, F k → W.heap.size ≤ k) (h3 : Ext Nil W w) (hR : Row kSafe w' v' l') (e : Ext Nil w w') (hv : ∀ k, inFoot v' k → w.heap.size ≤ k) (hi : ∀ x ∈ l', ∀ k, inFoot x.v k → ¬ F k) : LS W w' d D v' l' := by
  refine ⟨F, h1.ext e fun _ _ h => h, h2, h3.same e, hR, ?_⟩
  rintro k (hk | ⟨x, hx, hk⟩) hf
  · have := h1.lt k hf
    have := hv k hk
    omega
  · exact hi x hx k hk hf
theorem ls_open (W w : World) (d : Nat) (D : Dk) (u : Value) (l : List SI) (h : LS W w d D u l) (s : ByteArray) (hfew : l.length ≤ 1099511627775) :
    Calls Try.prog 28 #[u, .string s, .bool false] w fun e w' => ∃ v', e = .returned v' ∧ LS W w' d D v' (openL l s.data.toList) := by
  obtain ⟨F, h1, h2, h3, h4, h5⟩ := h
  refine (loosen_open w u l h4 s hfew).mono ?_
  rintro e w' ⟨v', rfl, hR, e1, hv⟩
  refine ⟨v', rfl, ls_booked h1 h2 h3 hR e1 hv fun x hx k hk => ?_⟩
  obtain ⟨y, hy, rfl⟩ := List.mem_map.1 hx
  refine h5 k (.inr ⟨y, hy, ?_⟩)
  split at hk <;> exact hk
theorem ls_gone (W w : World) (d : Nat) (D : Dk) (u : Value) (l : List SI) (h : LS W w d D u l) (s : ByteArray) (hfew : l.length ≤ 1099511627775) :
    Calls Try.prog 28 #[u, .string s, .bool true] w fun e w' => ∃ v', e = .returned v' ∧ LS W w' d D v' (offL l s.data.toList) := by
  obtain ⟨F, h1, h2, h3, h4, h5⟩ := h
  refine (loosen_gone w u l h4 s hfew).mono ?_
  rintro e w' ⟨v', rfl, hR, e1, hv⟩
  exact ⟨v', rfl, ls_booked h1 h2 h3 hR e1 hv fun x hx k hk => h5 k (.inr ⟨x, (List.mem_filter.1 hx).1, hk⟩)⟩
theorem ls_read (W w : World) (d : Nat) (D : Dk) (u : Value) (l : List SI) (h : LS W w d D u l) (s : ByteArray) (hs : s.size ≤ maxLen) :
    Calls Try.prog 29 #[.pointer (some ⟨d, 0, none⟩), .string s] w fun e w' => ∃ ao cap, e = .returned (.tuple #[.slice ao (D.bytes s.data.toList).length cap, .int .i64 (D.seek s.data.toList)]) ∧ LSB W w' d D u l (.slice ao (D.bytes s.data.toList).length cap) (D.bytes s.data.toList) ∧ Ext Nil w w' := by
  obtain ⟨F, h1, h2, h3, h4, h5⟩ := h
  refine (read_m w d D F h1 s hs).mono ?_
  rintro e w' ⟨ao, cap, rfl, O, S⟩
  exact ⟨ao, cap, rfl, ⟨F, h1.ext S.1 fun _ _ h => h, h2, h3.same S.1, h4.ext0 S.1, h5, O.bytes, fun k hk => ⟨O.lt k hk, fun hf => by have := h1.lt k hf; have := (S.2 k hk).resolve_left fun h => h; omega⟩⟩, S.1⟩
theorem ls_note (W w : World) (d : Nat) (D : Dk) (u : Value) (l : List SI) (b : Value) (B : List UInt8) (h : LSB W w d D u l b B) (s : ByteArray) (hfew : l.length ≤ 1099511627775) :
    Calls Try.prog 30 #[u, .string s, b] w fun e w' => ∃ v', e = .returned v' ∧ LS W w' d D v' (noteL l ⟨s.data.toList, B, false, b⟩) := by
  obtain ⟨F, h1, h2, h3, h4, h5, h6, h7⟩ := h
  refine (note_m w u l h4 s b B h6 (fun k hk => (h7 k hk).1) hfew).mono ?_
  rintro e w' ⟨v', rfl, hR, e1, hv⟩
  refine ⟨v', rfl, ls_booked h1 h2 h3 hR e1 hv fun x hx k hk => ?_⟩
  rcases List.mem_append.1 hx with hx | hx
  · exact h5 k (.inr ⟨x, (List.mem_filter.1 hx).1, hk⟩)
  · rw [List.mem_singleton] at hx
    subst hx
    exact (h7 k hk).2
end Go.Proofs.Ytnppneilbkmnfaa
