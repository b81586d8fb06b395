/- The document's disk: what it is that it stands; contracts of Good, name, New, used, at, asked, On, Calls. Condition: the disk stands. | The document's disk: the contract of befall. Condition: the disk stands; few calls were made. | The document's disk: the contract of put. Condition: the disk stands; the file's bytes are none of its own blocks. | The document's disk: the contract of Replace. Condition: the disk stands; few calls were made; the bytes are none of its own. -/
import Derived.Test.YtnppneilbkmnfaaK4
namespace Go.Proofs.Ytnppneilbkmnfaa
open Go.RowKit

def kQ : RK TI := ⟨132, 3, TI.cells, TI.v, fun x => x.f.b⟩
/-- the troubles' row -/
def kArm : RK ArmM := ⟨144, 4, armCells, fun _ => .slice none 0 0, fun _ => []⟩
theorem Row.extA {F : Nat → Prop} {w w' : World} {v : Value} {l : List ArmM} (h : Row kArm w v l) (e : Ext F w w') (hf : ∀ k, inFoot v k → ¬ F k) : Row kArm w' v l := h.ext e hf fun x _ k hk => by simp [kArm, inFoot, foot] at hk
structure QAt (w : World) (q : Nat) (fv av : Value) (fl : List TI) (D : Dk) : Prop where
  cells : At w q 131 [.bool true, .int .i64 D.lim, fv, .int .i64 D.calls, .bool D.off, .bool D.out, av]
  files : Row kQ w fv fl
  same : fl.map TI.f = D.fs
  arms : Row kArm w av D.arms
  apq : ∀ k, feet kQ fv fl k → k ≠ q
  apa : ∀ k, inFoot av k → k ≠ q ∧ ¬ feet kQ fv fl k
  wf : D.Wf
/-- all blocks of the document's disk -/
def qbl (q : Nat) (fv av : Value) (fl : List TI) : Nat → Prop := fun k => k = q ∨ feet kQ fv fl k ∨ inFoot av k
def QDisk (w : World) (q : Nat) (D : Dk) (G : Nat → Prop) : Prop := ∃ fv av fl, QAt w q fv av fl D ∧ G = qbl q fv av fl
theorem QAt.ext {F : Nat → Prop} {w w' : World} {q : Nat} {fv av : Value} {fl : List TI} {D : Dk} (h : QAt w q fv av fl D) (e : Ext F w w') (hf : ∀ k, qbl q fv av fl k → ¬ F k) : QAt w' q fv av fl D :=
  ⟨h.cells.ext e (hf q (.inl rfl)), h.files.extF e fun k hk => hf k (.inr (.inl hk)), h.same, h.arms.extA e fun k hk => hf k (.inr (.inr hk)), h.apq, h.apa, h.wf⟩
theorem QAt.ext0 {w w' : World} {q : Nat} {fv av : Value} {fl : List TI} {D : Dk} (h : QAt w q fv av fl D) (e : Ext Nil w w') : QAt w' q fv av fl D := h.ext e fun _ _ h => h
theorem QAt.lt {w : World} {q : Nat} {fv av : Value} {fl : List TI} {D : Dk} (h : QAt w q fv av fl D) : ∀ k, qbl q fv av fl k → k < w.heap.size := by
  rintro k (rfl | hk | hk)
  · exact h.cells.lt
  · exact h.files.feet_lt k hk
  · exact h.arms.lt k hk
theorem QDisk.ext {F : Nat → Prop} {w w' : World} {q : Nat} {D : Dk} {G : Nat → Prop} (h : QDisk w q D G) (e : Ext F w w') (hf : ∀ k, G k → ¬ F k) : QDisk w' q D G := by
  obtain ⟨fv, av, fl, h, rfl⟩ := h
  exact ⟨fv, av, fl, h.ext e hf, rfl⟩
theorem QDisk.lt {w : World} {q : Nat} {D : Dk} {G : Nat → Prop} (h : QDisk w q D G) : ∀ k, G k → k < w.heap.size := by
  obtain ⟨fv, av, fl, h, rfl⟩ := h
  exact h.lt
theorem QDisk.self {w : World} {q : Nat} {D : Dk} {G : Nat → Prop} (h : QDisk w q D G) : G q := by
  obtain ⟨fv, av, fl, h, rfl⟩ := h
  exact .inl rfl
theorem QAt.len {w : World} {q : Nat} {fv av : Value} {fl : List TI} {D : Dk} (h : QAt w q fv av fl D) : fl.length = D.fs.length := by rw [← h.same, List.length_map]
theorem QAt.fs {w : World} {q : Nat} {fv av : Value} {fl : List TI} {D : Dk} (h : QAt w q fv av fl D) {k : Nat} {x : TI} (hx : fl[k]? = some x) : D.fs[k]? = some x.f := by rw [← h.same, List.getElem?_map, hx]; rfl
theorem Row.cellQ {w : World} {g c : Nat} {n : Nat} {l : List TI} (h : Row kQ w (.slice (some ⟨g, 0, none⟩) n (c + 1)) l) {k : Nat} {x : TI} (hx : l[k]? = some x) :
    ∃ bx cx, x.v = .slice bx x.f.b.length cx ∧ w.cell? ⟨g, k * 3, none⟩ = some (.string ⟨x.f.nm.toArray⟩) ∧ w.cell? ⟨g, k * 3 + 1, none⟩ = some (.slice bx x.f.b.length cx) ∧ w.cell? ⟨g, k * 3 + 2, none⟩ = some (.int .i64 x.f.sy) ∧ g < w.heap.size ∧ Bytes w (.slice bx x.f.b.length cx) x.f.b ∧ x.f.b.length ≤ cx ∧ cx ≤ maxLen := by
  have hB := h.bytes x (List.mem_of_getElem? hx)
  have hB : Bytes w x.v x.f.b := hB
  obtain ⟨bx, cx, hv, h1, h2, -⟩ := hB.open
  obtain ⟨hi, he⟩ := List.getElem?_eq_some_iff.1 hx
  subst he
  obtain ⟨g', c', h0, -, -, hg, hc⟩ := h.open (fun x _ => rfl) (by omega) (show 0 < 3 by omega)
  simp only [Value.slice.injEq, Option.some.injEq, Addr.mk.injEq, and_true] at h0
  obtain ⟨rfl, -, -⟩ := h0
  have c0 := hc k hi 0 (encS l[k].f.nm) rfl
  have c1 := hc k hi 1 l[k].v rfl
  have c2 := hc k hi 2 (.int .i64 l[k].f.sy) rfl
  rw [hv] at c1 hB
  exact ⟨bx, cx, hv, c0, c1, c2, hg, hB, h1, h2⟩

theorem good_m (w : World) (q : Nat) (fv av : Value) (fl : List TI) (D : Dk) (h : QAt w q fv av fl D) : Calls Try.prog 74 #[.pointer (some ⟨q, 0, none⟩)] w fun e w' => e = .returned (.bool true) ∧ w = w' := by
  have c0 := h.cells.cell 0 rfl
  go_enter Try.func74, Try.ntmps74
  go_wp2
  go_ret
  exact ⟨rfl, rfl⟩
theorem qon_m (w : World) (q : Nat) (fv av : Value) (fl : List TI) (D : Dk) (h : QAt w q fv av fl D) : Calls Try.prog 79 #[.pointer (some ⟨q, 0, none⟩)] w fun e w' => e = .returned (.bool (!D.off)) ∧ w = w' := by
  have c4 := h.cells.cell 4 rfl
  go_enter Try.func79, Try.ntmps79
  go_wp2_with (go_at_call 74; refine (good_m w q fv av fl D h).mono ?_; rintro e w' ⟨rfl, rfl⟩)
  go_ret
  exact ⟨rfl, rfl⟩
theorem qcalls_m (w : World) (q : Nat) (fv av : Value) (fl : List TI) (D : Dk) (h : QAt w q fv av fl D) : Calls Try.prog 78 #[.pointer (some ⟨q, 0, none⟩)] w fun e w' => e = .returned (.int .i64 D.calls) ∧ w = w' := by
  have c3 := h.cells.cell 3 rfl
  go_enter Try.func78, Try.ntmps78
  go_wp2_with (go_at_call 74; refine (good_m w q fv av fl D h).mono ?_; rintro e w' ⟨rfl, rfl⟩)
  go_ret
  exact ⟨rfl, rfl⟩
set_option maxRecDepth 100000 in
theorem rname_any (w : World) (s : ByteArray) (hs : s.size ≤ maxLen) : Calls Try.prog 97 #[.string s] w fun e w' => e = .returned (.bool (nmOk s.data.toList)) ∧ w = w' := by
  unfold maxLen at hs
  by_cases hl : s.size < 1 ∨ 32 < s.size
  · have hn : nmOk s.data.toList = false := by
      have h1 := strLen s
      unfold nmOk
      rw [h1, Bool.and_assoc]
      have : (decide (1 ≤ s.size) && decide (s.size ≤ 32)) = false := by
        rw [Bool.and_eq_false_iff, decide_eq_false_iff_not, decide_eq_false_iff_not]
        omega
      rw [this, Bool.and_false]
    rw [hn]
    rcases hl with hl | hl
    · have h1 : (s.size : Int) < 1 := by omega
      go_enter Try.func97, Try.ntmps97
      go_wp2_with fail
      go_ret
      exact ⟨rfl, rfl⟩
    · have h1 : ¬ (s.size : Int) < 1 := by omega
      have h2 : (32 : Int) < (s.size : Int) := by omega
      go_enter Try.func97, Try.ntmps97
      go_wp2_with fail
      go_ret
      exact ⟨rfl, rfl⟩
  · have h1 : ¬ (s.size : Int) < 1 := by omega
    have h2 : ¬ (32 : Int) < (s.size : Int) := by omega
    have HL := Lib.hid (show 1 ≤ s.size ∧ s.size ≤ 32 by omega)
    clear hl
    go_enter Try.func97, Try.ntmps97
    go_wp2_with fail
    go_loop [3] (fun i => ∃ k : Nat, k ≤ s.size ∧ i = .int .i64 k ∧ okTo s k) (fun i => s.size - (intOf i).toNat)
    case atStart => exact ⟨0, Nat.zero_le _, rfl, rfl⟩
    case round =>
      obtain ⟨k, hk, rfl, hok⟩ := hrel
      by_cases hlt : k < s.size
      · have hsucc := Lib.hid fun hb => okTo_succ hok hlt hb
        have hbad := Lib.hid fun hb => nmOk_bad hlt hb
        have hc := (s[k]).toNat_lt
        generalize hcc : s[k] = c at *
        clear hok
        go_wp2
        all_goals try simp only [bne_iff_ne, ne_eq, Bool.not_eq_true', decide_eq_false_iff_not, bne_eq_false_iff_eq, Bool.not_eq_false', decide_eq_true_eq] at *
        all_goals first
          | exact ⟨⟨k + 1, by omega, by go_num, hsucc.out ((nmByte_iff c).2 (by omega))⟩, by simp [intOf]; omega⟩
          | (go_ret; exact ⟨ret_bool (hbad.out (nmByte_not c (by omega))).symm, rfl⟩)
      · obtain rfl : k = s.size := by omega
        have hend := Lib.hid (nmOk_end hok)
        clear hok
        go_wp2_with fail
        go_ret
        refine ⟨ret_bool ?_, rfl⟩
        rw [hend.out]
        simp [HL.out.1, HL.out.2]
theorem qused_m (w : World) (q : Nat) (fv av : Value) (fl : List TI) (D : Dk) (h : QAt w q fv av fl D) : Calls Try.prog 85 #[.pointer (some ⟨q, 0, none⟩)] w fun e w' => e = .returned (.int .i64 D.used) ∧ w = w' := by
  obtain ⟨fa, fc, rfl, hf1, hf2⟩ := h.files.shape
  have c2 := h.cells.cell 2 rfl
  have hu := h.wf.used
  have hl1 := h.wf.lim1
  have hcnt := h.wf.count
  rw [← h.len] at hcnt
  have H := Lib.hid h
  have hsum : ∀ k, sumF (D.fs.take k) ≤ sumF D.fs := by
    intro k
    have e : D.fs = D.fs.take k ++ D.fs.drop k := (List.take_append_drop ..).symm
    unfold sumF
    conv => rhs; rw [e]
    rw [List.map_append, List.sum_append]
    omega
  have HSUM := Lib.hid hsum
  clear h hsum
  go_enter Try.func85, Try.ntmps85
  go_wp2_with fail
  go_loop [3, 4] (fun n i => ∃ k : Nat, k ≤ fl.length ∧ n = .int .i64 (sumF (D.fs.take k) : Nat) ∧ i = .int .i64 k) (fun _ i => fl.length - (intOf i).toNat)
  case atStart => exact ⟨0, Nat.zero_le _, rfl, rfl⟩
  case round =>
    obtain ⟨k, hk, rfl, rfl⟩ := hrel
    by_cases hlt : k < fl.length
    · obtain ⟨x, hx⟩ : ∃ x, fl[k]? = some x := ⟨_, List.getElem?_eq_getElem hlt⟩
      obtain ⟨g, c, hg, -⟩ := H.out.files.open (fun x _ => rfl) (by omega) (show 0 < 3 by omega)
      simp only [Value.slice.injEq, true_and] at hg
      obtain ⟨rfl, rfl⟩ := hg
      obtain ⟨bx, cx, -, x0, x1, x2, hgl, -, hxc, hxm⟩ := H.out.files.cellQ hx
      have hnext : sumF (D.fs.take (k + 1)) = sumF (D.fs.take k) + x.f.b.length := by
        rw [List.take_add_one, H.out.fs hx]
        simp [sumF]
      have h2 := HSUM.out (k + 1)
      have hw : IntKind.i64.wrap (((sumF (D.fs.take k) : Nat) : Int) + (x.f.b.length : Int)) = ((sumF (D.fs.take (k + 1)) : Nat) : Int) := by
        rw [IntWalk.i64_in _ (by omega)]
        omega
      have HW := Lib.hid hw
      generalize sumF (D.fs.take k) = S at *
      clear hnext h2 hx
      go_wp2_with fail
      refine ⟨⟨k + 1, by omega, by first | rfl | rw [HW.out], by go_num⟩, by simp [intOf]; omega⟩
    · obtain rfl : k = fl.length := by omega
      have he : sumF (D.fs.take fl.length) = D.used := by rw [H.out.len, List.take_length]; rfl
      rw [he]
      have hnot : ¬ ((fl.length : Nat) : Int) < (fl.length : Int) := by omega
      clear he hlt
      go_wp2_with fail
      go_ret
      exact ⟨rfl, rfl⟩
/-- what 'at' finds -/
def AtQ (D : Dk) (s : Nm) (i : Int) : Prop := (∃ (k : Nat) (f : FileM), D.fs[k]? = some f ∧ f.nm = s ∧ D.find s = some f ∧ i = (k : Int)) ∨ (D.find s = none ∧ i = -1)
theorem qat_m (w : World) (q : Nat) (fv av : Value) (fl : List TI) (D : Dk) (h : QAt w q fv av fl D) (s : ByteArray) : Calls Try.prog 84 #[.pointer (some ⟨q, 0, none⟩), .string s] w fun e w' => ∃ i, e = .returned (.int .i64 i) ∧ AtQ D s.data.toList i ∧ w = w' := by
  obtain ⟨fa, fc, rfl, hf1, hf2⟩ := h.files.shape
  have c2 := h.cells.cell 2 rfl
  have hcnt := h.wf.count
  rw [← h.len] at hcnt
  have H := Lib.hid h
  clear h
  go_enter Try.func84, Try.ntmps84
  go_wp2_with fail
  go_loop [5] (fun i => ∃ k : Nat, k ≤ fl.length ∧ i = .int .i64 k ∧ ∀ j x, j < k → fl[j]? = some x → x.f.nm ≠ s.data.toList) (fun i => fl.length - (intOf i).toNat)
  case atStart => exact ⟨0, Nat.zero_le _, rfl, fun j x hj => by omega⟩
  case round =>
    obtain ⟨k, hk, rfl, hbefore⟩ := hrel
    have HB := Lib.hid hbefore
    clear hbefore
    by_cases hlt : k < fl.length
    · obtain ⟨x, hx⟩ : ∃ x, fl[k]? = some x := ⟨_, List.getElem?_eq_getElem hlt⟩
      obtain ⟨g, c, hg, -⟩ := H.out.files.open (fun x _ => rfl) (by omega) (show 0 < 3 by omega)
      simp only [Value.slice.injEq, true_and] at hg
      obtain ⟨rfl, rfl⟩ := hg
      obtain ⟨bx, cx, -, x0, x1, x2, hgl, -, hxc, hxm⟩ := H.out.files.cellQ hx
      have HX := Lib.hid hx
      clear hx
      by_cases hn : x.f.nm = s.data.toList
      · have hnb : (x.f.nm == s.data.toList) = true := by rw [hn]; simp
        have hnl : (x.f.nm == s.toList) = true := by rw [ByteArray.toList_eq]; exact hnb
        have HN := Lib.hid hn
        clear hn
        go_wp2_with fail
        go_ret
        refine ⟨_, rfl, .inl ⟨k, x.f, H.out.fs HX.out, HN.out, ?_, rfl⟩, rfl⟩
        have := findK_mem FileM.nm H.out.wf.rises (List.mem_of_getElem? (H.out.fs HX.out))
        rwa [HN.out] at this
      · have hnb : (x.f.nm == s.data.toList) = false := by rw [beq_eq_false_iff_ne]; exact hn
        have hnl : (x.f.nm == s.toList) = false := by rw [ByteArray.toList_eq]; exact hnb
        have HN := Lib.hid hn
        clear hn
        go_wp2_with fail
        refine ⟨⟨k + 1, by omega, by go_num, fun j y hj hy => ?_⟩, by simp [intOf]; omega⟩
        rcases Nat.lt_succ_iff_lt_or_eq.1 hj with hj | rfl
        · exact HB.out j y hj hy
        · rw [HX.out] at hy
          rw [← Option.some.inj hy]
          exact HN.out
    · obtain rfl : k = fl.length := by omega
      have hnot : ¬ ((fl.length : Nat) : Int) < (fl.length : Int) := by omega
      clear hlt
      go_wp2_with fail
      go_ret
      refine ⟨_, rfl, .inr ⟨(findK_none FileM.nm _ _).2 fun f hf => ?_, rfl⟩, rfl⟩
      rw [← H.out.same] at hf
      obtain ⟨x, hx, rfl⟩ := List.mem_map.1 hf
      obtain ⟨j, hj, rfl⟩ := List.mem_iff_getElem.1 hx
      exact HB.out j _ hj (List.getElem?_eq_getElem hj)
theorem qasked_m (w : World) (q : Nat) (fv av : Value) (fl : List TI) (D : Dk) (h : QAt w q fv av fl D) (s : ByteArray) (hs : s.size ≤ maxLen) : Calls Try.prog 83 #[.pointer (some ⟨q, 0, none⟩), .string s] w fun e w' => e = .returned (.int .i64 (D.refuse s.data.toList)) ∧ w = w' := by
  have c4 := h.cells.cell 4 rfl
  cases ho : D.off
  · rw [ho] at c4
    cases hn : nmOk s.data.toList
    · have e1 : D.refuse s.data.toList = 60 := by unfold Dk.refuse; rw [ho, hn]; rfl
      rw [e1]
      have HN := Lib.hid hn
      clear e1 ho hn
      go_enter Try.func83, Try.ntmps83
      go_wp2_with (first
        | (go_at_call 74; refine (good_m w q fv av fl D h).mono ?_; rintro e w' ⟨rfl, rfl⟩)
        | (go_at_call 97; refine (rname_any w s hs).mono ?_; rintro e w' ⟨rfl, rfl⟩; rw [HN.out]))
      go_ret
      exact ⟨rfl, rfl⟩
    · have e1 : D.refuse s.data.toList = 0 := by unfold Dk.refuse; rw [ho, hn]; rfl
      rw [e1]
      have HN := Lib.hid hn
      clear e1 ho hn
      go_enter Try.func83, Try.ntmps83
      go_wp2_with (first
        | (go_at_call 74; refine (good_m w q fv av fl D h).mono ?_; rintro e w' ⟨rfl, rfl⟩)
        | (go_at_call 97; refine (rname_any w s hs).mono ?_; rintro e w' ⟨rfl, rfl⟩; rw [HN.out]))
      go_ret
      exact ⟨rfl, rfl⟩
  · rw [ho] at c4
    have e1 : D.refuse s.data.toList = 63 := by unfold Dk.refuse; rw [ho]; rfl
    rw [e1]
    clear e1 ho
    go_enter Try.func83, Try.ntmps83
    go_wp2_with (go_at_call 74; refine (good_m w q fv av fl D h).mono ?_; rintro e w' ⟨rfl, rfl⟩)
    go_ret
    exact ⟨rfl, rfl⟩
theorem qnew_bad (w : World) (n : Int) (h : n < 1 ∨ 1073741824 < n) : Calls Try.prog 49 #[.int .i64 n] w fun e w' => e = .returned (.tuple #[.pointer none, .int .i64 2]) ∧ w = w' := by
  by_cases h1 : n < 1
  · go_enter Try.func49, Try.ntmps49
    go_wp2
    go_ret2
    exact ⟨rfl, rfl⟩
  · have h2 : 1073741824 < n := by omega
    go_enter Try.func49, Try.ntmps49
    go_wp2
    go_ret2
    exact ⟨rfl, rfl⟩
theorem qnew_at (w : World) (n : Nat) (h0 : 1 ≤ n) (h1 : n ≤ 1073741824) : Calls Try.prog 49 #[.int .i64 n] w fun e w' => e = .returned (.tuple #[.pointer (some ⟨w.heap.size, 0, none⟩), .int .i64 0]) ∧ QAt w' w.heap.size (.slice none 0 0) (.slice none 0 0) [] (Dk.fresh n) ∧ Ext Nil w w' := by
  have g0 : ¬ (n : Int) < 1 := by omega
  have g1 : ¬ 1073741824 < (n : Int) := by omega
  go_enter Try.func49, Try.ntmps49
  go_wp2
  go_ret2
  have hD := At.new w [.bool true, .int .i64 n, .slice none 0 0, .int .i64 0, .bool false, .bool false, .slice none 0 0] 131
  refine ⟨rfl, ⟨hD, Row.nil _, rfl, Row.nil _, ?_, ?_, Dk.fresh_wf h0 h1⟩, (Ext.refl _ _).alloc _⟩
  · rintro k (hk | ⟨x, hx, -⟩)
    · simp [inFoot, foot] at hk
    · cases hx
  · intro k hk
    simp [inFoot, foot] at hk
end Go.Proofs.Ytnppneilbkmnfaa
namespace Go.Proofs.Ytnppneilbkmnfaa
open Go.RowKit

/-- the disk behind a call's number -/
def befD (D : Dk) : Dk := match D.hit with | none => D.tick | some a => if a.kind = 1 then D.tick else { D.tick with off := true }
def befDo (D : Dk) : Bool := match D.hit with | none => true | some a => if a.kind = 1 then false else a.done
def befE (D : Dk) : Int := match D.hit with | none => 0 | some a => if a.kind = 1 then 64 else 63
theorem num_bef (D : Dk) (g : List FileM → List FileM) : (D.num fun E => { E with fs := g E.fs }) = ({ befD D with fs := if befDo D then g D.fs else D.fs }, befE D) := by
  unfold Dk.num befD befDo befE
  cases D.hit with
  | none => rfl
  | some a =>
    simp only []
    by_cases hk : a.kind = 1
    · simp only [hk, if_true, Bool.false_eq_true, if_false]
      rfl
    · simp only [hk, if_false]
      cases a.done <;> rfl
theorem befD_fs (D : Dk) : (befD D).fs = D.fs := by
  unfold befD
  split
  · rfl
  · split <;> rfl
theorem befD_wf {D : Dk} (h : D.Wf) : (befD D).Wf := by
  unfold befD
  split
  · exact tick_wf h
  · split
    · exact tick_wf h
    · exact off_wf (tick_wf h)
def isNow (n : Nat) (a : ArmM) : Bool := a.call == n
def keepA (n : Nat) (l : List ArmM) : List ArmM := l.filter fun a => !(a.call == n)
theorem keepA_snoc {n : Nat} {l : List ArmM} {k : Nat} {a : ArmM} (h : l[k]? = some a) : keepA n (l.take (k + 1)) = keepA n (l.take k) ++ (if a.call == n then [] else [a]) := by
  unfold keepA
  rw [List.take_add_one, h, List.filter_append]
  cases hc : a.call == n <;> simp [hc]
theorem keepA_len (n : Nat) (l : List ArmM) : (keepA n l).length ≤ l.length := List.length_filter_le ..
theorem findA_snoc {n : Nat} {l : List ArmM} {k : Nat} {a : ArmM} (h : l[k]? = some a) : (l.take (k + 1)).find? (isNow n) = match (l.take k).find? (isNow n) with | some b => some b | none => if a.call == n then some a else none := by
  rw [List.take_add_one, h, List.find?_append]
  cases (l.take k).find? (isNow n) with
  | some b => rfl
  | none =>
    simp only [Option.none_or, Option.toList_some, List.find?_cons, List.find?_nil]
    unfold isNow
    cases a.call == n <;> rfl
theorem info_armedQ : (Try.prog.info? 144).map (fun i => (i.zero, i.size, i.bytes)) = some (some (.agg #[.int .i64 0, .int .i64 0, .int .i64 0, .bool false]), 4, 32) := by kernel_rfl
theorem Row.cellA {w : World} {g c : Nat} {n : Nat} {l : List ArmM} (h : Row kArm w (.slice (some ⟨g, 0, none⟩) n (c + 1)) l) {k : Nat} {x : ArmM} (hx : l[k]? = some x) :
    w.cell? ⟨g, k * 4, none⟩ = some (.int .i64 x.call) ∧ w.cell? ⟨g, k * 4 + 1, none⟩ = some (.int .i64 x.tat) ∧ w.cell? ⟨g, k * 4 + 2, none⟩ = some (.int .i64 x.kind) ∧ w.cell? ⟨g, k * 4 + 3, none⟩ = some (.bool x.done) ∧ g < w.heap.size := by
  obtain ⟨hi, he⟩ := List.getElem?_eq_some_iff.1 hx
  subst he
  obtain ⟨g', c', h0, -, -, hg, hc⟩ := h.open (fun x _ => rfl) (by omega) (show 0 < 4 by omega)
  simp only [Value.slice.injEq, Option.some.injEq, Addr.mk.injEq, and_true] at h0
  obtain ⟨rfl, -, -⟩ := h0
  exact ⟨hc k hi 0 _ rfl, hc k hi 1 _ rfl, hc k hi 2 _ rfl, hc k hi 3 _ rfl, hg⟩
theorem arm_next {w : World} {ua : Option Addr} {uc : Nat} {l : List ArmM} (h : Row kArm w (.slice ua l.length uc) l) (x : ArmM) (hfit : l.length ≤ 1099511627776) (ty : TypeId) :
    ∃ ao cap w', (Builtin.append_ #[129, 129] ty #[.slice ua l.length uc, .slice (some ⟨w.heap.size, 0, none⟩) 1 1]).run Try.prog (w.alloc (.cells #[.int .i64 x.call, .int .i64 x.tat, .int .i64 x.kind, .bool x.done] 144 (0, 0))) = .ok (.slice ao (l.length + 1) cap) w' ∧
      Row kArm w' (.slice ao (l.length + 1) cap) (l ++ [x]) ∧ Step (inFoot (.slice ua l.length uc)) w (inFoot (.slice ao (l.length + 1) cap)) w' := by
  have e : Ext Nil w (w.alloc (.cells #[.int .i64 x.call, .int .i64 x.tat, .int .i64 x.kind, .bool x.done] 144 (0, 0))) := (Ext.refl _ _).alloc _
  obtain ⟨ao, cap, w', hrun, h1, h2⟩ := Row.append (K := kArm) (ts := 129) (h.ext0 e).row Try.underlying129 info_armedQ rfl (by omega) (x := x) (Reads.item w (armCells x) 144 4 rfl) (by
    intro u hu
    simp only [kArm, armCells, List.mem_cons, List.not_mem_nil, or_false] at hu
    rcases hu with rfl | rfl | rfl | rfl <;> rfl) hfit ty
  refine ⟨ao, cap, w', hrun, ?_, (e.mono fun _ _ h => h.elim).same h2.1, fun k hk => (h2.2 k hk).imp id fun h => Nat.le_trans e.size h⟩
  exact h.snoc e ⟨rfl, none, 0, rfl, Nat.le_refl _, by simp [maxLen], fun h => absurd rfl h⟩ (fun k hq => by simp [kArm, inFoot, foot] at hq) (by simpa using h1) h2

/-- what a round of befall finds -/
structure BefR (w0 w : World) (q b n : Nat) (fv av : Value) (fl : List TI) (D : Dk) (k : Nat) (u f : Value) : Prop where
  disk : QAt w q fv av fl { D with calls := n }
  row : Row kArm w u (keepA n (D.arms.take k))
  new : ∀ i, inFoot u i → b < i
  hit : ((D.arms.take k).find? (isNow n) = none ∧ f = .int .i64 (-1) ∧ At w b 29 [.int .i64 0, .int .i64 0, .bool false]) ∨
    ∃ a j, (D.arms.take k).find? (isNow n) = some a ∧ f = .int .i64 ((j : Nat) : Int) ∧ At w b 29 [.int .i64 a.tat, .int .i64 a.kind, .bool a.done]
  ext : Ext (fun i => i = q) w0 w

theorem QAt.rearm {w : World} {q : Nat} {fv av u : Value} {fl : List TI} {D D' : Dk} (h : QAt w q fv av fl D) (hu : Row kArm w u D'.arms) (hk : ∀ k, inFoot u k → k ≠ q ∧ ¬ feet kQ fv fl k)
    (h1 : D'.lim = D.lim) (h2 : D'.fs = D.fs) (h3 : D'.off = D.off) (h4 : D'.out = D.out) (h5 : D'.calls = D.calls) (wf : D'.Wf) : QAt (w.setCell ⟨q, 6, none⟩ u) q fv u fl D' := by
  have e : Ext (One q) w (w.setCell ⟨q, 6, none⟩ u) := (Ext.refl (One q) w).setCell (p := ⟨q, 6, none⟩) (fun _ => rfl) u
  refine ⟨?_, h.files.extF e fun k hk e => h.apq k hk e, by rw [h2]; exact h.same, hu.extA e fun k hk' e => (hk k hk').1 e, h.apq, hk, wf⟩
  rw [h1, h3, h4, h5]
  exact h.cells.set 6 u
theorem QAt.offed {w : World} {q : Nat} {fv av : Value} {fl : List TI} {D : Dk} (h : QAt w q fv av fl D) : QAt (w.setCell ⟨q, 4, none⟩ (.bool true)) q fv av fl { D with off := true } := by
  have e : Ext (One q) w (w.setCell ⟨q, 4, none⟩ (.bool true)) := (Ext.refl (One q) w).setCell (p := ⟨q, 4, none⟩) (fun _ => rfl) _
  exact ⟨h.cells.set 4 (.bool true), h.files.extF e fun k hk e => h.apq k hk e, h.same, h.arms.extA e fun k hk e => (h.apa k hk).1 e, h.apq, h.apa, off_wf h.wf⟩
theorem befR_hit {w0 wr : World} {q n nq : Nat} {fv av u f : Value} {fl : List TI} {D : Dk} {k : Nat} {a : ArmM} (h : BefR w0 wr q w0.heap.size n fv av fl D k u f) (hlt : ∀ i, qbl q fv av fl i → i < w0.heap.size)
    (hA : At (wr.drewN nq) w0.heap.size 29 [.int .i64 0, .int .i64 0, .bool false]) (hks : keepA n (D.arms.take (k + 1)) = keepA n (D.arms.take k)) (hfs : (D.arms.take (k + 1)).find? (isNow n) = some a) :
    BefR w0 ((((wr.drewN nq).setCell ⟨w0.heap.size, 0, none⟩ (.int .i64 a.tat)).setCell ⟨w0.heap.size, 1, none⟩ (.int .i64 a.kind)).setCell ⟨w0.heap.size, 2, none⟩ (.bool a.done)) q w0.heap.size n fv av fl D (k + 1) u (.int .i64 ((k : Nat) : Int)) := by
  have e : Ext (One w0.heap.size) wr ((((wr.drewN nq).setCell ⟨w0.heap.size, 0, none⟩ (.int .i64 a.tat)).setCell ⟨w0.heap.size, 1, none⟩ (.int .i64 a.kind)).setCell ⟨w0.heap.size, 2, none⟩ (.bool a.done)) :=
    (((((Ext.refl (One w0.heap.size) wr).drewN nq).setCell (p := ⟨w0.heap.size, 0, none⟩) (fun _ => rfl) _).setCell (p := ⟨w0.heap.size, 1, none⟩) (fun _ => rfl) _).setCell (p := ⟨w0.heap.size, 2, none⟩) (fun _ => rfl) _)
  refine ⟨h.disk.ext e fun i hi hf => by have hf : i = w0.heap.size := hf; have := hlt i hi; omega, by rw [hks]; exact h.row.extA e fun i hi hf => by have hf : i = w0.heap.size := hf; have := h.new i hi; omega, h.new, .inr ⟨a, k, hfs, rfl, ?_⟩, h.ext.trans e fun i hi hf => by have hf : i = w0.heap.size := hf; omega⟩
  exact ((hA.set 0 (.int .i64 a.tat)).set 1 (.int .i64 a.kind)).set 2 (.bool a.done)
set_option maxRecDepth 20000 in
set_option maxHeartbeats 2000000 in
theorem befall_m (w : World) (q : Nat) (fv av : Value) (fl : List TI) (D : Dk) (h : QAt w q fv av fl D) (hc : D.calls ≤ 1099511627776) (ha : D.arms.length ≤ 1099511627776) :
    Calls Try.prog 86 #[.pointer (some ⟨q, 0, none⟩)] w fun e w' => ∃ u, e = .returned (.tuple #[.bool (befDo D), .int .i64 (befE D)]) ∧ QAt w' q fv u fl (befD D) ∧ Ext (fun i => i = q) w w' ∧ ∀ k, inFoot u k → w.heap.size ≤ k := by
  obtain ⟨aa, ac, rfl, ha1, ha2⟩ := h.arms.shape
  obtain ⟨fa, fc, rfl, hf1, hf2⟩ := h.files.shape
  unfold maxLen at ha2 hf2
  obtain ⟨n, hn⟩ : ∃ n, n = D.calls + 1 := ⟨_, rfl⟩
  have hnw : IntKind.i64.wrap ((D.calls : Int) + 1) = (n : Int) := by rw [IntWalk.i64_in _ (by omega)]; omega
  have c3 := h.cells.cell 3 rfl
  have z3 := h.cells.frozen 3
  have hql := h.cells.lt
  have e1 : Ext (fun i => i = q) w (w.setCell ⟨q, 3, none⟩ (.int .i64 n)) := (Ext.refl (fun i => i = q) w).setCell (p := ⟨q, 3, none⟩) (fun _ => rfl) _
  have h1 : QAt (w.setCell ⟨q, 3, none⟩ (.int .i64 n)) q (.slice fa fl.length fc) (.slice aa D.arms.length ac) fl { D with calls := n } :=
    ⟨h.cells.set 3 (.int .i64 n), h.files.extF e1 fun k hk => h.apq k hk, h.same, h.arms.extA e1 fun k hk => (h.apa k hk).1, h.apq, h.apa, ⟨h.wf.rises, h.wf.lim0, h.wf.lim1, h.wf.used, h.wf.synced, h.wf.names, h.wf.count, h.wf.kinds, h.wf.outOff⟩⟩
  have e2 : Ext Nil (w.setCell ⟨q, 3, none⟩ (.int .i64 n)) ((w.setCell ⟨q, 3, none⟩ (.int .i64 n)).alloc (.cells #[.int .i64 0, .int .i64 0, .bool false] 29 (0, 0))) := (Ext.refl _ _).alloc _
  have a2 := At.new (w.setCell ⟨q, 3, none⟩ (.int .i64 n)) [.int .i64 0, .int .i64 0, .bool false] 29
  have s2 : (w.setCell ⟨q, 3, none⟩ (.int .i64 n)).heap.size = w.heap.size := by simp [World.setCell]
  rw [s2] at a2
  have H2 := Lib.hid (h1.ext0 e2); have HA2 := Lib.hid a2; have HE2 := Lib.hid (e1.trans e2 fun _ _ h => h.elim); have HN := Lib.hid hn; have HQL := Lib.hid hql; have HARM := Lib.hid h.wf; have HLT := Lib.hid h.lt
  clear h h1 e1 e2 a2 s2 hn hql
  go_enter Try.func86, Try.ntmps86
  go_wp2_with fail
  go_loopw [4, 5, 7] (fun u f i wr => ∃ (k : Nat), i = .int .i64 (k : Int) ∧ k ≤ D.arms.length ∧ BefR w wr q w.heap.size n (.slice fa fl.length fc) (.slice aa D.arms.length ac) fl D k u f) (fun _ _ i _ => D.arms.length - (intOf i).toNat)
  case atStart => exact ⟨0, rfl, Nat.zero_le _, H2.out, Row.nil _, by simp [inFoot, foot], .inl ⟨rfl, rfl, HA2.out⟩, HE2.out⟩
  case round =>
    obtain ⟨k, rfl, hk, hR⟩ := hrel
    obtain ⟨ua, uc, rfl, hu1, hu2⟩ := hR.row.shape
    have d3 := hR.disk.cells.cell 3 rfl
    have d6 := hR.disk.cells.cell 6 rfl
    have hklen := keepA_len n (D.arms.take k)
    rw [List.length_take] at hklen
    have hws := hR.ext.size
    have hbl : w.heap.size < wr.heap.size := by
      rcases hR.hit with ⟨-, -, h⟩ | ⟨_, _, -, -, h⟩ <;> exact h.lt
    by_cases hlt : k < D.arms.length
    · obtain ⟨a, hx⟩ : ∃ a, D.arms[k]? = some a := ⟨_, List.getElem?_eq_getElem hlt⟩
      obtain ⟨g, c, hg, -⟩ := hR.disk.arms.open (fun x _ => rfl) (show 0 < D.arms.length by omega) (show 0 < 4 by omega)
      have hg : (Value.slice aa D.arms.length ac) = .slice (some ⟨g, 0, none⟩) D.arms.length (c + 1) := hg
      simp only [Value.slice.injEq, true_and] at hg
      obtain ⟨rfl, rfl⟩ := hg
      obtain ⟨x0, x1, x2, x3, hgl⟩ := hR.disk.arms.cellA hx
      have hks := keepA_snoc (n := n) hx
      have hfs := findA_snoc (n := n) hx
      have HKS := Lib.hid hks; have HFS := Lib.hid hfs; have HR := Lib.hid hR
      clear hks hfs hx
      by_cases hcall : a.call = n
      · have hcb : (a.call == n) = true := by rw [hcall]; simp
        have hne : ((a.call : Int) != (n : Int)) = false := by rw [hcall]; simp
        have hnn : (a.call != n) = false := by rw [hcall]; simp
        have HCB := Lib.hid hcb
        clear hcall hcb
        rcases hR.hit with ⟨hnone, rfl, hAb⟩ | ⟨b, j, hsome, rfl, hAb⟩
        · have HNO := Lib.hid hnone; have HAB := Lib.hid hAb
          have b0 := hAb.cell 0 rfl
          have b1 := hAb.cell 1 rfl
          have b2 := hAb.cell 2 rfl
          have y0 := hAb.frozen 0
          have y1 := hAb.frozen 1
          have y2 := hAb.frozen 2
          clear hR hnone hAb
          go_wp2_with fail
          go_quiet (fail)
          go_wp2_with fail
          refine ⟨⟨k + 1, by first | rfl | go_num, hlt, befR_hit HR.out HLT.out (HAB.out.ext ((Ext.refl Nil wr).drewN nq) fun h => h) ?_ ?_⟩, by simp [intOf]; omega⟩
          · rw [HKS.out, HCB.out, if_pos rfl, List.append_nil]
          · rw [HFS.out, HNO.out, HCB.out, if_pos rfl]
        · have hj : ¬ ((j : Nat) : Int) < 0 := by omega
          have HSO := Lib.hid hsome; have HAB := Lib.hid hAb
          clear hR hsome hAb
          go_wp2_with fail
          go_quiet (fail)
          go_wp2_with fail
          refine ⟨⟨k + 1, by first | rfl | go_num, hlt, ⟨HR.out.disk.ext0 ((Ext.refl Nil wr).drewN nq), ?_, HR.out.new, .inr ⟨b, j, ?_, rfl, HAB.out.ext ((Ext.refl Nil wr).drewN nq) fun h => h⟩, HR.out.ext.drewN nq⟩⟩, by simp [intOf]; omega⟩
          · rw [HKS.out, HCB.out, if_pos rfl, List.append_nil]
            exact HR.out.row.ext0 ((Ext.refl Nil wr).drewN nq)
          · rw [HFS.out, HSO.out]
      · have hcb : (a.call == n) = false := by rw [beq_eq_false_iff_ne]; exact hcall
        have hne : ((a.call : Int) != (n : Int)) = true := by rw [bne_iff_ne]; omega
        have hnn : (a.call != n) = true := by rw [bne_iff_ne]; exact hcall
        have HCB := Lib.hid hcb
        have hrow := hR.row
        generalize hMM : keepA n (D.arms.take k) = M at hrow hu1 hklen HKS ⊢
        have HMM := Lib.hid hMM
        have HROW := Lib.hid hrow
        clear hrow
        clear hR hcall hcb hMM
        go_wp2_with fail
        go_quiet (fail)
        go_wp2_with (first
          | (at_builtin; obtain ⟨ao2, cap2, w3, hrun, hR3, hK3⟩ := arm_next (HROW.out.ext0 ((Ext.refl Nil wr).drewN nq)) a (by omega) 129; refine wpList_append_run rfl (.tmp 38) (.tmp 46) 129 129 rfl _ _ _ rfl rfl hrun ?_; have HR3 := Lib.hid hR3; have HK3 := Lib.hid hK3; clear hR3 hK3 hrun))
        have hsz := HK3.out.1.size
        have hsz2 : (wr.drewN nq).heap.size = wr.heap.size := rfl
        have hks2 := HKS.out
        rw [HCB.out, if_neg (by simp)] at hks2
        refine ⟨⟨k + 1, by first | rfl | go_num, hlt, ⟨HR.out.disk.ext (F := inFoot (.slice ua M.length uc)) ((((Ext.refl Nil wr).drewN nq).mono fun _ _ h => h.elim).same HK3.out.1) (fun i hi hf => by have := HLT.out i hi; have := HR.out.new i (by rw [HMM.out]; exact hf); omega), by rw [hks2]; exact HR3.out, fun i hi => ?_, ?_, (HR.out.ext.drewN nq).trans HK3.out.1 fun i hi hf => by have := HR.out.new i (by rw [HMM.out]; exact hf); omega⟩⟩, by simp [intOf]; omega⟩
        · rcases HK3.out.2 i hi with h | h
          · exact HR.out.new i (by rw [HMM.out]; exact h)
          · omega
        · have hAt : ∀ cs, At wr w.heap.size 29 cs → At w3 w.heap.size 29 cs := fun cs hcs => (hcs.ext ((Ext.refl Nil wr).drewN nq) fun h => h).ext HK3.out.1 fun hf => by have := HR.out.new _ (by rw [HMM.out]; exact hf); omega
          rcases HR.out.hit with ⟨h1, h2, h3⟩ | ⟨b, j, h1, h2, h3⟩
          · refine .inl ⟨?_, h2, hAt _ h3⟩
            rw [HFS.out, h1, HCB.out]
            rfl
          · refine .inr ⟨b, j, ?_, h2, hAt _ h3⟩
            rw [HFS.out, h1]
    · obtain rfl : k = D.arms.length := by omega
      have hnot : ¬ ((D.arms.length : Nat) : Int) < (D.arms.length : Int) := by omega
      have hrow := hR.row
      have hhit := hR.hit
      rw [List.take_length] at hrow hhit hu1 hklen ⊢
      have hka : keepA n D.arms = D.tick.arms := by rw [HN.out]; rfl
      have hfd : D.arms.find? (isNow n) = D.hit := by rw [HN.out]; rfl
      rw [hka] at hrow hu1 hklen ⊢
      rw [hfd] at hhit
      have hnew := hR.new
      rw [List.take_length, hka] at hnew
      have hT := hR.disk.rearm (D' := D.tick) hrow (fun i hi => ⟨fun e => by have := hnew i hi; have := HQL.out; omega, fun hf => by have := hnew i hi; have := HLT.out i (.inr (.inl hf)); omega⟩) rfl rfl rfl rfl HN.out.symm (tick_wf HARM.out)
      have eT : Ext (fun i => i = q) w (wr.setCell ⟨q, 6, none⟩ (.slice ua D.tick.arms.length uc)) := hR.ext.setCell (p := ⟨q, 6, none⟩) (fun _ => rfl) _
      have z6 := hR.disk.cells.frozen 6
      have HT := Lib.hid hT; have HET := Lib.hid eT; have HNEW := Lib.hid (fun i hi => Nat.le_of_lt (hnew i hi))
      have hqn : ¬ q = w.heap.size := by have := HQL.out; omega
      rcases hhit with ⟨h1, rfl, h3⟩ | ⟨a, j, h1, rfl, h3⟩
      · have hD : befD D = D.tick ∧ befDo D = true ∧ befE D = 0 := by unfold befD befDo befE; rw [h1]; exact ⟨rfl, rfl, rfl⟩
        have HD := Lib.hid hD
        clear hD h1 h3 hT eT hnew hrow hka hfd hR hlt
        go_wp2_with fail
        go_ret2
        rw [HD.out.1, HD.out.2.1, HD.out.2.2]
        exact ⟨rfl, _, HT.out, HET.out, HNEW.out⟩
      · have hj : ¬ ((j : Nat) : Int) < 0 := by omega
        have b1 := h3.cell 1 rfl
        have b2 := h3.cell 2 rfl
        by_cases hk1 : a.kind = 1
        · have hD : befD D = D.tick ∧ befDo D = false ∧ befE D = 64 := by unfold befD befDo befE; rw [h1]; simp [hk1]
          have HD := Lib.hid hD
          have hkb : (a.kind == 1) = true := by rw [hk1]; rfl
          clear hD h1 h3 hT eT hnew hrow hka hfd hR hlt hk1
          go_wp2_with fail
          go_ret2
          rw [HD.out.1, HD.out.2.1, HD.out.2.2]
          exact ⟨rfl, _, HT.out, HET.out, HNEW.out⟩
        · have hD : befD D = { D.tick with off := true } ∧ befDo D = a.done ∧ befE D = 63 := by unfold befD befDo befE; rw [h1]; simp [hk1]
          have HD := Lib.hid hD
          have hkb : (a.kind == 1) = false := by rw [beq_eq_false_iff_ne]; exact hk1
          have d4 := hR.disk.cells.cell 4 rfl
          have z4 := hR.disk.cells.frozen 4
          have hT2 := Lib.hid hT.offed
          have eT2 := Lib.hid (eT.setCell (p := ⟨q, 4, none⟩) (fun _ => rfl) (.bool true))
          clear hD h1 h3 hT eT hnew hrow hka hfd hR hlt hk1
          go_wp2_with fail
          go_ret2
          rw [HD.out.1, HD.out.2.1, HD.out.2.2]
          exact ⟨rfl, _, hT2.out, eT2.out, HNEW.out⟩
end Go.Proofs.Ytnppneilbkmnfaa
namespace Go.Proofs.Ytnppneilbkmnfaa
open Go.RowKit

def TI.nm (x : TI) : Nm := x.f.nm
/-- put, as the loop does it: what it still lays down of the files that come -/
def putS (x : TI) : List TI → Bool → List TI
  | [], dn => if dn then [] else [x]
  | y :: r, dn => (if !dn && !bytesBefore y.nm x.nm then [x] else []) ++ ((if y.nm == x.nm then [] else [y]) ++ putS x r (dn || !bytesBefore y.nm x.nm))
theorem putS_done (x : TI) : ∀ l : List TI, putS x l true = delK TI.nm x.nm l
  | [] => rfl
  | y :: r => by
    have ih := putS_done x r
    unfold delK at *
    simp only [putS, Bool.not_true, Bool.false_and, Bool.false_eq_true, if_false, List.nil_append, Bool.true_or, ih, List.filter_cons]
    cases y.nm == x.nm <;> simp
theorem putS_rise (x : TI) : ∀ l : List TI, Rises TI.nm l → putS x l false = putK TI.nm x l
  | [], _ => rfl
  | y :: r, h => by
    have hr := List.pairwise_cons.1 h
    have ih := putS_rise x r hr.2
    simp only [putS, Bool.not_false, Bool.true_and, Bool.false_or]
    unfold putK at *
    cases hb : bytesBefore y.nm x.nm
    · simp only [Bool.not_false, if_true, List.singleton_append, putS_done]
      by_cases he : y.nm = x.nm
      · have hd : delK TI.nm x.nm (y :: r) = delK TI.nm x.nm r := by unfold delK; rw [List.filter_cons, if_neg (by simp [he])]
        rw [hd]
        have hn : delK TI.nm x.nm r = r := delK_none TI.nm x.nm r fun a ha => by rw [← he]; exact (before_ne (hr.1 a ha)).symm
        rw [hn, if_pos (by simp [he]), List.nil_append]
        cases r with
        | nil => rfl
        | cons z r =>
          have := hr.1 z (List.mem_cons_self ..)
          rw [he] at this
          simp only [insK, this, if_true]
      · have hd : delK TI.nm x.nm (y :: r) = y :: delK TI.nm x.nm r := by unfold delK; rw [List.filter_cons, if_pos (by simp [he])]
        rw [hd, if_neg (by simpa using he)]
        have hx : bytesBefore x.nm y.nm = true := before_total he hb
        simp only [insK, hx, if_true, List.singleton_append]
    · have he := before_ne hb
      have hd : delK TI.nm x.nm (y :: r) = y :: delK TI.nm x.nm r := by unfold delK; rw [List.filter_cons, if_pos (by simp [he])]
      have hx : bytesBefore x.nm y.nm = false := before_asymm hb
      rw [hd]
      simp only [Bool.not_true, Bool.false_eq_true, if_false, List.nil_append, ih, insK, hx]
      rw [if_neg (by simpa using he)]
      rfl
theorem putS_len (x : TI) : ∀ (l : List TI) (dn : Bool), (putS x l dn).length ≤ l.length + 1
  | [], dn => by cases dn <;> simp [putS]
  | y :: r, dn => by
    cases dn
    · cases hb : bytesBefore y.nm x.nm
      · have := putS_len x r true
        simp only [putS, hb, Bool.not_false, Bool.true_and, if_true, List.length_append, Bool.false_or, List.length_cons]
        have : (putS x r true).length ≤ r.length := by rw [putS_done]; exact List.length_filter_le ..
        split <;> simp <;> omega
      · have := putS_len x r false
        simp only [putS, hb, Bool.not_true, Bool.and_false, Bool.false_eq_true, if_false, List.length_append, List.length_nil, Bool.or_false, List.length_cons]
        split <;> simp <;> omega
    · rw [putS_done]
      have := List.length_filter_le (fun a => !(a.nm == x.nm)) (y :: r)
      unfold delK
      omega
theorem mem_putS (x : TI) : ∀ (l : List TI) (dn : Bool) (y : TI), y ∈ putS x l dn → y = x ∨ y ∈ l
  | [], dn, y, h => by cases dn <;> simp_all [putS]
  | z :: r, dn, y, h => by
    simp only [putS, List.mem_append] at h
    rcases h with h | h | h
    · split at h
      · exact .inl (by simpa using h)
      · cases h
    · split at h
      · cases h
      · exact .inr (by simp at h; simp [h])
    · rcases mem_putS x r _ y h with h | h
      · exact .inl h
      · exact .inr (List.mem_cons_of_mem _ h)
theorem info_fileQ : (Try.prog.info? 132).map (fun i => (i.zero, i.size, i.bytes)) = some (some (.agg #[.string ⟨#[]⟩, .slice none 0 0, .int .i64 0]), 3, 48) := by kernel_rfl
theorem fileQ_next {w : World} {ua : Option Addr} {uc : Nat} {l : List TI} (h : Row kQ w (.slice ua l.length uc) l) (x : TI) (hb : Bytes w x.v x.f.b) (hk : ∀ k, inFoot x.v k → k < w.heap.size ∧ ¬ inFoot (.slice ua l.length uc) k) (hfit : l.length ≤ 1099511627776) (ty : TypeId) :
    ∃ ao cap w', (Builtin.append_ #[128, 128] ty #[.slice ua l.length uc, .slice (some ⟨w.heap.size, 0, none⟩) 1 1]).run Try.prog (w.alloc (.cells #[encS x.f.nm, x.v, .int .i64 x.f.sy] 132 (0, 0))) = .ok (.slice ao (l.length + 1) cap) w' ∧
      Row kQ w' (.slice ao (l.length + 1) cap) (l ++ [x]) ∧ Step (inFoot (.slice ua l.length uc)) w (inFoot (.slice ao (l.length + 1) cap)) w' := by
  have e : Ext Nil w (w.alloc (.cells #[encS x.f.nm, x.v, .int .i64 x.f.sy] 132 (0, 0))) := (Ext.refl _ _).alloc _
  obtain ⟨ao, cap, w', hrun, h1, h2⟩ := Row.append (K := kQ) (ts := 128) (h.ext0 e).row Try.underlying128 info_fileQ rfl (by omega) (x := x) (Reads.item w [encS x.f.nm, x.v, .int .i64 x.f.sy] 132 3 rfl) (by
    intro u hu
    obtain ⟨bx, cx, hv, -⟩ := hb.open
    simp only [kQ, TI.cells, List.mem_cons, List.not_mem_nil, or_false] at hu
    rcases hu with rfl | rfl | rfl
    · rfl
    · rw [hv]; rfl
    · rfl) hfit ty
  refine ⟨ao, cap, w', hrun, ?_, (e.mono fun _ _ h => h.elim).same h2.1, fun k hk => (h2.2 k hk).imp id fun h => Nat.le_trans e.size h⟩
  exact h.snoc e (hb.alloc _) (fun k hq => ⟨Nat.lt_of_lt_of_le (hk k hq).1 e.size, (hk k hq).2⟩) (by simpa using h1) h2

theorem QAt.refile {w : World} {q : Nat} {fv av u : Value} {fl fl' : List TI} {D D' : Dk} (h : QAt w q fv av fl D) (hu : Row kQ w u fl') (hs : fl'.map TI.f = D'.fs) (hq : ∀ k, feet kQ u fl' k → k ≠ q) (ha : ∀ k, inFoot av k → k ≠ q ∧ ¬ feet kQ u fl' k)
    (h1 : D'.lim = D.lim) (h2 : D'.arms = D.arms) (h3 : D'.off = D.off) (h4 : D'.out = D.out) (h5 : D'.calls = D.calls) (wf : D'.Wf) : QAt (w.setCell ⟨q, 2, none⟩ u) q u av fl' D' := by
  have e : Ext (One q) w (w.setCell ⟨q, 2, none⟩ u) := (Ext.refl (One q) w).setCell (p := ⟨q, 2, none⟩) (fun _ => rfl) u
  refine ⟨?_, hu.extF e fun k hk e => hq k hk e, hs, by rw [h2]; exact h.arms.extA e fun k hk e => (h.apa k hk).1 e, hq, ha, wf⟩
  rw [h1, h3, h4, h5]
  exact h.cells.set 2 u
theorem rises_TI {l : List TI} {fs : List FileM} (h : l.map TI.f = fs) (hr : Rises FileM.nm fs) : Rises TI.nm l := by
  rw [← h, rises_map TI.nm FileM.nm TI.f fun _ => rfl] at hr
  exact hr
set_option maxRecDepth 20000 in
set_option maxHeartbeats 2000000 in
theorem qput_m (w : World) (q : Nat) (fv av : Value) (fl : List TI) (D : Dk) (h : QAt w q fv av fl D) (x : TI) (hx : Bytes w x.v x.f.b) (hxk : ∀ k, inFoot x.v k → k < w.heap.size ∧ k ≠ q ∧ ¬ inFoot av k) (hwf : (D.put x.f).Wf) :
    Calls Try.prog 87 #[.pointer (some ⟨q, 0, none⟩), .agg #[.string ⟨x.f.nm.toArray⟩, x.v, .int .i64 x.f.sy]] w fun e w' => e = .returned (.tuple #[]) ∧ ∃ u fl', QAt w' q u av fl' (D.put x.f) ∧ Ext (fun i => i = q) w w' ∧ ∀ k, feet kQ u fl' k → feet kQ fv fl k ∨ inFoot x.v k ∨ w.heap.size ≤ k := by
  obtain ⟨bx, cx, hxv, hxc1, hxc2, -⟩ := hx.open
  obtain ⟨fa, fc, rfl, hf1, hf2⟩ := h.files.shape
  unfold maxLen at hf2
  have hcnt := h.wf.count
  rw [← h.len] at hcnt
  have e1 : Ext Nil w (w.alloc (.cells #[.string ⟨x.f.nm.toArray⟩, .slice bx x.f.b.length cx, .int .i64 x.f.sy] 132 (0, 0))) := (Ext.refl _ _).alloc _
  have a1 := At.new w [.string ⟨x.f.nm.toArray⟩, .slice bx x.f.b.length cx, .int .i64 x.f.sy] 132
  obtain ⟨W, hW⟩ : ∃ W, W = w.alloc (.cells #[.string ⟨x.f.nm.toArray⟩, .slice bx x.f.b.length cx, .int .i64 x.f.sy] 132 (0, 0)) := ⟨_, rfl⟩
  rw [← hW] at e1 a1
  have hsW : W.heap.size = w.heap.size + 1 := by rw [hW]; simp
  have H1 := Lib.hid (h.ext0 e1); have HA1 := Lib.hid a1; have HE1 := Lib.hid e1; have HXB := Lib.hid hx; have HXV := Lib.hid hxv; have HXK := Lib.hid (fun k hk => (hxk k hk).1); have HXK2 := Lib.hid (fun k hk => (hxk k hk).2); have HWF := Lib.hid hwf; have HSW := Lib.hid hsW; have H0 := Lib.hid h
  have hrise := rises_TI h.same h.wf.rises
  have HRI := Lib.hid hrise
  rw [hxv]
  clear h e1 a1 hx hxk hwf hsW hrise
  go_enter Try.func87, Try.ntmps87
  go_wp2_with fail
  rw [← hW]
  clear hW hxv
  go_loopw [4, 5, 6] (fun u f i wr => ∃ (k : Nat) (out : List TI) (dn : Bool), i = .int .i64 (k : Int) ∧ k ≤ fl.length ∧ f = .bool dn ∧ Row kQ wr u out ∧ Ext Nil W wr ∧ (∀ i, inFoot u i → W.heap.size ≤ i) ∧ out ++ putS x (fl.drop k) dn = putK TI.nm x fl) (fun _ _ i _ => fl.length - (intOf i).toNat)
  case atStart => exact ⟨0, [], false, rfl, Nat.zero_le _, rfl, Row.nil _, Ext.refl _ _, by simp [inFoot, foot], putS_rise x fl HRI.out⟩
  case round =>
    obtain ⟨k, out, dn, rfl, hk, rfl, hU, hE, hF, hP⟩ := hrel
    obtain ⟨ua, uc, rfl, hu1, hu2⟩ := hU.shape
    have hol : out.length ≤ fl.length + 1 := by
      have h1 := congrArg List.length hP
      have h2 := putS_len x fl false
      rw [putS_rise x fl HRI.out, ← h1, List.length_append] at h2
      omega
    have D2 := H1.out.cells.cell 2 rfl
    have B0 := HA1.out.cell 0 rfl
    have B1 := HA1.out.cell 1 rfl
    have B2 := HA1.out.cell 2 rfl
    have d2 := hE.cell D2 fun h => h
    have b0 := hE.cell B0 fun h => h
    have b1 := hE.cell B1 fun h => h
    have b2 := hE.cell B2 fun h => h
    by_cases hlt : k < fl.length
    · obtain ⟨y, hy⟩ : ∃ y, fl[k]? = some y := ⟨_, List.getElem?_eq_getElem hlt⟩
      obtain ⟨g, c, hg, -⟩ := H1.out.files.open (fun x _ => rfl) (by omega) (show 0 < 3 by omega)
      simp only [Value.slice.injEq, true_and] at hg
      obtain ⟨rfl, rfl⟩ := hg
      obtain ⟨by_, cy, hyv, Y0, Y1, Y2, -, hyB, -, -⟩ := H1.out.files.cellQ hy
      have hyk := fun i (hi : inFoot y.v i) => (H1.out.files.apart y (List.mem_of_getElem? hy) i hi).1
      have y0 := hE.cell Y0 fun h => h
      have y1 := hE.cell Y1 fun h => h
      have y2 := hE.cell Y2 fun h => h
      have hgl := (cell_spot y0).2
      have hdr : fl.drop k = y :: fl.drop (k + 1) := by
        rw [List.drop_eq_getElem_cons hlt]
        rw [(List.getElem?_eq_some_iff.1 hy).2]
      have hyB2 : Bytes W y.v y.f.b := by rw [hyv]; exact hyB
      have HU := Lib.hid hU; have HE := Lib.hid hE; have HF := Lib.hid hF; have HP := Lib.hid hP; have HDR := Lib.hid hdr; have HYB := Lib.hid hyB2; have HYV := Lib.hid hyv; have HYK := Lib.hid hyk
      clear hU hE hF hP hdr hyB hyB2 hyv hyk hy
      cases dn
      · cases hb : bytesBefore y.nm x.nm
        · have hl1 : Op.bytesLess y.f.nm x.f.nm = false := by rw [less_before]; exact hb
          by_cases he : y.f.nm = x.f.nm
          · have he1 : (y.f.nm == x.f.nm) = true := by rw [he]; simp
            have HB := Lib.hid hb; have HEQ := Lib.hid he1
            clear hb he
            go_wp2_with fail
            go_quiet (fail)
            go_wp2_with (first
              | (at_builtin; obtain ⟨ao2, cap2, w3, hrun, hR3, hK3⟩ := fileQ_next (HU.out.ext0 ((Ext.refl Nil wr).drewN nq)) x (HXB.out.ext (HE1.out.same (HE.out.drewN nq)) fun _ _ h => h) (fun i hi => ⟨Nat.lt_of_lt_of_le (HXK.out i hi) (HE1.out.same (HE.out.drewN nq)).size, fun hf => by have := HF.out i hf; have := HXK.out i hi; have := HSW.out; omega⟩) (by omega) 128; rw [HXV.out] at hrun; refine wpList_append_run rfl (.tmp 31) (.tmp 33) 128 128 rfl _ _ _ rfl rfl hrun ?_; have e3 := ((HE.out.drewN nq)).trans hK3.1 (fun i hi hf => by have := HF.out i hf; omega); have d2b := e3.cell D2 fun h => h; have t0 := e3.cell B0 fun h => h; have y0b := e3.cell Y0 fun h => h; have y1b := e3.cell Y1 fun h => h; have y2b := e3.cell Y2 fun h => h; have gl3 := (cell_spot y0b).2; have HR3 := Lib.hid hR3; have HK3 := Lib.hid hK3; have HE3 := Lib.hid e3; clear hR3 hK3 hrun e3))
            go_quiet (fail)
            go_wp2_with fail
            refine ⟨⟨k + 1, out ++ [x], true, by first | rfl | go_num, hlt, by first | rfl | simp, by simpa using HR3.out.ext0 ((Ext.refl Nil w3).drewN _), HE3.out.drewN _, fun i hf => (fun i (hf : inFoot (.slice ao2 (out.length + 1) cap2) i) => (HK3.out.2 i hf).elim (HF.out i) fun h => Nat.le_trans HE.out.size h) i (by simpa using hf), ?_⟩, by simp [intOf]; omega⟩
            rw [← HP.out, HDR.out]
            simp only [putS, HB.out, Bool.not_false, Bool.true_and, if_true, Bool.false_or, show (y.nm == x.nm) = true from HEQ.out, List.nil_append, List.append_assoc]
          · have he1 : (y.f.nm == x.f.nm) = false := by rw [beq_eq_false_iff_ne]; exact he
            have HB := Lib.hid hb; have HEQ := Lib.hid he1
            clear hb he
            go_wp2_with fail
            go_quiet (fail)
            go_wp2_with (first
              | (at_builtin; obtain ⟨ao2, cap2, w3, hrun, hR3, hK3⟩ := fileQ_next (HU.out.ext0 ((Ext.refl Nil wr).drewN nq)) x (HXB.out.ext (HE1.out.same (HE.out.drewN nq)) fun _ _ h => h) (fun i hi => ⟨Nat.lt_of_lt_of_le (HXK.out i hi) (HE1.out.same (HE.out.drewN nq)).size, fun hf => by have := HF.out i hf; have := HXK.out i hi; have := HSW.out; omega⟩) (by omega) 128; rw [HXV.out] at hrun; refine wpList_append_run rfl (.tmp 31) (.tmp 33) 128 128 rfl _ _ _ rfl rfl hrun ?_; have e3 := ((HE.out.drewN nq)).trans hK3.1 (fun i hi hf => by have := HF.out i hf; omega); have d2b := e3.cell D2 fun h => h; have t0 := e3.cell B0 fun h => h; have y0b := e3.cell Y0 fun h => h; have y1b := e3.cell Y1 fun h => h; have y2b := e3.cell Y2 fun h => h; have gl3 := (cell_spot y0b).2; have HR3 := Lib.hid hR3; have HK3 := Lib.hid hK3; have HE3 := Lib.hid e3; clear hR3 hK3 hrun e3))
            go_quiet (fail)
            have hR3s : Row kQ w3 (.slice ao2 (out ++ [x]).length cap2) (out ++ [x]) := by simpa using HR3.out
            have HR3S := Lib.hid hR3s
            clear hR3s
            go_wp2_with (first
              | (at_builtin; obtain ⟨ao5, cap5, w5, hrun, hR5, hK5⟩ := fileQ_next (HR3S.out.ext0 ((Ext.refl Nil w3).drewN nq)) y (HYB.out.ext (HE3.out.drewN nq) fun _ _ h => h) (fun i hi => ⟨Nat.lt_of_lt_of_le (HYK.out i hi) ((HE3.out.drewN nq)).size, fun hf => by have := (fun i (hf : inFoot (.slice ao2 (out ++ [x]).length cap2) i) => (HK3.out.2 i (by simpa using hf)).elim (HF.out i) fun h => Nat.le_trans HE.out.size h) i hf; have := HYK.out i hi; omega⟩) (by simp; omega) 128; rw [HYV.out] at hrun; simp only [List.length_append, List.length_singleton] at hrun; refine wpList_append_run rfl (.tmp 46) (.tmp 54) 128 128 rfl _ _ _ rfl rfl hrun ?_; have HR5 := Lib.hid hR5; have HK5 := Lib.hid hK5; have HE5 := Lib.hid (((HE3.out.drewN nq)).trans hK5.1 (fun i hi hf => by have := (fun i (hf : inFoot (.slice ao2 (out ++ [x]).length cap2) i) => (HK3.out.2 i (by simpa using hf)).elim (HF.out i) fun h => Nat.le_trans HE.out.size h) i hf; omega)); clear hR5 hK5 hrun))
            refine ⟨⟨k + 1, out ++ [x] ++ [y], true, by first | rfl | go_num, hlt, by first | rfl | simp, by simpa using HR5.out, HE5.out, fun i hf => (HK5.out.2 i (by simpa using hf)).elim (fun h => (fun i (hf : inFoot (.slice ao2 (out.length + 1) cap2) i) => (HK3.out.2 i hf).elim (HF.out i) fun h => Nat.le_trans HE.out.size h) i (by simpa using h)) fun h => Nat.le_trans HE3.out.size h, ?_⟩, by simp [intOf]; omega⟩
            rw [← HP.out, HDR.out]
            simp only [putS, HB.out, Bool.not_false, Bool.true_and, if_true, Bool.false_or, show (y.nm == x.nm) = false from HEQ.out, Bool.false_eq_true, if_false, List.append_assoc]
        · have hl1 : Op.bytesLess y.f.nm x.f.nm = true := by rw [less_before]; exact hb
          have he1 : (y.f.nm == x.f.nm) = false := by rw [beq_eq_false_iff_ne]; exact before_ne hb
          have HB := Lib.hid hb; have HEQ := Lib.hid he1
          clear hb
          go_wp2_with fail
          go_quiet (fail)
          go_wp2_with fail
          go_quiet (fail)
          go_wp2_with (first
            | (at_builtin; obtain ⟨ao5, cap5, w5, hrun, hR5, hK5⟩ := fileQ_next (HU.out.ext0 ((Ext.refl Nil wr).drewN _)) y (HYB.out.ext (HE.out.drewN _) fun _ _ h => h) (fun i hi => ⟨Nat.lt_of_lt_of_le (HYK.out i hi) ((HE.out.drewN _)).size, fun hf => by have := HF.out i hf; have := HYK.out i hi; omega⟩) (by omega) 128; rw [HYV.out] at hrun; refine wpList_append_run rfl (.tmp 46) (.tmp 54) 128 128 rfl _ _ _ rfl rfl hrun ?_; have HR5 := Lib.hid hR5; have HK5 := Lib.hid hK5; have HE5 := Lib.hid (((HE.out.drewN _)).trans hK5.1 (fun i hi hf => by have := HF.out i hf; omega)); clear hR5 hK5 hrun))
          refine ⟨⟨k + 1, out ++ [y], false, by first | rfl | go_num, hlt, by first | rfl | simp, by simpa using HR5.out, HE5.out, fun i hf => (HK5.out.2 i (by simpa using hf)).elim (HF.out i) fun h => Nat.le_trans HE.out.size h, ?_⟩, by simp [intOf]; omega⟩
          rw [← HP.out, HDR.out]
          simp only [putS, HB.out, Bool.not_true, Bool.and_false, Bool.false_eq_true, if_false, Bool.or_false, show (y.nm == x.nm) = false from HEQ.out, List.nil_append, List.append_assoc]
      · by_cases he : y.f.nm = x.f.nm
        · have he1 : (y.f.nm == x.f.nm) = true := by rw [he]; simp
          have HEQ := Lib.hid he1
          clear he
          go_wp2_with fail
          go_quiet (fail)
          go_wp2_with fail
          go_quiet (fail)
          go_wp2_with fail
          refine ⟨⟨k + 1, out, true, by first | rfl | go_num, hlt, by first | rfl | simp, HU.out.ext0 ((Ext.refl Nil wr).drewN _), HE.out.drewN _, HF.out, ?_⟩, by simp [intOf]; omega⟩
          rw [← HP.out, HDR.out]
          simp only [putS, Bool.not_true, Bool.false_and, Bool.false_eq_true, if_false, Bool.true_or, show (y.nm == x.nm) = true from HEQ.out, if_true, List.nil_append]
        · have he1 : (y.f.nm == x.f.nm) = false := by rw [beq_eq_false_iff_ne]; exact he
          have HEQ := Lib.hid he1
          clear he
          go_wp2_with fail
          go_quiet (fail)
          go_wp2_with fail
          go_quiet (fail)
          go_wp2_with (first
            | (at_builtin; obtain ⟨ao5, cap5, w5, hrun, hR5, hK5⟩ := fileQ_next (HU.out.ext0 ((Ext.refl Nil wr).drewN _)) y (HYB.out.ext (HE.out.drewN _) fun _ _ h => h) (fun i hi => ⟨Nat.lt_of_lt_of_le (HYK.out i hi) ((HE.out.drewN _)).size, fun hf => by have := HF.out i hf; have := HYK.out i hi; omega⟩) (by omega) 128; rw [HYV.out] at hrun; refine wpList_append_run rfl (.tmp 46) (.tmp 54) 128 128 rfl _ _ _ rfl rfl hrun ?_; have HR5 := Lib.hid hR5; have HK5 := Lib.hid hK5; have HE5 := Lib.hid (((HE.out.drewN _)).trans hK5.1 (fun i hi hf => by have := HF.out i hf; omega)); clear hR5 hK5 hrun))
          refine ⟨⟨k + 1, out ++ [y], true, by first | rfl | go_num, hlt, by first | rfl | simp, by simpa using HR5.out, HE5.out, fun i hf => (HK5.out.2 i (by simpa using hf)).elim (HF.out i) fun h => Nat.le_trans HE.out.size h, ?_⟩, by simp [intOf]; omega⟩
          rw [← HP.out, HDR.out]
          simp only [putS, Bool.not_true, Bool.false_and, Bool.false_eq_true, if_false, Bool.true_or, show (y.nm == x.nm) = false from HEQ.out, List.nil_append, List.append_assoc]
    · obtain rfl : k = fl.length := by omega
      rw [List.drop_length] at hP
      have hnot : ¬ ((fl.length : Nat) : Int) < (fl.length : Int) := by omega
      have hQ := H1.out.ext0 hE
      have hfold : D.fs = fl.map TI.f := H1.out.same.symm
      have z2 := hQ.cells.frozen 2
      have HF := Lib.hid hF; have HE := Lib.hid hE; have HU := Lib.hid hU; have HQ := Lib.hid hQ
      cases dn
      · have hP : out ++ [x] = putK TI.nm x fl := hP
        have HP := Lib.hid hP
        clear hU hE hF hP hQ hlt
        go_wp2_with (first
          | (at_builtin; obtain ⟨ao2, cap2, w3, hrun, hR3, hK3⟩ := fileQ_next HU.out x (HXB.out.ext (HE1.out.same HE.out) fun _ _ h => h) (fun i hi => ⟨Nat.lt_of_lt_of_le (HXK.out i hi) (HE1.out.same HE.out).size, fun hf => by have := HF.out i hf; have := HXK.out i hi; have := HSW.out; omega⟩) (by omega) 128; rw [HXV.out] at hrun; refine wpList_append_run rfl (.tmp 58) (.tmp 60) 128 128 rfl _ _ _ rfl rfl hrun ?_; have e3 := HE.out.trans hK3.1 (fun i hi hf => by have := HF.out i hf; omega); have d2b := e3.cell D2 fun h => h; have z2b := (H1.out.ext0 e3).cells.frozen 2; have HR3 := Lib.hid hR3; have HK3 := Lib.hid hK3; have HE3 := Lib.hid e3; clear hR3 hK3 hrun e3))
        go_end0
        refine ⟨rfl, _, _, (H1.out.ext0 HE3.out).refile (D' := D.put x.f) (fl' := out ++ [x]) (u := .slice ao2 (out.length + 1) cap2) HR3.out ?_ ?_ ?_ rfl rfl rfl rfl rfl HWF.out, ?_, ?_⟩
        · rw [HP.out, putK_map TI.nm FileM.nm TI.f (fun _ => rfl), H0.out.same]
          rfl
        · rintro k (hk | ⟨y, hy, hk⟩)
          · have := HSW.out
            have h2 : W.heap.size ≤ k := (HK3.out.2 k hk).elim (HF.out k) fun h => Nat.le_trans HE.out.size h
            have := H0.out.cells.lt
            omega
          · rcases mem_putS x fl false y (by rw [putS_rise x fl HRI.out, ← HP.out]; exact hy) with rfl | hy
            · exact (HXK2.out k hk).1
            · exact H0.out.apq k (.inr ⟨y, hy, hk⟩)
        · rintro k hk
          refine ⟨(H0.out.apa k hk).1, ?_⟩
          rintro (hk2 | ⟨y, hy, hk2⟩)
          · have := HSW.out
            have h2 : W.heap.size ≤ k := (HK3.out.2 k hk2).elim (HF.out k) fun h => Nat.le_trans HE.out.size h
            have := H0.out.arms.lt k hk
            omega
          · rcases mem_putS x fl false y (by rw [putS_rise x fl HRI.out, ← HP.out]; exact hy) with rfl | hy
            · exact (HXK2.out k hk2).2 hk
            · exact (H0.out.apa k hk).2 (.inr ⟨y, hy, hk2⟩)
        · exact Ext.setCell (F := fun i => i = q) ((HE1.out.mono fun _ _ h => h.elim).same (HE3.out.mono fun _ _ h => h.elim)) (p := ⟨q, 2, none⟩) (fun _ => rfl) _
        · rintro k (hk | ⟨y, hy, hk⟩)
          · have := HSW.out
            have h2 : W.heap.size ≤ k := (HK3.out.2 k hk).elim (HF.out k) fun h => Nat.le_trans HE.out.size h
            exact .inr (.inr (by omega))
          · rcases mem_putS x fl false y (by rw [putS_rise x fl HRI.out, ← HP.out]; exact hy) with rfl | hy
            · exact .inr (.inl (by have h : inFoot y.v k := hk; rw [HXV.out] at h; exact h))
            · exact .inl (.inr ⟨y, hy, hk⟩)
      · have hP : out = putK TI.nm x fl := by simpa [putS] using hP
        have HP := Lib.hid hP
        clear hU hE hF hP hQ hlt
        go_wp2_with fail
        go_end0
        refine ⟨rfl, _, _, HQ.out.refile (D' := D.put x.f) (fl' := out) (u := .slice ua out.length uc) HU.out ?_ ?_ ?_ rfl rfl rfl rfl rfl HWF.out, ?_, ?_⟩
        · rw [HP.out, putK_map TI.nm FileM.nm TI.f (fun _ => rfl), H0.out.same]
          rfl
        · rintro k (hk | ⟨y, hy, hk⟩)
          · have := HSW.out
            have h2 : W.heap.size ≤ k := HF.out k hk
            have := H0.out.cells.lt
            omega
          · rcases mem_putS x fl false y (by rw [putS_rise x fl HRI.out, ← HP.out]; exact hy) with rfl | hy
            · exact (HXK2.out k hk).1
            · exact H0.out.apq k (.inr ⟨y, hy, hk⟩)
        · rintro k hk
          refine ⟨(H0.out.apa k hk).1, ?_⟩
          rintro (hk2 | ⟨y, hy, hk2⟩)
          · have := HSW.out
            have h2 : W.heap.size ≤ k := HF.out k hk2
            have := H0.out.arms.lt k hk
            omega
          · rcases mem_putS x fl false y (by rw [putS_rise x fl HRI.out, ← HP.out]; exact hy) with rfl | hy
            · exact (HXK2.out k hk2).2 hk
            · exact (H0.out.apa k hk).2 (.inr ⟨y, hy, hk2⟩)
        · exact Ext.setCell (F := fun i => i = q) ((HE1.out.mono fun _ _ h => h.elim).same (HE.out.mono fun _ _ h => h.elim)) (p := ⟨q, 2, none⟩) (fun _ => rfl) _
        · rintro k (hk | ⟨y, hy, hk⟩)
          · have := HSW.out
            have h2 : W.heap.size ≤ k := HF.out k hk
            exact .inr (.inr (by omega))
          · rcases mem_putS x fl false y (by rw [putS_rise x fl HRI.out, ← HP.out]; exact hy) with rfl | hy
            · exact .inr (.inl (by have h : inFoot y.v k := hk; rw [HXV.out] at h; exact h))
            · exact .inl (.inr ⟨y, hy, hk⟩)
end Go.Proofs.Ytnppneilbkmnfaa
namespace Go.Proofs.Ytnppneilbkmnfaa
open Go.RowKit

def QActed (w : World) (q : Nat) (G : Nat → Prop) (r : Dk × Int) (e : Ending) (w' : World) : Prop := e = .returned (.int .i64 r.2) ∧ ∃ G', QDisk w' q r.1 G' ∧ Step G w G' w'
theorem QActed.same {w w' : World} {q : Nat} {D : Dk} {G : Nat → Prop} (h : QDisk w q D G) (e : Ext Nil w w') (er : Int) : QActed w q G (D, er) (.returned (.int .i64 er)) w' :=
  ⟨rfl, G, h.ext e fun _ _ h => h, e.mono fun _ _ h => h.elim, fun _ h => .inl h⟩
theorem QActed.of {w w' : World} {q : Nat} {fv av fv' av' : Value} {fl fl' : List TI} {D' : Dk} {er : Int} (h : QAt w' q fv' av' fl' D') (e : Ext (fun i => i = q) w w') (hk : ∀ k, qbl q fv' av' fl' k → qbl q fv av fl k ∨ w.heap.size ≤ k) : QActed w q (qbl q fv av fl) (D', er) (.returned (.int .i64 er)) w' :=
  ⟨rfl, _, ⟨_, _, _, h, rfl⟩, e.mono fun _ _ h => .inl h, hk⟩
theorem atQ_some {D : Dk} {s : Nm} {i : Int} {f : FileM} (h : AtQ D s i) (hf : D.find s = some f) : ∃ k : Nat, D.fs[k]? = some f ∧ i = (k : Int) := by
  rcases h with ⟨k, g, h1, -, h3, h4⟩ | ⟨h1, -⟩
  · rw [hf] at h3
    obtain rfl := Option.some.inj h3
    exact ⟨k, h1, h4⟩
  · rw [hf] at h1; cases h1
theorem atQ_none {D : Dk} {s : Nm} {i : Int} (h : AtQ D s i) (hf : D.find s = none) : i = -1 := by
  rcases h with ⟨k, g, -, -, h3, -⟩ | ⟨-, h4⟩
  · rw [hf] at h3; cases h3
  · exact h4
theorem QAt.item {w : World} {q : Nat} {fv av : Value} {fl : List TI} {D : Dk} (h : QAt w q fv av fl D) {k : Nat} {f : FileM} (hf : D.fs[k]? = some f) : ∃ x, fl[k]? = some x ∧ x.f = f := by
  rw [← h.same, List.getElem?_map] at hf
  cases hx : fl[k]? with
  | none => rw [hx] at hf; simp at hf
  | some x => rw [hx] at hf; exact ⟨x, rfl, by simpa using hf⟩
theorem find_file {D : Dk} (hw : D.Wf) {s : Nm} {f : FileM} (hf : D.find s = some f) : f ∈ D.fs ∧ f.nm = s ∧ f.b.length ≤ D.used ∧ D.size s = f.b.length ∧ f.sy ≤ f.b.length := by
  obtain ⟨h1, h2⟩ := findK_some FileM.nm hf
  exact ⟨h1, h2, sumF_mem h1, by unfold Dk.size; rw [hf], hw.synced f h1⟩
theorem qused_q (w : World) (q : Nat) (fv av : Value) (fl : List TI) (D : Dk) (h : QAt w q fv av fl D) (n : Nat) {U : Nat} (hU : Hid (D.used = U)) : Calls Try.prog 85 #[.pointer (some ⟨q, 0, none⟩)] (w.drewN n) fun e w' => e = .returned (.int .i64 U) ∧ w' = w.drewN n :=
  (qused_m (w.drewN n) q fv av fl D (h.ext0 ((Ext.refl Nil w).drewN n))).mono fun e w' ⟨h1, h2⟩ => ⟨by rw [h1, hU.out], h2.symm⟩
theorem befD_put (D : Dk) (x : FileM) : (befD D).put x = { befD D with fs := putK FileM.nm x D.fs } := by unfold Dk.put; rw [befD_fs]
theorem befD_parts (D : Dk) : (befD D).lim = D.lim ∧ (befD D).used = D.used ∧ (befD D).fs = D.fs := by
  refine ⟨?_, by unfold Dk.used; rw [befD_fs], befD_fs D⟩
  unfold befD
  split
  · rfl
  · split <;> rfl
theorem replace_num (D : Dk) (s : Nm) (b : List UInt8) (h : D.refuse s = 0) (hr : D.room s b.length = true) : D.replace s b = ({ befD D with fs := if befDo D then putK FileM.nm ⟨s, b, b.length⟩ D.fs else D.fs }, befE D) := by
  unfold Dk.replace
  rw [if_neg (by simp [h]), if_pos hr]
  exact num_bef D (putK FileM.nm ⟨s, b, b.length⟩)
theorem replace_no (D : Dk) (s : Nm) (b : List UInt8) (h : D.refuse s = 0) (hr : D.room s b.length = false) : D.replace s b = (D, 62) := by
  unfold Dk.replace
  rw [if_neg (by simp [h]), if_neg (by simp [hr])]
theorem refuse_nm {D : Dk} {s : Nm} (h : D.refuse s = 0) : nmOk s = true := by
  unfold Dk.refuse at h
  split at h
  · omega
  · split at h
    · assumption
    · omega
theorem put_wf2 {D : Dk} (hw : D.Wf) (x : FileM) (hsy : x.sy ≤ x.b.length) (hn : nmOk x.nm = true) (hr : D.room x.nm x.b.length = true) : ((befD D).put x).Wf := by
  obtain ⟨h1, h2, h3⟩ := befD_parts D
  have hr2 : (befD D).room x.nm x.b.length = true := by rw [room_same h3 h1]; exact hr
  unfold Dk.room at hr2
  rw [Bool.and_eq_true, decide_eq_true_eq, Bool.or_eq_true, decide_eq_true_eq] at hr2
  exact Dk.put_wf (befD_wf hw) x hsy hn hr2.1 hr2.2
theorem same_fs (D : Dk) : ({ befD D with fs := D.fs } : Dk) = befD D := by
  have h := befD_fs D
  generalize befD D = E at *
  cases E
  simp only at h
  rw [h]

set_option maxRecDepth 20000 in
set_option maxHeartbeats 2000000 in
theorem qreplace_m (w : World) (q : Nat) (D : Dk) (G : Nat → Prop) (hQ : QDisk w q D G) (hc : D.calls ≤ 1099511627776) (hal : D.arms.length ≤ 1099511627776) (s : ByteArray) (hs : s.size ≤ maxLen) (x : Value) (b : List UInt8) (hx : Bytes w x b) (hxq : ∀ k, inFoot x k → k ≠ q) (hb : b.length ≤ 549755813888) :
    Calls Try.prog 53 #[.pointer (some ⟨q, 0, none⟩), .string s, x] w (QActed w q G (D.replace s.data.toList b)) := by
  have hQD := hQ
  obtain ⟨fv, av, fl, h, rfl⟩ := hQ
  obtain ⟨fa, fc, rfl, hf1, hf2⟩ := h.files.shape
  obtain ⟨xa, xc, rfl, hx1, hx2, -⟩ := hx.open
  unfold maxLen at hf2 hx2
  by_cases hr : D.refuse s.data.toList = 0
  · have HAsk := Lib.hid fun w' (e : Ext Nil w w') => qasked_m w' q _ av fl D (h.ext0 e) s hs
    have HAt := Lib.hid fun w' (e : Ext Nil w w') => qat_m w' q _ av fl D (h.ext0 e) s
    obtain ⟨U, hU⟩ : ∃ U, D.used = U := ⟨_, rfl⟩
    obtain ⟨Lm, hLm⟩ : ∃ Lm, D.lim = Lm := ⟨_, rfl⟩
    have hwf := h.wf
    have hul := hwf.used
    have hl1 := hwf.lim1
    have hcn := hwf.count
    have hul2 : sumF D.fs = D.used := rfl
    rw [hul2, hU, hLm] at hul
    rw [hLm] at hl1
    rw [← h.len] at hcn
    have c1 := h.cells.cell 1 rfl
    have c2 := h.cells.cell 2 rfl
    rw [hLm] at c1
    have HU := Lib.hid hU; have HR := Lib.hid hr; have H := Lib.hid h; have HX := Lib.hid hx; have HXQ := Lib.hid hxq; have HQD := Lib.hid hQD; have HWF := Lib.hid hwf
    obtain ⟨M, hM⟩ : ∃ M, M = Lm - U := ⟨_, rfl⟩
    have w1 : IntKind.i64.wrap ((Lm : Int) - (U : Int)) = (M : Int) := by rw [IntWalk.i64_in _ (by omega)]; omega
    clear hU hr h hx hxq hQD hwf
    cases hfd : D.find s.data.toList with
    | some f =>
      obtain ⟨f1, f2, f3, f4, f5⟩ := find_file HWF.out hfd
      rw [HU.out] at f3
      have w2 : IntKind.i64.wrap ((M : Int) + (f.b.length : Int)) = ((M + f.b.length : Nat) : Int) := by rw [IntWalk.i64_in _ (by omega)]; omega
      have HFD := Lib.hid hfd
      by_cases hroom : b.length ≤ M + f.b.length
      · have hrm : D.room s.data.toList b.length = true := by unfold Dk.room; rw [HU.out, hLm, f4, hfd]; simp; omega
        have g1 : ¬ ((M + f.b.length : Nat) : Int) < (b.length : Int) := by omega
        have HROOM := Lib.hid hrm
        clear hrm hfd f1 f2 f3 f4 f5 hM hroom hLm hul2 hul
        cases hdo : befDo D
        · have hdn : D.replace s.data.toList b = (befD D, befE D) := by rw [replace_num D _ b HR.out HROOM.out, hdo]; simp only [Bool.false_eq_true, if_false]; rw [same_fs]
          have HDO := Lib.hid hdo; have HDN := Lib.hid hdn
          clear hdo hdn
          go_enter Try.func53, Try.ntmps53
          go_wp2_with (first
            | (go_at_call 83; refine (HAsk.out _ (Ext.refl _ _)).mono ?_; rintro e w' ⟨rfl, rfl⟩; rw [HR.out])
            | (go_at_call 84; refine (HAt.out _ (Ext.refl _ _)).mono ?_; rintro e w' ⟨i, rfl, hi, rfl⟩; obtain ⟨k, hk, rfl⟩ := atQ_some hi HFD.out; obtain ⟨y, hy, hyf⟩ := H.out.item hk; have hkl := (List.getElem?_eq_some_iff.1 hy).1; obtain ⟨g, c, hg, -⟩ := H.out.files.open (fun x _ => rfl) (by omega) (show 0 < 3 by omega); simp only [Value.slice.injEq, true_and] at hg; obtain ⟨rfl, rfl⟩ := hg; obtain ⟨by_, cy, -, y0, y1, y2, hgl, -, hyc, hym⟩ := H.out.files.cellQ hy; rw [hyf] at y1 hyc; clear hi hk hy hyf y0 y2))
          go_quiet ((go_at_call 85; exact Calls.quiet_of_same (qused_q _ q _ av fl D H.out _ HU)))
          go_wp2_with (first
            | (go_at_call 86; refine (befall_m _ q _ av fl D (H.out.ext0 ((Ext.refl Nil w).drewN nq)) hc hal).mono ?_; rintro e w2 ⟨u2, rfl, hq2, e2, hk2⟩; rw [HDO.out]; have hx2b := (HX.out.ext ((Ext.refl Nil w).drewN nq) fun _ _ h => h).ext e2 fun k hk e => HXQ.out k hk e; have hsr := Reads.src (P := Try.prog) (hx2b.alloc (.cells #[.string s, .slice none 0 0, .int .i64 (b.length : Int)] 132 (0, 0))) Try.underlying31 (bvs_one b); have HQ2 := Lib.hid hq2; have HE2 := Lib.hid (((Ext.refl Nil w).drewN nq).mono (G := fun i => i = q) (fun _ _ h => h.elim)  |>.same e2); have HK2 := Lib.hid hk2; clear hq2 e2 hk2 hx2b))
          go_ret
          rw [HDN.out]
          exact QActed.of (fv' := _) (av' := u2) (fl' := fl) HQ2.out HE2.out (by
            rintro k (hk | hk | hk)
            · exact .inl (.inl hk)
            · exact .inl (.inr (.inl hk))
            · exact .inr (HK2.out k hk))
        · have hdn : D.replace s.data.toList b = ({ befD D with fs := putK FileM.nm ⟨s.data.toList, b, b.length⟩ D.fs }, befE D) := by rw [replace_num D _ b HR.out HROOM.out, hdo]; rfl
          have hpw := put_wf2 HWF.out ⟨s.data.toList, b, b.length⟩ (Nat.le_refl _) (refuse_nm HR.out) HROOM.out
          have HDO := Lib.hid hdo; have HDN := Lib.hid hdn; have HPW := Lib.hid hpw
          clear hdo hdn hpw
          go_enter Try.func53, Try.ntmps53
          go_wp2_with (first
            | (go_at_call 83; refine (HAsk.out _ (Ext.refl _ _)).mono ?_; rintro e w' ⟨rfl, rfl⟩; rw [HR.out])
            | (go_at_call 84; refine (HAt.out _ (Ext.refl _ _)).mono ?_; rintro e w' ⟨i, rfl, hi, rfl⟩; obtain ⟨k, hk, rfl⟩ := atQ_some hi HFD.out; obtain ⟨y, hy, hyf⟩ := H.out.item hk; have hkl := (List.getElem?_eq_some_iff.1 hy).1; obtain ⟨g, c, hg, -⟩ := H.out.files.open (fun x _ => rfl) (by omega) (show 0 < 3 by omega); simp only [Value.slice.injEq, true_and] at hg; obtain ⟨rfl, rfl⟩ := hg; obtain ⟨by_, cy, -, y0, y1, y2, hgl, -, hyc, hym⟩ := H.out.files.cellQ hy; rw [hyf] at y1 hyc; clear hi hk hy hyf y0 y2))
          go_quiet ((go_at_call 85; exact Calls.quiet_of_same (qused_q _ q _ av fl D H.out _ HU)))
          go_wp2_with (first
            | (go_at_call 86; refine (befall_m _ q _ av fl D (H.out.ext0 ((Ext.refl Nil w).drewN nq)) hc hal).mono ?_; rintro e w2 ⟨u2, rfl, hq2, e2, hk2⟩; rw [HDO.out]; have hx2b := (HX.out.ext ((Ext.refl Nil w).drewN nq) fun _ _ h => h).ext e2 fun k hk e => HXQ.out k hk e; have hsr := Reads.src (P := Try.prog) (hx2b.alloc (.cells #[.string s, .slice none 0 0, .int .i64 (b.length : Int)] 132 (0, 0))) Try.underlying31 (bvs_one b); have HQ2 := Lib.hid hq2; have HE2 := Lib.hid (((Ext.refl Nil w).drewN nq).mono (G := fun i => i = q) (fun _ _ h => h.elim)  |>.same e2); have HK2 := Lib.hid hk2; clear hq2 e2 hk2 hx2b)
            | (at_builtin; refine wpList_append_fresh hsr (by unfold Fits; omega) rfl (.tmp 68) (.tmp 69) rfl rfl rfl ?_; intro ao3 cap3 w3 g1 g2 hown hst; have pb := (At.new w2 [.string s, .slice none 0 0, .int .i64 (b.length : Int)] 132).ext hst.1 (fun h => h); have p0 := pb.cell 0 rfl; have p1 := pb.cell 1 rfl; have p2 := pb.cell 2 rfl; have z1 := pb.frozen 1; have pl := pb.lt; have HPB := Lib.hid (pb.set 1 (.slice ao3 b.length cap3)); have hs3 := hst.1.size; have hsx : (w2.alloc (.cells #[.string s, .slice none 0 0, .int .i64 (b.length : Int)] 132 (0, 0))).heap.size = w2.heap.size + 1 := (by simp); have HOW := Lib.hid (hown.ext (F := One w2.heap.size) ((Ext.refl (One w2.heap.size) w3).setCell (p := ⟨w2.heap.size, 1, none⟩) (fun _ => rfl) (.slice ao3 b.length cap3)) (fun k hk e => by have e : k = w2.heap.size := e; have := (hst.2 k hk).resolve_left fun h => h; omega)); have HFR := Lib.hid (fun k hk => by have h9 := (hst.2 k hk).resolve_left fun h => h; exact (show w2.heap.size < k by omega)); have HOL := Lib.hid (fun k hk => hown.lt k hk); have HEW := Lib.hid ((((Ext.refl Nil w2).alloc (.cells #[.string s, .slice none 0 0, .int .i64 (b.length : Int)] 132 (0, 0))).same hst.1).setCell (p := ⟨w2.heap.size, 1, none⟩) (fun h => absurd h (Nat.lt_irrefl _)) (.slice ao3 b.length cap3)); clear pb hst hown hs3 hsx hsr)
            | (go_at_call 87; refine (qput_m _ q _ u2 fl (befD D) (HQ2.out.ext0 HEW.out) ⟨⟨s.data.toList, b, b.length⟩, .slice ao3 b.length cap3⟩ HOW.out.bytes (fun k hk => ⟨by have := HOL.out k hk; simpa [World.setCell] using this, by have := HFR.out k hk; have := HQ2.out.cells.lt; omega, fun hu => by have := HFR.out k hk; have := HQ2.out.arms.lt k hu; omega⟩) HPW.out).mono ?_; rintro e w5 ⟨rfl, u5, fl5, hq5, e5, hk5⟩; rw [befD_put] at hq5; have HQ5 := Lib.hid hq5; have HE5 := Lib.hid e5; have HK5 := Lib.hid hk5; clear hq5 e5 hk5))
          go_ret
          rw [HDN.out]
          exact QActed.of (fv' := u5) (av' := u2) (fl' := fl5) HQ5.out (((HE2.out.trans HEW.out fun _ _ h => h.elim)).same HE5.out) (by
            have hs2 := HE2.out.size
            have hs3 := HEW.out.size
            rintro k (hk | hk | hk)
            · exact .inl (.inl hk)
            · rcases HK5.out k hk with h | h | h
              · exact .inl (.inr (.inl h))
              · have := HFR.out k h
                exact .inr (by omega)
              · exact .inr (by omega)
            · exact .inr (HK2.out k hk))
      · have hrm : D.room s.data.toList b.length = false := by unfold Dk.room; rw [HU.out, hLm, f4, hfd]; simp; omega
        have g1 : ((M + f.b.length : Nat) : Int) < (b.length : Int) := by omega
        have HDN := Lib.hid (replace_no D _ b HR.out hrm)
        clear hrm hfd f1 f2 f3 f4 f5 hM hroom hLm hul2 hul
        go_enter Try.func53, Try.ntmps53
        go_wp2_with (first
          | (go_at_call 83; refine (HAsk.out _ (Ext.refl _ _)).mono ?_; rintro e w' ⟨rfl, rfl⟩; rw [HR.out])
          | (go_at_call 84; refine (HAt.out _ (Ext.refl _ _)).mono ?_; rintro e w' ⟨i, rfl, hi, rfl⟩; obtain ⟨k, hk, rfl⟩ := atQ_some hi HFD.out; obtain ⟨y, hy, hyf⟩ := H.out.item hk; have hkl := (List.getElem?_eq_some_iff.1 hy).1; obtain ⟨g, c, hg, -⟩ := H.out.files.open (fun x _ => rfl) (by omega) (show 0 < 3 by omega); simp only [Value.slice.injEq, true_and] at hg; obtain ⟨rfl, rfl⟩ := hg; obtain ⟨by_, cy, -, y0, y1, y2, hgl, -, hyc, hym⟩ := H.out.files.cellQ hy; rw [hyf] at y1 hyc; clear hi hk hy hyf y0 y2))
        go_quiet ((go_at_call 85; exact Calls.quiet_of_same (qused_q _ q _ av fl D H.out _ HU)))
        go_wp2_with fail
        go_ret
        rw [HDN.out]
        exact QActed.same HQD.out ((Ext.refl Nil w).drewN _) _
    | none =>
      have f4 : D.size s.data.toList = 0 := by unfold Dk.size; rw [hfd]
      have hln : D.fs.length = fl.length := H.out.len.symm
      have HFD := Lib.hid hfd
      by_cases hroom : b.length ≤ M
      · have g1 : ¬ (M : Int) < (b.length : Int) := by omega
        by_cases hct : fl.length < 65536
        · have hrm : D.room s.data.toList b.length = true := by unfold Dk.room; rw [HU.out, hLm, f4, hfd, hln]; simp; omega
          have g2 : (fl.length : Int) < 65536 := by omega
          have HROOM := Lib.hid hrm
          have HCT := Lib.hid hct
          clear hrm hfd f4 hln hM hroom hLm hul2 hul hcn hct g2
          cases hdo : befDo D
          · have hdn : D.replace s.data.toList b = (befD D, befE D) := by rw [replace_num D _ b HR.out HROOM.out, hdo]; simp only [Bool.false_eq_true, if_false]; rw [same_fs]
            have HDO := Lib.hid hdo; have HDN := Lib.hid hdn
            clear hdo hdn
            go_enter Try.func53, Try.ntmps53
            go_wp2_with (first
              | (go_at_call 83; refine (HAsk.out _ (Ext.refl _ _)).mono ?_; rintro e w' ⟨rfl, rfl⟩; rw [HR.out])
              | (go_at_call 84; refine (HAt.out _ (Ext.refl _ _)).mono ?_; rintro e w' ⟨i, rfl, hi, rfl⟩; obtain rfl := atQ_none hi HFD.out; clear hi))
            go_quiet ((go_at_call 85; exact Calls.quiet_of_same (qused_q _ q _ av fl D H.out _ HU)))
            go_wp2_with (first
              | (go_at_call 86; refine (befall_m _ q _ av fl D (H.out.ext0 ((Ext.refl Nil w).drewN nq)) hc hal).mono ?_; rintro e w2 ⟨u2, rfl, hq2, e2, hk2⟩; rw [HDO.out]; have hx2b := (HX.out.ext ((Ext.refl Nil w).drewN nq) fun _ _ h => h).ext e2 fun k hk e => HXQ.out k hk e; have hsr := Reads.src (P := Try.prog) (hx2b.alloc (.cells #[.string s, .slice none 0 0, .int .i64 (b.length : Int)] 132 (0, 0))) Try.underlying31 (bvs_one b); have HQ2 := Lib.hid hq2; have HE2 := Lib.hid (((Ext.refl Nil w).drewN nq).mono (G := fun i => i = q) (fun _ _ h => h.elim)  |>.same e2); have HK2 := Lib.hid hk2; clear hq2 e2 hk2 hx2b))
            · exfalso
              have h9 := HCT.out
              have hz : M < b.length ∨ (65536 : Int) ≤ (fl.length : Int) := by assumption
              rcases hz with hz | hz <;> omega
            · go_ret
              rw [HDN.out]
              exact QActed.of (fv' := _) (av' := u2) (fl' := fl) HQ2.out HE2.out (by
                rintro k (hk | hk | hk)
                · exact .inl (.inl hk)
                · exact .inl (.inr (.inl hk))
                · exact .inr (HK2.out k hk))
          · have hdn : D.replace s.data.toList b = ({ befD D with fs := putK FileM.nm ⟨s.data.toList, b, b.length⟩ D.fs }, befE D) := by rw [replace_num D _ b HR.out HROOM.out, hdo]; rfl
            have hpw := put_wf2 HWF.out ⟨s.data.toList, b, b.length⟩ (Nat.le_refl _) (refuse_nm HR.out) HROOM.out
            have HDO := Lib.hid hdo; have HDN := Lib.hid hdn; have HPW := Lib.hid hpw
            clear hdo hdn hpw
            go_enter Try.func53, Try.ntmps53
            go_wp2_with (first
              | (go_at_call 83; refine (HAsk.out _ (Ext.refl _ _)).mono ?_; rintro e w' ⟨rfl, rfl⟩; rw [HR.out])
              | (go_at_call 84; refine (HAt.out _ (Ext.refl _ _)).mono ?_; rintro e w' ⟨i, rfl, hi, rfl⟩; obtain rfl := atQ_none hi HFD.out; clear hi))
            go_quiet ((go_at_call 85; exact Calls.quiet_of_same (qused_q _ q _ av fl D H.out _ HU)))
            go_wp2_with (first
              | (go_at_call 86; refine (befall_m _ q _ av fl D (H.out.ext0 ((Ext.refl Nil w).drewN nq)) hc hal).mono ?_; rintro e w2 ⟨u2, rfl, hq2, e2, hk2⟩; rw [HDO.out]; have hx2b := (HX.out.ext ((Ext.refl Nil w).drewN nq) fun _ _ h => h).ext e2 fun k hk e => HXQ.out k hk e; have hsr := Reads.src (P := Try.prog) (hx2b.alloc (.cells #[.string s, .slice none 0 0, .int .i64 (b.length : Int)] 132 (0, 0))) Try.underlying31 (bvs_one b); have HQ2 := Lib.hid hq2; have HE2 := Lib.hid (((Ext.refl Nil w).drewN nq).mono (G := fun i => i = q) (fun _ _ h => h.elim)  |>.same e2); have HK2 := Lib.hid hk2; clear hq2 e2 hk2 hx2b)
              | (at_builtin; refine wpList_append_fresh hsr (by unfold Fits; omega) rfl (.tmp 68) (.tmp 69) rfl rfl rfl ?_; intro ao3 cap3 w3 g1 g2 hown hst; have pb := (At.new w2 [.string s, .slice none 0 0, .int .i64 (b.length : Int)] 132).ext hst.1 (fun h => h); have p0 := pb.cell 0 rfl; have p1 := pb.cell 1 rfl; have p2 := pb.cell 2 rfl; have z1 := pb.frozen 1; have pl := pb.lt; have HPB := Lib.hid (pb.set 1 (.slice ao3 b.length cap3)); have hs3 := hst.1.size; have hsx : (w2.alloc (.cells #[.string s, .slice none 0 0, .int .i64 (b.length : Int)] 132 (0, 0))).heap.size = w2.heap.size + 1 := (by simp); have HOW := Lib.hid (hown.ext (F := One w2.heap.size) ((Ext.refl (One w2.heap.size) w3).setCell (p := ⟨w2.heap.size, 1, none⟩) (fun _ => rfl) (.slice ao3 b.length cap3)) (fun k hk e => by have e : k = w2.heap.size := e; have := (hst.2 k hk).resolve_left fun h => h; omega)); have HFR := Lib.hid (fun k hk => by have h9 := (hst.2 k hk).resolve_left fun h => h; exact (show w2.heap.size < k by omega)); have HOL := Lib.hid (fun k hk => hown.lt k hk); have HEW := Lib.hid ((((Ext.refl Nil w2).alloc (.cells #[.string s, .slice none 0 0, .int .i64 (b.length : Int)] 132 (0, 0))).same hst.1).setCell (p := ⟨w2.heap.size, 1, none⟩) (fun h => absurd h (Nat.lt_irrefl _)) (.slice ao3 b.length cap3)); clear pb hst hown hs3 hsx hsr)
              | (go_at_call 87; refine (qput_m _ q _ u2 fl (befD D) (HQ2.out.ext0 HEW.out) ⟨⟨s.data.toList, b, b.length⟩, .slice ao3 b.length cap3⟩ HOW.out.bytes (fun k hk => ⟨by have := HOL.out k hk; simpa [World.setCell] using this, by have := HFR.out k hk; have := HQ2.out.cells.lt; omega, fun hu => by have := HFR.out k hk; have := HQ2.out.arms.lt k hu; omega⟩) HPW.out).mono ?_; rintro e w5 ⟨rfl, u5, fl5, hq5, e5, hk5⟩; rw [befD_put] at hq5; have HQ5 := Lib.hid hq5; have HE5 := Lib.hid e5; have HK5 := Lib.hid hk5; clear hq5 e5 hk5))
            · exfalso
              have h9 := HCT.out
              have hz : M < b.length ∨ (65536 : Int) ≤ (fl.length : Int) := by assumption
              rcases hz with hz | hz <;> omega
            · go_ret
              rw [HDN.out]
              exact QActed.of (fv' := u5) (av' := u2) (fl' := fl5) HQ5.out (((HE2.out.trans HEW.out fun _ _ h => h.elim)).same HE5.out) (by
                have hs2 := HE2.out.size
                have hs3 := HEW.out.size
                rintro k (hk | hk | hk)
                · exact .inl (.inl hk)
                · rcases HK5.out k hk with h | h | h
                  · exact .inl (.inr (.inl h))
                  · have := HFR.out k h
                    exact .inr (by omega)
                  · exact .inr (by omega)
                · exact .inr (HK2.out k hk))
        · have hrm : D.room s.data.toList b.length = false := by unfold Dk.room; rw [hfd, hln]; simp; omega
          have g2 : (65536 : Int) ≤ (fl.length : Int) := by omega
          have HDN := Lib.hid (replace_no D _ b HR.out hrm)
          clear hrm hfd f4 hln hM hroom hLm hul2 hul
          go_enter Try.func53, Try.ntmps53
          go_wp2_with (first
            | (go_at_call 83; refine (HAsk.out _ (Ext.refl _ _)).mono ?_; rintro e w' ⟨rfl, rfl⟩; rw [HR.out])
            | (go_at_call 84; refine (HAt.out _ (Ext.refl _ _)).mono ?_; rintro e w' ⟨i, rfl, hi, rfl⟩; obtain rfl := atQ_none hi HFD.out; clear hi))
          go_quiet ((go_at_call 85; exact Calls.quiet_of_same (qused_q _ q _ av fl D H.out _ HU)))
          go_wp2_with fail
          go_ret
          rw [HDN.out]
          exact QActed.same HQD.out ((Ext.refl Nil w).drewN _) _
      · have hrm : D.room s.data.toList b.length = false := by unfold Dk.room; rw [HU.out, hLm, f4]; simp; omega
        have g1 : (M : Int) < (b.length : Int) := by omega
        have HDN := Lib.hid (replace_no D _ b HR.out hrm)
        clear hrm hfd f4 hln hM hroom hLm hul2 hul
        go_enter Try.func53, Try.ntmps53
        go_wp2_with (first
          | (go_at_call 83; refine (HAsk.out _ (Ext.refl _ _)).mono ?_; rintro e w' ⟨rfl, rfl⟩; rw [HR.out])
          | (go_at_call 84; refine (HAt.out _ (Ext.refl _ _)).mono ?_; rintro e w' ⟨i, rfl, hi, rfl⟩; obtain rfl := atQ_none hi HFD.out; clear hi))
        go_quiet ((go_at_call 85; exact Calls.quiet_of_same (qused_q _ q _ av fl D H.out _ HU)))
        go_wp2_with fail
        go_ret
        rw [HDN.out]
        exact QActed.same HQD.out ((Ext.refl Nil w).drewN _) _
  · have e1 : D.replace s.data.toList b = (D, D.refuse s.data.toList) := by unfold Dk.replace; rw [if_pos hr]
    rw [e1]
    generalize hR : D.refuse s.data.toList = R at *
    have hne : (R != 0) = true := by rw [bne_iff_ne]; exact hr
    have HR := Lib.hid hR; have HQD := Lib.hid hQD
    clear hr hR e1 hQD
    go_enter Try.func53, Try.ntmps53
    go_wp2_with (go_at_call 83; refine (qasked_m w q _ av fl D h s hs).mono ?_; rintro e w' ⟨rfl, rfl⟩; rw [HR.out])
    go_ret
    exact QActed.same HQD.out (Ext.refl _ _) _
end Go.Proofs.Ytnppneilbkmnfaa
