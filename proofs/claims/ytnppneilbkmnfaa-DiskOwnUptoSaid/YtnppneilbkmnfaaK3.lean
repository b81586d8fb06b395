/- The contract of Mount, where a name is refused. Condition: the image can be read. | The contract of Mount, where a name is refused. Condition: the image can be read. | The contract of Mount, where all names are as they may be and it is refused for its limit or for too many files. Condition: the image can be read. | Plain: the disk that Mount lays down, file by file. No condition. | The contract of Mount, where all names and the limit are as they may be. Condition: the image can be read. | The contract of Mount, whole. Condition: the image can be read. -/
import Derived.Test.YtnppneilbkmnfaaK2
import Derived.Laws.Cover1
namespace Go.Proofs.Ytnppneilbkmnfaa
open Go.RowKit

theorem less_before : ∀ a b : List UInt8, Op.bytesLess a b = bytesBefore a b
  | [], [] => rfl
  | [], _ :: _ => rfl
  | _ :: _, [] => rfl
  | a :: x, b :: y => by
    simp only [Op.bytesLess, bytesBefore, less_before x y]
theorem before_leq : ∀ a b : List UInt8, (bytesBefore a b || a == b) = !bytesBefore b a
  | [], [] => rfl
  | [], _ :: _ => rfl
  | _ :: _, [] => rfl
  | a :: x, b :: y => by
    have ih := before_leq x y
    simp only [bytesBefore]
    rcases Classical.em (a = b) with e | e
    · subst e
      simp at ih ⊢
      simpa using ih
    · rcases UInt8.lt_or_lt_of_ne e with h | h
      · have h2 : ¬ b < a := UInt8.lt_asymm h
        have e' : (b == a) = false := by simpa using fun q : b = a => e q.symm
        simp [h, h2, e']
      · have h2 : ¬ a < b := UInt8.lt_asymm h
        have e' : (a == b) = false := by simpa using e
        simp [h, h2, e]
/-- an image that can be read -/
structure ImgR (w : World) (v : Value) (l : List FI) : Prop where
  row : Reads w 2 v l.length (l.flatMap FI.cells)
  names : ∀ x ∈ l, x.nm.length ≤ maxLen
  bytes : ∀ x ∈ l, Bytes w x.v x.b
theorem ImgR.ext {F : Nat → Prop} {w w' : World} {v : Value} {l : List FI} (h : ImgR w v l) (e : Ext F w w') (hf : ∀ k ∈ ibl v l, ¬ F k) : ImgR w' v l :=
  ⟨h.row.ext e fun k hk => hf k (by simp [ibl, mem_footL, hk]), h.names, fun x hx => (h.bytes x hx).ext e fun k hk => hf k (by
    simp only [ibl, List.mem_append, List.mem_flatMap]
    exact .inr ⟨x, hx, mem_footL.2 hk⟩)⟩
/-- is the i-th name as it may be? -/
def nameOk (l : List FI) (i : Nat) : Prop := ∃ x, l[i]? = some x ∧ nmOk x.nm = true ∧ ∀ y, 0 < i → l[i - 1]? = some y → bytesBefore y.nm x.nm = true
theorem ImgR.open {w : World} {v : Value} {l : List FI} (h : ImgR w v l) (hne : 0 < l.length) : ∃ b off cap, v = .slice (some ⟨b, off, none⟩) l.length cap ∧ l.length ≤ cap ∧ cap ≤ maxLen ∧ ∀ i x, l[i]? = some x → w.cell? ⟨b, off + i * 2, none⟩ = some (.string ⟨x.nm.toArray⟩) ∧ w.cell? ⟨b, off + i * 2 + 1, none⟩ = some x.v := by
  obtain ⟨h1, ao, cap, rfl, h2, h3, h4⟩ := h.row
  obtain ⟨b, off, rfl, hc⟩ := h4 (by intro e; rw [e] at h1; simp at h1; omega)
  refine ⟨b, off, cap, rfl, h2, h3, fun i x hx => ?_⟩
  obtain ⟨hi, he⟩ := List.getElem?_eq_some_iff.1 hx
  subst he
  have c0 := hc (i * 2) (encS l[i].nm) (fiCells_at l i hi 0 (by omega))
  have c1 := hc (i * 2 + 1) l[i].v (fiCells_at l i hi 1 (by omega))
  exact ⟨c0, c1⟩
end Go.Proofs.Ytnppneilbkmnfaa
namespace Go.Proofs.Ytnppneilbkmnfaa
open Go.RowKit

theorem isName_b (w : World) (s : ByteArray) (hs : s.size ≤ maxLen) (b : Bool) (h : nmOk s.data.toList = b) : Calls Try.prog 70 #[.string s] w fun e w' => e = .returned (.bool b) ∧ w' = w := by
  subst h
  exact (isName_any w s hs).mono fun e w' h => ⟨h.1, h.2.symm⟩

theorem pred_wrap {j : Nat} (h0 : j ≠ 0) (hj : j ≤ maxLen) : IntKind.i64.wrap ((j : Int) - 1) = ((j - 1 : Nat) : Int) := by
  unfold maxLen at hj
  rw [IntWalk.i64_in _ (by omega)]
  omega
theorem succ_wrap {j : Nat} (hj : j < maxLen) : wrap64 ((j : Int) + 1) = ((j + 1 : Nat) : Int) := by
  unfold maxLen at hj
  rw [IntWalk.wrap64_in _ (by omega)]
  omega
theorem down {j n : Nat} (h : j < n) : n - ((j + 1 : Nat) : Int).toNat < n - (j : Int).toNat := by omega

set_option maxRecDepth 20000 in
set_option maxHeartbeats 2000000 in
theorem mount_names_m (w : World) (v : Value) (l : List FI) (h : ImgR w v l) (lim : Int) (hbad : ¬ ∀ i < l.length, nameOk l i) :
    Calls Try.prog 33 #[.agg #[v], .int .i64 lim] w fun e w' => e = .returned (.tuple #[.pointer none, .int .i64 60]) ∧ Ext Nil w w' := by
  have hpos : 0 < l.length := by
    refine Nat.pos_of_ne_zero fun e => hbad fun i hi => by omega
  obtain ⟨b, off, cap, rfl, hc1, hc2, hcell⟩ := h.open hpos
  have hnames := h.names
  have hbytes := h.bytes
  have eW : Ext Nil w (w.alloc (.cells #[.slice (some ⟨b, off, none⟩) l.length cap] 36 (0, 0))) := (Ext.refl _ _).alloc _
  have bW := (At.new w [.slice (some ⟨b, off, none⟩) l.length cap] 36).cell 0 rfl
  have HC := Lib.hid hcell; have HN := Lib.hid hnames; have HBY := Lib.hid hbytes; have HB := Lib.hid hbad; have HEW := Lib.hid eW; have HBW := Lib.hid bW
  clear hcell hnames hbytes hbad h eW bW
  go_enter Try.func33, Try.ntmps33
  go_wp2_with fail
  go_loopw [15] (fun i wr => ∃ (j : Nat), i = .int .i64 (j : Int) ∧ j ≤ l.length ∧ (∀ k < j, nameOk l k) ∧ Ext Nil w wr ∧ wr.cell? ⟨w.heap.size, 0, none⟩ = some (.slice (some ⟨b, off, none⟩) l.length cap)) (fun i _ => l.length - (intOf i).toNat)
  case atStart => exact ⟨0, rfl, Nat.zero_le _, (fun k hk => absurd hk (Nat.not_lt_zero _)), HEW.out, HBW.out⟩
  case round =>
    obtain ⟨j, rfl, hj, hok, hE, hbw⟩ := hrel
    have hjl : j < l.length := by
      refine Nat.lt_of_le_of_ne hj fun e => HB.out fun i hi => hok i (by omega)
    obtain ⟨x, hx⟩ : ∃ x, l[j]? = some x := ⟨l[j], List.getElem?_eq_getElem hjl⟩
    obtain ⟨c0, c1⟩ := HC.out j x hx
    obtain ⟨bx, cx, hxv, -⟩ := (HBY.out x (List.mem_of_getElem? hx)).open
    rw [hxv] at c1
    replace c0 := hE.cell c0 fun h => h
    replace c1 := hE.cell c1 fun h => h
    generalize x.b.length = xn at *
    clear hxv
    have hxs := HN.out x (List.mem_of_getElem? hx)
    have hbl := (cell_spot c0).2
    have hwl := (cell_spot hbw).2
    have hf0 := (At.new wr [.string ⟨x.nm.toArray⟩, .slice bx xn cx] 41).cell 0 rfl
    have eY : Ext Nil wr (wr.alloc (.cells #[.string ⟨x.nm.toArray⟩, .slice bx xn cx] 41 (0, 0))) := (Ext.refl _ _).alloc _
    have hbY := eY.cell hbw fun h => h
    have EY := Lib.hid (hE.same eY); have HOK := Lib.hid hok; have HX := Lib.hid hx
    clear hok hx hE eY
    have hjw := succ_wrap (Nat.lt_of_lt_of_le hjl (Nat.le_trans hc1 hc2))
    have hdn := down hjl
    have HDN := Lib.hid hdn; have HJW := Lib.hid hjw
    clear hdn
    cases hn : nmOk x.nm
    · have hN := fun (W : World) => isName_b W ⟨x.nm.toArray⟩ (by rw [encS_size]; exact hxs) false (by rw [encS_toList]; exact hn)
      have HNN := Lib.hid hN
      clear hN
      go_wp2_with fail
      generalize wr.alloc (.cells #[.string ⟨x.nm.toArray⟩, .slice bx xn cx] 41 (0, 0)) = Y at *
      go_quiet ((go_at_call 70; exact Calls.quiet_of_same (HNN.out _)))
      go_wp2_with fail
      go_ret2
      exact ⟨rfl, EY.out.drewN _⟩
    · have hN := fun (W : World) => isName_b W ⟨x.nm.toArray⟩ (by rw [encS_size]; exact hxs) true (by rw [encS_toList]; exact hn)
      have HNN := Lib.hid hN; have HNM := Lib.hid hn
      clear hN hn
      by_cases h0 : j = 0
      · have h0' : ¬ (0 : Int) < (j : Int) := by omega
        have h0d : decide ((0 : Int) < (j : Int)) = false := decide_eq_false h0'
        have h0n : ¬ 0 < j := by omega
        have h0b : decide (0 < j) = false := decide_eq_false h0n
        have HJ0 := Lib.hid h0
        clear h0
        go_wp2_with fail
        generalize wr.alloc (.cells #[.string ⟨x.nm.toArray⟩, .slice bx xn cx] 41 (0, 0)) = Y at *
        go_quiet ((go_at_call 70; exact Calls.quiet_of_same (HNN.out _)))
        go_wp2_with fail
        refine ⟨⟨j + 1, by first | rfl | rw [HJW.out], hjl, fun k hk => ?_, EY.out.drewN _, hbY⟩, by first | exact HDN.out | (rw [HJW.out]; exact HDN.out)⟩
        obtain rfl : k = j := by have := HJ0.out; omega
        exact ⟨x, HX.out, HNM.out, fun y h => absurd h (by have := HJ0.out; omega)⟩
      · obtain ⟨J, hJ⟩ : ∃ J, J = j - 1 := ⟨_, rfl⟩
        have hJw : IntKind.i64.wrap ((j : Int) - 1) = (J : Int) := by rw [hJ]; exact pred_wrap h0 (Nat.le_trans hj (Nat.le_trans hc1 hc2))
        have hJl : J < l.length := by omega
        have h0' : (0 : Int) < (j : Int) := by omega
        have h0d : decide ((0 : Int) < (j : Int)) = true := decide_eq_true h0'
        have h0n : 0 < j := by omega
        have h0b : decide (0 < j) = true := decide_eq_true h0n
        obtain ⟨y, hy⟩ : ∃ y, l[J]? = some y := ⟨l[J], List.getElem?_eq_getElem hJl⟩
        have cp := (((Ext.refl Nil w).same ((EY.out))).cell (HC.out J y hy).1 fun h => h)
        have hlq : (Op.bytesLess x.nm y.nm || x.nm == y.nm) = !bytesBefore y.nm x.nm := by rw [less_before]; exact before_leq _ _
        have HY := Lib.hid hy; have HJJ := Lib.hid hJ
        clear hy hJ h0
        cases hbf : bytesBefore y.nm x.nm
        · rw [hbf] at hlq
          clear hbf
          cases hl1 : Op.bytesLess x.nm y.nm
          · have hl2 : (x.nm == y.nm) = true := by simpa [hl1] using hlq
            clear hlq
            go_wp2_with fail
            generalize wr.alloc (.cells #[.string ⟨x.nm.toArray⟩, .slice bx xn cx] 41 (0, 0)) = Y at *
            go_quiet ((go_at_call 70; exact Calls.quiet_of_same (HNN.out _)))
            go_wp2_with fail
            go_ret2
            exact ⟨rfl, EY.out.drewN _⟩
          · clear hlq
            go_wp2_with fail
            generalize wr.alloc (.cells #[.string ⟨x.nm.toArray⟩, .slice bx xn cx] 41 (0, 0)) = Y at *
            go_quiet ((go_at_call 70; exact Calls.quiet_of_same (HNN.out _)))
            go_wp2_with fail
            go_ret2
            exact ⟨rfl, EY.out.drewN _⟩
        · rw [hbf] at hlq
          have HBF := Lib.hid hbf
          have hl1 : Op.bytesLess x.nm y.nm = false := by cases h : Op.bytesLess x.nm y.nm <;> simp_all
          have hl2 : (x.nm == y.nm) = false := by cases h : x.nm == y.nm <;> simp_all
          clear hbf hlq
          go_wp2_with fail
          generalize wr.alloc (.cells #[.string ⟨x.nm.toArray⟩, .slice bx xn cx] 41 (0, 0)) = Y at *
          go_quiet ((go_at_call 70; exact Calls.quiet_of_same (HNN.out _)))
          go_wp2_with fail
          refine ⟨⟨j + 1, by first | rfl | rw [HJW.out], hjl, fun k hk => ?_, EY.out.drewN _, hbY⟩, by first | exact HDN.out | (rw [HJW.out]; exact HDN.out)⟩
          by_cases hkj : k < j
          · exact HOK.out k hkj
          · obtain rfl : k = j := by omega
            refine ⟨x, HX.out, HNM.out, fun z hz0 hz => ?_⟩
            have h1 := HY.out
            rw [HJJ.out] at h1
            rw [h1] at hz
            rw [← Option.some.inj hz]
            exact HBF.out
end Go.Proofs.Ytnppneilbkmnfaa
namespace Go.Proofs.Ytnppneilbkmnfaa
open Go.RowKit

set_option maxRecDepth 20000 in
set_option maxHeartbeats 2000000 in
theorem mount_lim_m (w : World) (v : Value) (l : List FI) (h : ImgR w v l) (lim : Int) (hgood : ∀ i < l.length, nameOk l i) (hlim : lim < 1 ∨ 1073741824 < lim) :
    Calls Try.prog 33 #[.agg #[v], .int .i64 lim] w fun e w' => e = .returned (.tuple #[.pointer none, .int .i64 2]) ∧ Ext Nil w w' := by
  obtain ⟨ao, cap, rfl, hc1, hc2⟩ : ∃ ao cap, v = .slice ao l.length cap ∧ l.length ≤ cap ∧ cap ≤ maxLen := by
    obtain ⟨-, ao, cap, rfl, h2, h3, -⟩ := h.row
    exact ⟨ao, cap, rfl, h2, h3⟩
  have eW : Ext Nil w (w.alloc (.cells #[.slice ao l.length cap] 36 (0, 0))) := (Ext.refl _ _).alloc _
  have bW := (At.new w [.slice ao l.length cap] 36).cell 0 rfl
  have HH := Lib.hid h; have HB := Lib.hid hgood; have HEW := Lib.hid eW; have HBW := Lib.hid bW
  have HL := Lib.hid hlim
  clear hlim
  clear hgood h eW bW
  go_enter Try.func33, Try.ntmps33
  go_wp2_with fail
  go_loopw [15] (fun i wr => ∃ (j : Nat), i = .int .i64 (j : Int) ∧ j ≤ l.length ∧ Ext Nil w wr ∧ wr.cell? ⟨w.heap.size, 0, none⟩ = some (.slice ao l.length cap)) (fun i _ => l.length - (intOf i).toNat)
  case atStart => exact ⟨0, rfl, Nat.zero_le _, HEW.out, HBW.out⟩
  case round =>
    obtain ⟨j, rfl, hj, hE, hbw⟩ := hrel
    by_cases hjl : j < l.length
    · obtain ⟨b, off, cap', hao, -, -, hcell⟩ := HH.out.open (by omega)
      simp only [Value.slice.injEq, true_and] at hao
      obtain ⟨rfl, rfl⟩ := hao
      obtain ⟨x, hx, hn, hprev⟩ := HB.out j hjl
      obtain ⟨c0, c1⟩ := hcell j x hx
      obtain ⟨bx, cx, hxv, -⟩ := (HH.out.bytes x (List.mem_of_getElem? hx)).open
      rw [hxv] at c1
      replace c0 := hE.cell c0 fun h => h
      replace c1 := hE.cell c1 fun h => h
      generalize x.b.length = xn at *
      clear hxv
      have hxs := HH.out.names x (List.mem_of_getElem? hx)
      have hbl := (cell_spot c0).2
      have hwl := (cell_spot hbw).2
      have hf0 := (At.new wr [.string ⟨x.nm.toArray⟩, .slice bx xn cx] 41).cell 0 rfl
      have eY : Ext Nil wr (wr.alloc (.cells #[.string ⟨x.nm.toArray⟩, .slice bx xn cx] 41 (0, 0))) := (Ext.refl _ _).alloc _
      have hbY := eY.cell hbw fun h => h
      have EY := Lib.hid (hE.same eY)
      have hjw := succ_wrap (Nat.lt_of_lt_of_le hjl (Nat.le_trans hc1 hc2))
      have hdn := down hjl
      have HDN := Lib.hid hdn; have HJW := Lib.hid hjw
      have hN := fun (W : World) => isName_b W ⟨x.nm.toArray⟩ (by rw [encS_size]; exact hxs) true (by rw [encS_toList]; exact hn)
      have HNN := Lib.hid hN
      clear hN hn hx hE eY hdn
      by_cases h0 : j = 0
      · have h0' : ¬ (0 : Int) < (j : Int) := by omega
        have h0d : decide ((0 : Int) < (j : Int)) = false := decide_eq_false h0'
        have h0n : ¬ 0 < j := by omega
        have h0b : decide (0 < j) = false := decide_eq_false h0n
        clear h0 hcell hprev
        go_wp2_with fail
        generalize wr.alloc (.cells #[.string ⟨x.nm.toArray⟩, .slice bx xn cx] 41 (0, 0)) = Y at *
        go_quiet ((go_at_call 70; exact Calls.quiet_of_same (HNN.out _)))
        go_wp2_with fail
        exact ⟨⟨j + 1, by first | rfl | rw [HJW.out], hjl, EY.out.drewN _, hbY⟩, by first | exact HDN.out | (rw [HJW.out]; exact HDN.out)⟩
      · obtain ⟨J, hJ⟩ : ∃ J, J = j - 1 := ⟨_, rfl⟩
        have hJw : IntKind.i64.wrap ((j : Int) - 1) = (J : Int) := by rw [hJ]; exact pred_wrap h0 (Nat.le_trans hj (Nat.le_trans hc1 hc2))
        have hJl : J < l.length := by omega
        have h0' : (0 : Int) < (j : Int) := by omega
        have h0d : decide ((0 : Int) < (j : Int)) = true := decide_eq_true h0'
        have h0n : 0 < j := by omega
        have h0b : decide (0 < j) = true := decide_eq_true h0n
        obtain ⟨y, hy⟩ : ∃ y, l[J]? = some y := ⟨l[J], List.getElem?_eq_getElem hJl⟩
        have cp := EY.out.cell (hcell J y hy).1 fun h => h
        have hbf := hprev y h0n (by rw [← hJ]; exact hy)
        have hlq : (Op.bytesLess x.nm y.nm || x.nm == y.nm) = !bytesBefore y.nm x.nm := by rw [less_before]; exact before_leq _ _
        rw [hbf] at hlq
        have hl1 : Op.bytesLess x.nm y.nm = false := by cases h : Op.bytesLess x.nm y.nm <;> simp_all
        have hl2 : (x.nm == y.nm) = false := by cases h : x.nm == y.nm <;> simp_all
        clear hy hJ h0 hbf hlq hcell hprev
        go_wp2_with fail
        generalize wr.alloc (.cells #[.string ⟨x.nm.toArray⟩, .slice bx xn cx] 41 (0, 0)) = Y at *
        go_quiet ((go_at_call 70; exact Calls.quiet_of_same (HNN.out _)))
        go_wp2_with fail
        exact ⟨⟨j + 1, by first | rfl | rw [HJW.out], hjl, EY.out.drewN _, hbY⟩, by first | exact HDN.out | (rw [HJW.out]; exact HDN.out)⟩
    · have hnot : ¬ (j : Int) < (l.length : Int) := by omega
      have HE := Lib.hid hE
      clear hE
      go_wp2_with (go_at_call 17; refine (new_bad _ lim HL.out).mono ?_; rintro e w' ⟨rfl, rfl⟩)
      go_ret2
      exact ⟨rfl, HE.out⟩

set_option maxRecDepth 20000 in
set_option maxHeartbeats 2000000 in
theorem mount_many_m (w : World) (v : Value) (l : List FI) (h : ImgR w v l) (lim : Int) (hgood : ∀ i < l.length, nameOk l i) (hlim : 1 ≤ lim ∧ lim ≤ 1073741824) (hmany : 65536 < l.length) :
    Calls Try.prog 33 #[.agg #[v], .int .i64 lim] w fun e w' => e = .returned (.tuple #[.pointer none, .int .i64 62]) ∧ Ext Nil w w' := by
  obtain ⟨ao, cap, rfl, hc1, hc2⟩ : ∃ ao cap, v = .slice ao l.length cap ∧ l.length ≤ cap ∧ cap ≤ maxLen := by
    obtain ⟨-, ao, cap, rfl, h2, h3, -⟩ := h.row
    exact ⟨ao, cap, rfl, h2, h3⟩
  have eW : Ext Nil w (w.alloc (.cells #[.slice ao l.length cap] 36 (0, 0))) := (Ext.refl _ _).alloc _
  have bW := (At.new w [.slice ao l.length cap] 36).cell 0 rfl
  have HH := Lib.hid h; have HB := Lib.hid hgood; have HEW := Lib.hid eW; have HBW := Lib.hid bW
  obtain ⟨n, rfl⟩ := Int.eq_ofNat_of_zero_le (show 0 ≤ lim by omega)
  have g1 : 1 ≤ n := by omega
  have g2 : n ≤ 1073741824 := by omega
  clear hlim
  clear hgood h eW bW
  go_enter Try.func33, Try.ntmps33
  go_wp2_with fail
  go_loopw [15] (fun i wr => ∃ (j : Nat), i = .int .i64 (j : Int) ∧ j ≤ l.length ∧ Ext Nil w wr ∧ wr.cell? ⟨w.heap.size, 0, none⟩ = some (.slice ao l.length cap)) (fun i _ => l.length - (intOf i).toNat)
  case atStart => exact ⟨0, rfl, Nat.zero_le _, HEW.out, HBW.out⟩
  case round =>
    obtain ⟨j, rfl, hj, hE, hbw⟩ := hrel
    by_cases hjl : j < l.length
    · obtain ⟨b, off, cap', hao, -, -, hcell⟩ := HH.out.open (by omega)
      simp only [Value.slice.injEq, true_and] at hao
      obtain ⟨rfl, rfl⟩ := hao
      obtain ⟨x, hx, hn, hprev⟩ := HB.out j hjl
      obtain ⟨c0, c1⟩ := hcell j x hx
      obtain ⟨bx, cx, hxv, -⟩ := (HH.out.bytes x (List.mem_of_getElem? hx)).open
      rw [hxv] at c1
      replace c0 := hE.cell c0 fun h => h
      replace c1 := hE.cell c1 fun h => h
      generalize x.b.length = xn at *
      clear hxv
      have hxs := HH.out.names x (List.mem_of_getElem? hx)
      have hbl := (cell_spot c0).2
      have hwl := (cell_spot hbw).2
      have hf0 := (At.new wr [.string ⟨x.nm.toArray⟩, .slice bx xn cx] 41).cell 0 rfl
      have eY : Ext Nil wr (wr.alloc (.cells #[.string ⟨x.nm.toArray⟩, .slice bx xn cx] 41 (0, 0))) := (Ext.refl _ _).alloc _
      have hbY := eY.cell hbw fun h => h
      have EY := Lib.hid (hE.same eY)
      have hjw := succ_wrap (Nat.lt_of_lt_of_le hjl (Nat.le_trans hc1 hc2))
      have hdn := down hjl
      have HDN := Lib.hid hdn; have HJW := Lib.hid hjw
      have hN := fun (W : World) => isName_b W ⟨x.nm.toArray⟩ (by rw [encS_size]; exact hxs) true (by rw [encS_toList]; exact hn)
      have HNN := Lib.hid hN
      clear hN hn hx hE eY hdn
      by_cases h0 : j = 0
      · have h0' : ¬ (0 : Int) < (j : Int) := by omega
        have h0d : decide ((0 : Int) < (j : Int)) = false := decide_eq_false h0'
        have h0n : ¬ 0 < j := by omega
        have h0b : decide (0 < j) = false := decide_eq_false h0n
        clear h0 hcell hprev
        go_wp2_with fail
        generalize wr.alloc (.cells #[.string ⟨x.nm.toArray⟩, .slice bx xn cx] 41 (0, 0)) = Y at *
        go_quiet ((go_at_call 70; exact Calls.quiet_of_same (HNN.out _)))
        go_wp2_with fail
        exact ⟨⟨j + 1, by first | rfl | rw [HJW.out], hjl, EY.out.drewN _, hbY⟩, by first | exact HDN.out | (rw [HJW.out]; exact HDN.out)⟩
      · obtain ⟨J, hJ⟩ : ∃ J, J = j - 1 := ⟨_, rfl⟩
        have hJw : IntKind.i64.wrap ((j : Int) - 1) = (J : Int) := by rw [hJ]; exact pred_wrap h0 (Nat.le_trans hj (Nat.le_trans hc1 hc2))
        have hJl : J < l.length := by omega
        have h0' : (0 : Int) < (j : Int) := by omega
        have h0d : decide ((0 : Int) < (j : Int)) = true := decide_eq_true h0'
        have h0n : 0 < j := by omega
        have h0b : decide (0 < j) = true := decide_eq_true h0n
        obtain ⟨y, hy⟩ : ∃ y, l[J]? = some y := ⟨l[J], List.getElem?_eq_getElem hJl⟩
        have cp := EY.out.cell (hcell J y hy).1 fun h => h
        have hbf := hprev y h0n (by rw [← hJ]; exact hy)
        have hlq : (Op.bytesLess x.nm y.nm || x.nm == y.nm) = !bytesBefore y.nm x.nm := by rw [less_before]; exact before_leq _ _
        rw [hbf] at hlq
        have hl1 : Op.bytesLess x.nm y.nm = false := by cases h : Op.bytesLess x.nm y.nm <;> simp_all
        have hl2 : (x.nm == y.nm) = false := by cases h : x.nm == y.nm <;> simp_all
        clear hy hJ h0 hbf hlq hcell hprev
        go_wp2_with fail
        generalize wr.alloc (.cells #[.string ⟨x.nm.toArray⟩, .slice bx xn cx] 41 (0, 0)) = Y at *
        go_quiet ((go_at_call 70; exact Calls.quiet_of_same (HNN.out _)))
        go_wp2_with fail
        exact ⟨⟨j + 1, by first | rfl | rw [HJW.out], hjl, EY.out.drewN _, hbY⟩, by first | exact HDN.out | (rw [HJW.out]; exact HDN.out)⟩
    · have hnot : ¬ (j : Int) < (l.length : Int) := by omega
      have HE := Lib.hid hE
      have hm2 : (65536 : Int) < (l.length : Int) := by omega
      clear hE
      go_wp2_with (go_at_call 17; refine (new_at _ n g1 g2).mono ?_; rintro e w' ⟨rfl, h3, e3⟩; have b3 := e3.cell hbw fun h => h; clear h3)
      go_ret2
      exact ⟨rfl, HE.out.same e3⟩
end Go.Proofs.Ytnppneilbkmnfaa
namespace Go.Proofs.Ytnppneilbkmnfaa
open Go.RowKit

def FI.file (x : FI) : FileM := ⟨x.nm, x.b, x.b.length⟩
/-- the disk of an image, all of it synced -/
def mntD (n : Nat) (l : List FI) : Dk := ⟨n, l.map FI.file, false, false, 0, []⟩

theorem names_rising {l : List FI} (h : ∀ i < l.length, nameOk l i) : ∀ (j : Nat) (i : Nat) (x y : FI), i < j → l[i]? = some x → l[j]? = some y → bytesBefore x.nm y.nm = true
  | 0, i, x, y, hi, _, _ => absurd hi (Nat.not_lt_zero _)
  | j + 1, i, x, y, hi, hx, hy => by
    have hj : j + 1 < l.length := (List.getElem?_eq_some_iff.1 hy).1
    obtain ⟨y', hy', -, hp⟩ := h (j + 1) hj
    rw [hy] at hy'
    obtain rfl := Option.some.inj hy'
    obtain ⟨z, hz⟩ : ∃ z, l[j]? = some z := ⟨l[j], List.getElem?_eq_getElem (by omega)⟩
    have h1 := hp z (by omega) hz
    rcases Nat.lt_or_ge i j with h2 | h2
    · exact WideShapes.bytes_trans _ _ _ (names_rising h j i x z h2 hx hz) h1
    · obtain rfl : i = j := by omega
      rw [hx] at hz
      rw [Option.some.inj hz]
      exact h1
theorem insK_end {α : Type} (k : α → Nm) (x : α) : ∀ l : List α, (∀ y ∈ l, bytesBefore (k y) (k x) = true) → insK k x l = l ++ [x]
  | [], _ => rfl
  | y :: r, h => by
    unfold insK
    rw [before_asymm (h y (List.mem_cons_self ..)), if_neg (by simp), insK_end k x r fun z hz => h z (List.mem_cons_of_mem _ hz)]
    rfl
theorem putK_end {α : Type} (k : α → Nm) (x : α) (l : List α) (h : ∀ y ∈ l, bytesBefore (k y) (k x) = true) : putK k x l = l ++ [x] := by
  unfold putK
  rw [delK_none k _ l fun y hy => before_ne (h y hy)]
  exact insK_end k x l h
theorem mnt_before {l : List FI} (h : ∀ i < l.length, nameOk l i) {j : Nat} {x : FI} (hx : l[j]? = some x) : ∀ f ∈ (l.take j).map FI.file, bytesBefore f.nm x.nm = true := by
  intro f hf
  obtain ⟨y, hy, rfl⟩ := List.mem_map.1 hf
  obtain ⟨i, hi, he⟩ := List.mem_iff_getElem.1 hy
  rw [List.length_take] at hi
  rw [List.getElem_take] at he
  exact names_rising h j i y x (by omega) (by rw [← he]; exact List.getElem?_eq_getElem (by omega)) hx
theorem mnt_take {l : List FI} {j : Nat} {x : FI} (hx : l[j]? = some x) : l.take (j + 1) = l.take j ++ [x] := by
  rw [List.take_add_one, hx]
  rfl
theorem mnt_put {n : Nat} {l : List FI} (h : ∀ i < l.length, nameOk l i) {j : Nat} {x : FI} (hx : l[j]? = some x) : (mntD n (l.take j)).put x.file = mntD n (l.take (j + 1)) := by
  unfold Dk.put mntD
  simp only []
  rw [putK_end FileM.nm x.file _ (mnt_before h hx), mnt_take hx, List.map_append]
  rfl
theorem mnt_find {n : Nat} {l : List FI} (h : ∀ i < l.length, nameOk l i) {j : Nat} {x : FI} (hx : l[j]? = some x) : (mntD n (l.take j)).find x.nm = none := by
  unfold Dk.find
  exact (findK_none FileM.nm x.nm _).2 fun f hf => before_ne (mnt_before h hx f hf)
theorem mnt_size {n : Nat} {l : List FI} (h : ∀ i < l.length, nameOk l i) {j : Nat} {x : FI} (hx : l[j]? = some x) : (mntD n (l.take j)).size x.nm = 0 := by
  unfold Dk.size
  rw [mnt_find h hx]
theorem mnt_used {n : Nat} {l : List FI} {j : Nat} {x : FI} (hx : l[j]? = some x) : (mntD n (l.take (j + 1))).used = (mntD n (l.take j)).used + x.b.length := by
  unfold Dk.used mntD sumF
  rw [mnt_take hx]
  simp [FI.file]
theorem mnt_wf {n : Nat} {l : List FI} (h : ∀ i < l.length, nameOk l i) {j : Nat} {x : FI} (hx : l[j]? = some x) (hwf : (mntD n (l.take j)).Wf) (hl : l.length ≤ 65536) (hu : (mntD n (l.take j)).used + x.b.length ≤ n) : ((mntD n (l.take j)).put x.file).Wf := by
  have hj : j < l.length := (List.getElem?_eq_some_iff.1 hx).1
  obtain ⟨x', hx', hn, -⟩ := h j hj
  rw [hx] at hx'
  obtain rfl := Option.some.inj hx'
  refine Dk.put_wf hwf x.file (Nat.le_refl _) hn ?_ (.inr ?_)
  · have : (mntD n (l.take j)).size x.file.nm = 0 := mnt_size h hx
    rw [this]
    exact hu
  · show ((l.take j).map FI.file).length < 65536
    rw [List.length_map, List.length_take]
    omega
end Go.Proofs.Ytnppneilbkmnfaa
namespace Go.Proofs.Ytnppneilbkmnfaa
open Go.RowKit

/-- what Mount answers by its files' sizes -/
def MountPost (w : World) (n : Nat) (l : List FI) (e : Ending) (w' : World) : Prop :=
  (n < ((l.map FI.file).map fun f => f.b.length).sum ∧ e = .returned (.tuple #[.pointer none, .int .i64 62]) ∧ Ext Nil w w') ∨ (∃ d, e = .returned (.tuple #[.pointer (some ⟨d, 0, none⟩), .int .i64 0]) ∧ Life w w' d (mntD n l))
theorem mnt_over {n : Nat} {l : List FI} {j : Nat} {x : FI} (hx : l[j]? = some x) (h : n < (mntD n (l.take j)).used + x.b.length) : n < ((l.map FI.file).map fun f => f.b.length).sum := by
  rw [← mnt_used hx] at h
  unfold Dk.used mntD sumF at h
  have e : l = l.take (j + 1) ++ l.drop (j + 1) := (List.take_append_drop ..).symm
  rw [e, List.map_append, List.map_append, List.sum_append]
  have h : n < (((l.take (j + 1)).map FI.file).map fun f => f.b.length).sum := h
  omega

set_option maxRecDepth 20000 in
set_option maxHeartbeats 2000000 in
theorem mount_rest_m (w : World) (v : Value) (l : List FI) (h : ImgR w v l) (lim : Int) (hgood : ∀ i < l.length, nameOk l i) (hlim : 1 ≤ lim ∧ lim ≤ 1073741824) (hfew : l.length ≤ 65536) :
    Calls Try.prog 33 #[.agg #[v], .int .i64 lim] w fun e w' => MountPost w lim.toNat l e w' := by
  obtain ⟨ao, cap, rfl, hc1, hc2⟩ : ∃ ao cap, v = .slice ao l.length cap ∧ l.length ≤ cap ∧ cap ≤ maxLen := by
    obtain ⟨-, ao, cap, rfl, h2, h3, -⟩ := h.row
    exact ⟨ao, cap, rfl, h2, h3⟩
  have eW : Ext Nil w (w.alloc (.cells #[.slice ao l.length cap] 36 (0, 0))) := (Ext.refl _ _).alloc _
  have bW := (At.new w [.slice ao l.length cap] 36).cell 0 rfl
  have HH := Lib.hid h; have HB := Lib.hid hgood; have HEW := Lib.hid eW; have HBW := Lib.hid bW
  obtain ⟨n, rfl⟩ := Int.eq_ofNat_of_zero_le (show 0 ≤ lim by omega)
  have g1 : 1 ≤ n := by omega
  have g2 : n ≤ 1073741824 := by omega
  rw [Int.toNat_natCast]
  clear hlim
  clear hgood h eW bW
  go_enter Try.func33, Try.ntmps33
  go_wp2_with fail
  go_loopw [15] (fun i wr => ∃ (j : Nat), i = .int .i64 (j : Int) ∧ j ≤ l.length ∧ Ext Nil w wr ∧ wr.cell? ⟨w.heap.size, 0, none⟩ = some (.slice ao l.length cap)) (fun i _ => l.length - (intOf i).toNat)
  case atStart => exact ⟨0, rfl, Nat.zero_le _, HEW.out, HBW.out⟩
  case round =>
    obtain ⟨j, rfl, hj, hE, hbw⟩ := hrel
    by_cases hjl : j < l.length
    · obtain ⟨b, off, cap', hao, -, -, hcell⟩ := HH.out.open (by omega)
      simp only [Value.slice.injEq, true_and] at hao
      obtain ⟨rfl, rfl⟩ := hao
      obtain ⟨x, hx, hn, hprev⟩ := HB.out j hjl
      obtain ⟨c0, c1⟩ := hcell j x hx
      obtain ⟨bx, cx, hxv, -⟩ := (HH.out.bytes x (List.mem_of_getElem? hx)).open
      rw [hxv] at c1
      replace c0 := hE.cell c0 fun h => h
      replace c1 := hE.cell c1 fun h => h
      generalize x.b.length = xn at *
      clear hxv
      have hxs := HH.out.names x (List.mem_of_getElem? hx)
      have hbl := (cell_spot c0).2
      have hwl := (cell_spot hbw).2
      have hf0 := (At.new wr [.string ⟨x.nm.toArray⟩, .slice bx xn cx] 41).cell 0 rfl
      have eY : Ext Nil wr (wr.alloc (.cells #[.string ⟨x.nm.toArray⟩, .slice bx xn cx] 41 (0, 0))) := (Ext.refl _ _).alloc _
      have hbY := eY.cell hbw fun h => h
      have EY := Lib.hid (hE.same eY)
      have hjw := succ_wrap (Nat.lt_of_lt_of_le hjl (Nat.le_trans hc1 hc2))
      have hdn := down hjl
      have HDN := Lib.hid hdn; have HJW := Lib.hid hjw
      have hN := fun (W : World) => isName_b W ⟨x.nm.toArray⟩ (by rw [encS_size]; exact hxs) true (by rw [encS_toList]; exact hn)
      have HNN := Lib.hid hN
      clear hN hn hx hE eY hdn
      by_cases h0 : j = 0
      · have h0' : ¬ (0 : Int) < (j : Int) := by omega
        have h0d : decide ((0 : Int) < (j : Int)) = false := decide_eq_false h0'
        have h0n : ¬ 0 < j := by omega
        have h0b : decide (0 < j) = false := decide_eq_false h0n
        clear h0 hcell hprev
        go_wp2_with fail
        generalize wr.alloc (.cells #[.string ⟨x.nm.toArray⟩, .slice bx xn cx] 41 (0, 0)) = Y at *
        go_quiet ((go_at_call 70; exact Calls.quiet_of_same (HNN.out _)))
        go_wp2_with fail
        exact ⟨⟨j + 1, by first | rfl | rw [HJW.out], hjl, EY.out.drewN _, hbY⟩, by first | exact HDN.out | (rw [HJW.out]; exact HDN.out)⟩
      · obtain ⟨J, hJ⟩ : ∃ J, J = j - 1 := ⟨_, rfl⟩
        have hJw : IntKind.i64.wrap ((j : Int) - 1) = (J : Int) := by rw [hJ]; exact pred_wrap h0 (Nat.le_trans hj (Nat.le_trans hc1 hc2))
        have hJl : J < l.length := by omega
        have h0' : (0 : Int) < (j : Int) := by omega
        have h0d : decide ((0 : Int) < (j : Int)) = true := decide_eq_true h0'
        have h0n : 0 < j := by omega
        have h0b : decide (0 < j) = true := decide_eq_true h0n
        obtain ⟨y, hy⟩ : ∃ y, l[J]? = some y := ⟨l[J], List.getElem?_eq_getElem hJl⟩
        have cp := EY.out.cell (hcell J y hy).1 fun h => h
        have hbf := hprev y h0n (by rw [← hJ]; exact hy)
        have hlq : (Op.bytesLess x.nm y.nm || x.nm == y.nm) = !bytesBefore y.nm x.nm := by rw [less_before]; exact before_leq _ _
        rw [hbf] at hlq
        have hl1 : Op.bytesLess x.nm y.nm = false := by cases h : Op.bytesLess x.nm y.nm <;> simp_all
        have hl2 : (x.nm == y.nm) = false := by cases h : x.nm == y.nm <;> simp_all
        clear hy hJ h0 hbf hlq hcell hprev
        go_wp2_with fail
        generalize wr.alloc (.cells #[.string ⟨x.nm.toArray⟩, .slice bx xn cx] 41 (0, 0)) = Y at *
        go_quiet ((go_at_call 70; exact Calls.quiet_of_same (HNN.out _)))
        go_wp2_with fail
        exact ⟨⟨j + 1, by first | rfl | rw [HJW.out], hjl, EY.out.drewN _, hbY⟩, by first | exact HDN.out | (rw [HJW.out]; exact HDN.out)⟩
    · have hnot : ¬ (j : Int) < (l.length : Int) := by omega
      have HE := Lib.hid hE
      have hm2 : ¬ (65536 : Int) < (l.length : Int) := by omega
      clear hE
      go_wp2_with (go_at_call 17; refine (new_at _ n g1 g2).mono ?_; rintro e w3 ⟨rfl, h3, e3⟩; have b3 := e3.cell hbw fun h => h; have HD3 := Lib.hid h3; have HE3 := Lib.hid e3; clear h3 e3)
      have hws := HE.out.size
      have hE3 := HE.out.same HE3.out
      have hk3 : ∀ k ∈ dbl (wr.heap.size + 1) wr.heap.size (.slice none 0 0) [], w.heap.size ≤ k := by
        intro k hk
        simp [dbl, footL, foot] at hk
        omega
      have HE4 := Lib.hid hE3; have HK3 := Lib.hid hk3
      clear hE3 hk3 b3 hws
      generalize wr.heap.size = q at *
      go_loopw [56] (fun i wr2 => ∃ (j : Nat) (fbs : List FB), i = .int .i64 (j : Int) ∧ j ≤ l.length ∧ DAt wr2 (q + 1) q (.slice none 0 0) fbs (mntD n (l.take j)) ∧ (∀ k ∈ dbl (q + 1) q (.slice none 0 0) fbs, w.heap.size ≤ k) ∧ Ext Nil w wr2) (fun i _ => l.length - (intOf i).toNat)
      case atStart => exact ⟨0, [], rfl, Nat.zero_le _, HD3.out, HK3.out, HE4.out⟩
      case round =>
        obtain ⟨j, fbs, rfl, hj, hD, hK, hE⟩ := hrel
        by_cases hjl : j < l.length
        · obtain ⟨b, off, cap', hao, -, -, hcell⟩ := HH.out.open (by omega)
          simp only [Value.slice.injEq, true_and] at hao
          obtain ⟨rfl, rfl⟩ := hao
          obtain ⟨x, hx⟩ : ∃ x, l[j]? = some x := ⟨l[j], List.getElem?_eq_getElem hjl⟩
          obtain ⟨c0, c1⟩ := hcell j x hx
          have hB := HH.out.bytes x (List.mem_of_getElem? hx)
          obtain ⟨bx, cx, hxv, -⟩ := hB.open
          rw [hxv] at c1 hB
          replace c0 := hE.cell c0 fun h => h
          replace c1 := hE.cell c1 fun h => h
          have hbl := (cell_spot c0).2
          have hfl : wr.heap.size = wr.heap.size := rfl
          obtain ⟨U, hU⟩ : ∃ U, U = (mntD n (l.take j)).used := ⟨_, rfl⟩
          have hUn : U ≤ n := by rw [hU]; exact hD.wf.used
          obtain ⟨R, hR⟩ : ∃ R, R = n - U := ⟨_, rfl⟩
          have hRw : IntKind.i64.wrap ((n : Int) - (U : Int)) = (R : Int) := by rw [IntWalk.i64_in _ (by omega)]; omega
          have eY : Ext Nil wr (wr.alloc (.cells #[.string ⟨x.nm.toArray⟩, .slice bx x.b.length cx] 41 (0, 0))) := (Ext.refl _ _).alloc _
          have AY := At.new wr [.string ⟨x.nm.toArray⟩, .slice bx x.b.length cx] 41
          have y0 := AY.cell 0 rfl
          have y1 := AY.cell 1 rfl
          have DY := hD.ext eY fun _ _ h => h
          have d1 := DY.cells.cell 1 rfl
          rw [← hU] at d1
          have hjw := succ_wrap (Nat.lt_of_lt_of_le hjl (Nat.le_trans hc1 hc2))
          have hdn := down hjl
          have HDN := Lib.hid hdn; have HJW := Lib.hid hjw; have HEY := Lib.hid (hE.same eY); have HDY := Lib.hid DY; have HU := Lib.hid hU; have HR := Lib.hid hR; have HX := Lib.hid hx; have HBB := Lib.hid (hB.ext (hE.same eY) fun _ _ h => h); have HAY := Lib.hid AY; have HK := Lib.hid hK; have HXV := Lib.hid hxv
          have hqf : ¬ wr.heap.size = q + 1 := fun e => by have := hD.lt (q + 1) (by simp [dbl]); omega
          have hqq : ¬ wr.heap.size = q := fun e => by have := hD.lt q (by simp [dbl]); omega
          have HQQ := Lib.hid hqq; have HQF := Lib.hid hqf; have HBW := Lib.hid hB
          clear hdn eY AY DY hU hR hx hB hK hE hD hxv hqf hqq hfl
          by_cases hfull : R < x.b.length
          · have hfi : (R : Int) < (x.b.length : Int) := by omega
            go_wp2_with fail
            generalize wr.alloc (.cells #[.string ⟨x.nm.toArray⟩, .slice bx x.b.length cx] 41 (0, 0)) = Y at *
            go_quiet (fail)
            go_wp2_with fail
            go_ret2
            exact .inl ⟨mnt_over HX.out (by have := HU.out; have := HR.out; omega), rfl, HEY.out.drewN _⟩
          · have hfi : ¬ (R : Int) < (x.b.length : Int) := by omega
            obtain ⟨V, hV⟩ : ∃ V, V = U + x.b.length := ⟨_, rfl⟩
            have hVw : IntKind.i64.wrap ((U : Int) + (x.b.length : Int)) = (V : Int) := by rw [IntWalk.i64_in _ (by have := HR.out; omega)]; omega
            have HV := Lib.hid hV
            clear hV
            go_wp2_with fail
            generalize wr.alloc (.cells #[.string ⟨x.nm.toArray⟩, .slice bx x.b.length cx] 41 (0, 0)) = Y at *
            go_quiet (fail)
            go_wp2_with fail
            have eZ : Ext Nil Y (Y.drewN nq) := (Ext.refl Nil Y).drewN nq
            replace y0 := eZ.cell y0 fun h => h
            replace y1 := eZ.cell y1 fun h => h
            have DZ := HDY.out.ext eZ fun _ _ h => h
            replace d1 := DZ.cells.cell 1 rfl
            rw [← HU.out] at d1
            have z1 := DZ.cells.frozen 1
            have HDZ := Lib.hid DZ
            have HEZ := Lib.hid (HEY.out.same eZ); have HBZ := Lib.hid (HBB.out.ext eZ fun _ _ h => h); have HAZ := Lib.hid (HAY.out.ext eZ fun h => h)
            clear DZ eZ HDY HEY HBB HAY
            generalize Y.drewN nq = Z at *
            go_region
            have hqw : w.heap.size ≤ q + 1 := HK.out (q + 1) (by simp [dbl])
            have hqm : w.heap.size ≤ q := HK.out q (by simp [dbl])
            have hql := HDZ.out.lt
            have e1 : Ext (One (q + 1)) Z (Z.setCell ⟨q + 1, 1, none⟩ (.int .i64 (V : Int))).drew := ((Ext.refl (One (q + 1)) Z).setCell (p := ⟨q + 1, 1, none⟩) (fun _ => (rfl : q + 1 = q + 1)) _).drew
            have A1 : At (Z.setCell ⟨q + 1, 1, none⟩ (.int .i64 (V : Int))).drew (q + 1) 57 _ := HDZ.out.cells.set 1 (.int .i64 (V : Int))
            have M1 := HDZ.out.map.ext e1 (fun e => by have e : q = q + 1 := e; omega)
            have eX := HEZ.out.trans e1 fun i hi e => by have e : i = q + 1 := e; omega
            replace y0 := e1.cell y0 (fun e => HQF.out (by have e : wr.heap.size = q + 1 := e; exact e))
            replace y1 := e1.cell y1 (fun e => HQF.out (by have e : wr.heap.size = q + 1 := e; exact e))
            have d2 := A1.cell 2 rfl
            have BX := HBW.out.ext eX fun _ _ h => h
            clear d1 z1
            go_wp2_with fail
            generalize (Z.setCell ⟨q + 1, 1, none⟩ (.int .i64 (V : Int))).drew = X at *
            refine wp_region_held_drew (S := fun w' => w'.cell? ⟨q + 1, 2, none⟩ = some (.map (some q)) ∧ w'.cell? ⟨wr.heap.size, 0, none⟩ = some (.string ⟨x.nm.toArray⟩) ∧ w'.cell? ⟨wr.heap.size, 1, none⟩ = some (.slice bx x.b.length cx)) (by kernel_rfl) ⟨d2, y0, y1⟩ (fun hHeld => ?_)
            refine wpAnyH_take (i := 0) (v := .pointer (some ⟨q + 1, 0, none⟩)) rfl (by kernel_rfl) (by kernel_rfl) (by kernel_rfl) (fun _ _ _ h => h) (Or.inl ⟨by rfl, ?y1⟩) (by assumption) ?r1
            case y1 => (intro w hSw; obtain ⟨s1, s2, s3⟩ := hSw; go_simp)
            simp only [Act.put]
            refine wpAnyH_take (i := 1) (v := .pointer (some ⟨q + 1, 0, none⟩)) rfl (by kernel_rfl) (by kernel_rfl) (by kernel_rfl) (fun _ _ _ h => h) (Or.inl ⟨by rfl, ?y2⟩) (by assumption) ?r2
            case y2 => (intro w hSw; obtain ⟨s1, s2, s3⟩ := hSw; go_simp)
            simp only [Act.put]
            refine wpAnyH_take (i := 2) (v := .pointer (some ⟨q + 1, 2, none⟩)) rfl (by kernel_rfl) (by kernel_rfl) (by kernel_rfl) (fun _ _ _ h => h) (Or.inl ⟨by rfl, ?y3⟩) (by assumption) ?r3
            case y3 => (intro w hSw; obtain ⟨s1, s2, s3⟩ := hSw; go_simp)
            simp only [Act.put]
            refine wpAnyH_take (i := 3) (v := .map (some q)) rfl (by kernel_rfl) (by kernel_rfl) (by kernel_rfl) (fun _ _ _ h => h) (Or.inl ⟨by rfl, ?y4⟩) (by assumption) ?r4
            case y4 => (intro w hSw; obtain ⟨s1, s2, s3⟩ := hSw; go_simp)
            simp only [Act.put]
            refine wpAnyH_take (i := 4) (v := .pointer (some ⟨wr.heap.size, 0, none⟩)) rfl (by kernel_rfl) (by kernel_rfl) (by kernel_rfl) (fun _ _ _ h => h) (Or.inl ⟨by rfl, ?y5⟩) (by assumption) ?r5
            case y5 => (intro w hSw; obtain ⟨s1, s2, s3⟩ := hSw; go_simp)
            simp only [Act.put]
            refine wpAnyH_take (i := 5) (v := .string ⟨x.nm.toArray⟩) rfl (by kernel_rfl) (by kernel_rfl) (by kernel_rfl) (fun _ _ _ h => h) (Or.inl ⟨by rfl, ?y6⟩) (by assumption) ?r6
            case y6 => (intro w hSw; obtain ⟨s1, s2, s3⟩ := hSw; go_simp)
            simp only [Act.put]
            refine wpAnyH_take (i := 6) (v := .pointer (some ⟨wr.heap.size, 1, none⟩)) rfl (by kernel_rfl) (by kernel_rfl) (by kernel_rfl) (fun _ _ _ h => h) (Or.inl ⟨by rfl, ?y7⟩) (by assumption) ?r7
            case y7 => (intro w hSw; obtain ⟨s1, s2, s3⟩ := hSw; go_simp)
            simp only [Act.put]
            refine wpAnyH_take (i := 7) (v := .slice bx x.b.length cx) rfl (by kernel_rfl) (by kernel_rfl) (by kernel_rfl) (fun _ _ _ h => h) (Or.inl ⟨by rfl, ?y8⟩) (by assumption) ?r8
            case y8 => (intro w hSw; obtain ⟨s1, s2, s3⟩ := hSw; go_simp)
            simp only [Act.put]
            refine wpAnyH_take (i := 9) (v := .pointer (some ⟨wr.heap.size, 1, none⟩)) rfl (by kernel_rfl) (by kernel_rfl) (by kernel_rfl) (fun _ _ _ h => h) (Or.inl ⟨by rfl, ?y9⟩) (by assumption) ?r9
            case y9 => (intro w hSw; obtain ⟨s1, s2, s3⟩ := hSw; go_simp)
            simp only [Act.put]
            refine wpAnyH_take (i := 10) (v := .slice bx x.b.length cx) rfl (by kernel_rfl) (by kernel_rfl) (by kernel_rfl) (fun _ _ _ h => h) (Or.inl ⟨by rfl, ?y10⟩) (by assumption) ?r10
            case y10 => (intro w hSw; obtain ⟨s1, s2, s3⟩ := hSw; go_simp)
            simp only [Act.put]
            refine wpAnyH_take (i := 11) (v := .int .i64 x.b.length) rfl (by kernel_rfl) (by kernel_rfl) (by kernel_rfl) (fun _ _ _ h => h) (Or.inl ⟨by rfl, ?y11⟩) (by assumption) ?r11
            case y11 => (intro w hSw; obtain ⟨s1, s2, s3⟩ := hSw; go_simp)
            simp only [Act.put]
            refine wpAnyH_ready (rs := [8]) (by kernel_rfl) (by simp) (AllReadyH.cons rfl (fun K hK => ?_) AllReadyH.nil)
            go_simp
            refine (clone_any X.drew _ x.b (BX.ext (Ext.refl Nil X).drew fun _ _ h => h) (by have := HR.out; unfold Fits; omega)).mono ?_
            rintro e w5 ⟨ao2, cap2, hq1, hq2, rfl, O2, S2⟩
            have S2 : Step Nil X _ w5 := ⟨((Ext.refl Nil X).drew).same S2.1, S2.2⟩
            go_wp2_with fail
            refine hK.out _ _ ⟨S2.1.cell d2 fun h => h, S2.1.cell y0 fun h => h, S2.1.cell y1 fun h => h⟩ (fun hHeld => ?_)
            clear hK K
            refine wpAnyH_take (i := 12) (v := .agg #[.slice ao2 x.b.length cap2, .int .i64 x.b.length]) rfl (by kernel_rfl) (by kernel_rfl) (by kernel_rfl) (fun _ _ _ h => h) (Or.inl ⟨by rfl, ?y12⟩) (by assumption) ?r12
            case y12 => (intro w hSw; obtain ⟨s1, s2, s3⟩ := hSw; go_simp)
            simp only [Act.put]
            have E5 : Ext Nil w5 (w5.alloc (.cells #[.slice ao2 x.b.length cap2, .int .i64 x.b.length] 115 (0, 0))) := (Ext.refl Nil w5).alloc _
            have E6 := S2.1.same E5
            refine wpAnyH_ready (rs := [13]) (by kernel_rfl) (by simp) (AllReadyH.cons rfl (fun K hK => ?_) AllReadyH.nil)
            go_simp
            refine hK.out _ _ ⟨E6.cell d2 fun h => h, E6.cell y0 fun h => h, E6.cell y1 fun h => h⟩ (fun hHeld => ?_)
            clear hK K
            have hcnt : fbs.length < maxLen := by have := HDZ.out.count; have h2 : (mntD n (l.take j)).fs.length ≤ 65536 := HDZ.out.wf.count; unfold maxLen; omega
            have M3 : MapAt (w5.alloc (.cells #[.slice ao2 x.b.length cap2, .int .i64 x.b.length] 115 (0, 0))) q fbs := M1.ext E6 fun h => h
            obtain ⟨w', hrun, M', e'⟩ := MapAt.put M3 ⟨x.nm.toArray⟩ (by rw [encS_size]; exact HH.out.names x (List.mem_of_getElem? HX.out)) hcnt ⟨x.file, w5.heap.size, .slice ao2 x.b.length cap2⟩ (encS_toList x.nm).symm
            have hqd : ¬ q + 1 = q := by omega
            have hqq : ¬ wr.heap.size = q := HQQ.out
            refine wpAnyH_ready (rs := [14]) (by kernel_rfl) (by simp) (AllReadyH.cons rfl (fun K hK => ?_) AllReadyH.nil)
            go_simp
            refine hK.out _ _ ⟨e'.cell (E6.cell d2 fun h => h) (fun e => hqd e), e'.cell (E6.cell y0 fun h => h) (fun e => hqq e), e'.cell (E6.cell y1 fun h => h) (fun e => hqq e)⟩ (fun hHeld => ?_)
            clear hK K
            refine wpAnyH_done (by kernel_rfl) ?_ _
            have hus : ((mntD n (l.take j)).put x.file).used = V := by rw [mnt_put HB.out HX.out, mnt_used HX.out, HV.out, HU.out]
            have hXs := e1.size
            have h5s := S2.1.size
            have hqX : q < X.heap.size := World.ownsMap.lt M1
            have hwf := mnt_wf HB.out HX.out HDZ.out.wf hfew (by rw [← HU.out]; have := HR.out; omega)
            have hLaid := HDZ.out.laid (w' := w') ⟨x.file, w5.heap.size, .slice ao2 x.b.length cap2⟩ (((e1.mono fun k _ e => .inl e).trans E6 fun i _ e => e.elim).trans e' fun i _ e => .inr e) (by rw [hus]; exact (A1.ext E6 fun h => h).ext e' fun e => hqd e) M' ⟨(At.new w5 [.slice ao2 x.b.length cap2, .int .i64 x.b.length] 115).ext e' (fun e => by have e : w5.heap.size = q := e; omega), (O2.ext E5 fun _ _ h => h).ext e' (fun k hk e => by have e : k = q := e; have := (S2.2 k hk).resolve_left fun h => h; omega)⟩ (by
                show (w5.heap.size :: footL (.slice ao2 x.b.length cap2)).Nodup
                rw [List.nodup_cons]
                exact ⟨fun hm => by have := O2.lt _ (mem_footL.1 hm); omega, footL_nodup _⟩) (fun k hk => by
                rcases List.mem_cons.1 hk with rfl | hk
                · show Z.heap.size ≤ w5.heap.size
                  omega
                · have := (S2.2 k (mem_footL.1 hk)).resolve_left fun h => h
                  omega) hwf
            have hZs := HEZ.out.size
            rw [mnt_put HB.out HX.out] at hLaid
            have HLD := Lib.hid hLaid
            have eF : Ext Nil w w' := (eX.same E6).trans e' fun i hi e => by have e : i = q := e; omega
            have HEF := Lib.hid eF
            clear hLaid eF hus hwf e1 A1 M1 M3 M' E5 E6 O2 S2 e' hrun BX eX
            go_wp2_with fail
            refine ⟨⟨j + 1, _, by first | rfl | rw [HJW.out], hjl, HLD.out.1, fun k hk => ?_, HEF.out⟩, by first | exact HDN.out | (rw [HJW.out]; exact HDN.out)⟩
            rcases HLD.out.2.2 k hk with h | h
            · exact HK.out k h
            · omega
        · obtain rfl : j = l.length := by omega
          rw [List.take_length] at hD
          have HD := Lib.hid (Life.of_new hD hK hE)
          have hnot2 : ¬ ((l.length : Nat) : Int) < (l.length : Int) := by omega
          clear hD hK hE
          go_wp2_with fail
          go_ret2
          exact .inr ⟨_, rfl, HD.out⟩
end Go.Proofs.Ytnppneilbkmnfaa
namespace Go.Proofs.Ytnppneilbkmnfaa
open Go.RowKit

def mntSum (l : List FI) : Nat := ((l.map FI.file).map fun f => f.b.length).sum
open Classical in
/-- what Mount answers -/
noncomputable def mountE (lim : Int) (l : List FI) : Int :=
  if ¬ ∀ i < l.length, nameOk l i then 60 else if lim < 1 ∨ 1073741824 < lim then 2 else if 65536 < l.length then 62 else if lim.toNat < mntSum l then 62 else 0
theorem life_wf {w0 w : World} {d : Nat} {D : Dk} (h : Life w0 w d D) : D.Wf := by
  obtain ⟨F, ⟨mb, av, fbs, h, -⟩, -⟩ := h
  exact h.wf
theorem mount_m (w : World) (v : Value) (l : List FI) (h : ImgR w v l) (lim : Int) :
    Calls Try.prog 33 #[.agg #[v], .int .i64 lim] w fun e w' =>
      (mountE lim l ≠ 0 ∧ e = .returned (.tuple #[.pointer none, .int .i64 (mountE lim l)]) ∧ Ext Nil w w') ∨ (mountE lim l = 0 ∧ ∃ d, e = .returned (.tuple #[.pointer (some ⟨d, 0, none⟩), .int .i64 0]) ∧ Life w w' d (mntD lim.toNat l)) := by
  by_cases h1 : ∀ i < l.length, nameOk l i
  · by_cases h2 : lim < 1 ∨ 1073741824 < lim
    · have e1 : mountE lim l = 2 := by unfold mountE; rw [if_neg (by simpa using h1), if_pos h2]
      rw [e1]
      exact (mount_lim_m w v l h lim h1 h2).mono fun e w' hq => .inl ⟨by omega, hq⟩
    · by_cases h3 : 65536 < l.length
      · have e1 : mountE lim l = 62 := by unfold mountE; rw [if_neg (by simpa using h1), if_neg h2, if_pos h3]
        rw [e1]
        exact (mount_many_m w v l h lim h1 (by omega) h3).mono fun e w' hq => .inl ⟨by omega, hq⟩
      · refine (mount_rest_m w v l h lim h1 (by omega) (by omega)).mono fun e w' hq => ?_
        rcases hq with ⟨h4, h5⟩ | ⟨d, h4, h5⟩
        · have e1 : mountE lim l = 62 := by unfold mountE; rw [if_neg (by simpa using h1), if_neg h2, if_neg h3]; exact if_pos h4
          rw [e1]
          exact .inl ⟨by omega, h5⟩
        · have hu : mntSum l ≤ lim.toNat := (life_wf h5).used
          have e1 : mountE lim l = 0 := by unfold mountE; rw [if_neg (by simpa using h1), if_neg h2, if_neg h3, if_neg (by omega)]
          exact .inr ⟨e1, d, h4, h5⟩
  · have e1 : mountE lim l = 60 := by unfold mountE; rw [if_pos h1]
    rw [e1]
    exact (mount_names_m w v l h lim h1).mono fun e w' hq => .inl ⟨by omega, hq⟩
end Go.Proofs.Ytnppneilbkmnfaa
