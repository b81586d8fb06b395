/- Contracts of the disk's small functions: missing, isName, refuses, size, find, New, On, Calls. Conditions: names fit into memory. -/
import Derived.Test.YtnppneilbkmnfaaDp
import Derived.Deep.QuietTactic
import Derived.BigQuiet
import Derived.WalkSpells
import Derived.IntWalk
import Derived.Test.YtnppneilbkmnfaaLent
namespace Go.Proofs.Ytnppneilbkmnfaa
open Go.RowKit

theorem missing_nil (w : World) : Calls Try.prog 56 #[.pointer none] w fun e w' => e = .returned (.bool true) ∧ w = w' := by
  go_enter Try.func56, Try.ntmps56
  go_wp2
  go_ret
  exact ⟨rfl, rfl⟩
theorem missing_at (w : World) (d mb : Nat) (av : Value) (fbs : List FB) (D : Dk) (h : DAt w d mb av fbs D) : Calls Try.prog 56 #[.pointer (some ⟨d, 0, none⟩)] w fun e w' => e = .returned (.bool false) ∧ w = w' := by
  have c2 := h.cells.cell 2 rfl
  have hr := run_eql_map_nil (P := Try.prog) w 54 _ _ (some mb) Try.underlying54
  go_enter Try.func56, Try.ntmps56
  go_wp2
  go_ret
  exact ⟨rfl, rfl⟩

theorem toList_len (s : ByteArray) : s.toList.length = s.size := by
  rw [ByteArray.toList_eq, Array.length_toList]
  rfl
/-- the bytes of a name, one by one -/
def okTo (s : ByteArray) (k : Nat) : Prop := (s.data.toList.take k).all nmByte = true
theorem okTo_succ {s : ByteArray} {k : Nat} (h : okTo s k) (hk : k < s.size) (hb : nmByte s[k] = true) : okTo s (k + 1) := by
  unfold okTo at *
  rw [List.take_succ_eq_append_getElem (by simpa using hk), List.all_append, h]
  simp only [List.all_cons, List.all_nil, Bool.and_true, Bool.true_and]
  exact hb
theorem nmByte_iff (c : UInt8) : nmByte c = true ↔ (97 ≤ (c.toNat : Int) ∧ (c.toNat : Int) ≤ 122) ∨ (48 ≤ (c.toNat : Int) ∧ (c.toNat : Int) ≤ 57) ∨ (c.toNat : Int) = 45 ∨ (c.toNat : Int) = 46 := by
  unfold nmByte
  simp only [Bool.or_eq_true, Bool.and_eq_true, decide_eq_true_eq, beq_iff_eq]
  omega
theorem nmByte_not (c : UInt8) (h : ¬ ((97 ≤ (c.toNat : Int) ∧ (c.toNat : Int) ≤ 122) ∨ (48 ≤ (c.toNat : Int) ∧ (c.toNat : Int) ≤ 57) ∨ (c.toNat : Int) = 45 ∨ (c.toNat : Int) = 46)) : nmByte c = false := by
  cases e : nmByte c with
  | false => rfl
  | true => exact absurd ((nmByte_iff c).1 e) h
theorem nmOk_bad {s : ByteArray} {k : Nat} (hk : k < s.size) (hb : nmByte s[k] = false) : nmOk s.data.toList = false := by
  have : s.data.toList.all nmByte = false := by
    rw [List.all_eq_false]
    exact ⟨s[k], List.getElem_mem (l := s.data.toList) (n := k) (by simpa using hk), by rw [hb]; simp⟩
  unfold nmOk
  rw [this]
  rfl
theorem nmOk_end {s : ByteArray} (h : okTo s s.size) : nmOk s.data.toList = (1 ≤ s.size && s.size ≤ 32) := by
  unfold okTo at h
  have hl : s.data.toList.length = s.size := by rw [Array.length_toList]; rfl
  rw [List.take_of_length_le (by omega)] at h
  unfold nmOk
  rw [h, hl]
  simp

set_option maxRecDepth 100000 in
theorem isName_any (w : World) (s : ByteArray) (hs : s.size ≤ maxLen) : Calls Try.prog 70 #[.string s] w fun e w' => e = .returned (.bool (nmOk s.data.toList)) ∧ w = w' := by
  unfold maxLen at hs
  go_enter Try.func70, Try.ntmps70
  go_wp2_with fail
  go_loop [7] (fun i => ∃ k : Nat, k ≤ s.size ∧ i = .int .i64 k ∧ okTo s k) (fun i => s.size - (intOf i).toNat)
  case atStart => exact ⟨0, Nat.zero_le _, rfl, rfl⟩
  case round =>
    obtain ⟨k, hk, rfl, hok⟩ := hrel
    by_cases hlt : k < s.size
    · have hsucc := Lib.hid fun hb => okTo_succ hok hlt hb
      have hbad := Lib.hid fun hb => nmOk_bad hlt hb
      have hc := (s[k]).toNat_lt
      generalize hcc : s[k] = c at *
      clear hok
      go_wp2
      all_goals simp only [beq_iff_eq, beq_eq_false_iff_ne] at *
      all_goals first
        | exact ⟨⟨k + 1, by omega, by go_num, hsucc.out ((nmByte_iff c).2 (by omega))⟩, by simp [intOf]; omega⟩
        | (go_ret; exact ⟨ret_bool (hbad.out (nmByte_not c (by omega))).symm, rfl⟩)
    · obtain rfl : k = s.size := by omega
      have hend := Lib.hid (nmOk_end hok)
      clear hok
      have hl := toList_len s
      go_wp2
      · have h : s.toList = [] := by assumption
        go_ret
        refine ⟨ret_bool ?_, rfl⟩
        rw [hend.out]
        rw [h] at hl
        have h0 : s.size = 0 := by simpa using hl.symm
        rw [h0]
        rfl
      · have h : ¬ s.toList = [] := by assumption
        go_ret
        refine ⟨ret_bool ?_, rfl⟩
        have h1 : 1 ≤ s.size := by
          rw [← hl]
          exact List.length_pos_iff.2 h
        have h2 : s.toList.isEmpty = false := by simpa using h
        rw [hend.out, h2]
        simp [h1]
        omega

theorem refuses_nil (w : World) (s : ByteArray) : Calls Try.prog 57 #[.pointer none, .string s] w fun e w' => e = .returned (.int .i64 1) ∧ w = w' := by
  go_enter Try.func57, Try.ntmps57
  go_wp2_with (go_at_call 56; refine (missing_nil w).mono ?_; rintro e w' ⟨rfl, rfl⟩)
  go_ret
  exact ⟨rfl, rfl⟩
theorem refuses_at (w : World) (d mb : Nat) (av : Value) (fbs : List FB) (D : Dk) (h : DAt w d mb av fbs D) (s : ByteArray) (hs : s.size ≤ maxLen) : Calls Try.prog 57 #[.pointer (some ⟨d, 0, none⟩), .string s] w fun e w' => e = .returned (.int .i64 (D.refuse s.data.toList)) ∧ w = w' := by
  have c3 := h.cells.cell 3 rfl
  cases ho : D.off
  · cases hn : nmOk s.data.toList
    · have e1 : D.refuse s.data.toList = 60 := by unfold Dk.refuse; rw [ho, hn]; rfl
      rw [e1]
      rw [ho] at c3
      clear e1 ho
      have HN := Lib.hid hn
      clear hn
      go_enter Try.func57, Try.ntmps57
      go_wp2_with (first
        | (go_at_call 56; refine (missing_at w d mb av fbs D h).mono ?_; rintro e w' ⟨rfl, rfl⟩)
        | (go_at_call 70; refine (isName_any w s hs).mono ?_; rintro e w' ⟨rfl, rfl⟩; rw [HN.out]))
      go_ret
      exact ⟨rfl, rfl⟩
    · have e1 : D.refuse s.data.toList = 0 := by unfold Dk.refuse; rw [ho, hn]; rfl
      rw [e1]
      rw [ho] at c3
      clear e1 ho
      have HN := Lib.hid hn
      clear hn
      go_enter Try.func57, Try.ntmps57
      go_wp2_with (first
        | (go_at_call 56; refine (missing_at w d mb av fbs D h).mono ?_; rintro e w' ⟨rfl, rfl⟩)
        | (go_at_call 70; refine (isName_any w s hs).mono ?_; rintro e w' ⟨rfl, rfl⟩; rw [HN.out]))
      go_ret
      exact ⟨rfl, rfl⟩
  · have e1 : D.refuse s.data.toList = 63 := by unfold Dk.refuse; rw [ho]; rfl
    rw [e1]
    rw [ho] at c3
    clear e1 ho
    go_enter Try.func57, Try.ntmps57
    go_wp2_with (first
      | (go_at_call 56; refine (missing_at w d mb av fbs D h).mono ?_; rintro e w' ⟨rfl, rfl⟩))
    go_ret
    exact ⟨rfl, rfl⟩

theorem size_at (w : World) (d mb : Nat) (av : Value) (fbs : List FB) (D : Dk) (h : DAt w d mb av fbs D) (s : ByteArray) (hs : s.size ≤ maxLen) : Calls Try.prog 59 #[.pointer (some ⟨d, 0, none⟩), .string s] w fun e w' => e = .returned (.int .i64 (D.size s.data.toList)) ∧ w = w' := by
  have c2 := h.cells.cell 2 rfl
  have hl := h.map.look s hs
  have hfd := h.find s.data.toList
  unfold fileAt at hl
  unfold Dk.size
  cases hf : findK FB.nm s.data.toList fbs with
  | none =>
    rw [hf] at hl hfd
    rw [hfd]
    clear hfd hf
    go_enter Try.func59, Try.ntmps59
    go_wp2
    go_ret
    exact ⟨rfl, rfl⟩
  | some x =>
    have hx := h.files x (findK_some _ hf).1
    obtain ⟨ao, cap, hv, h1, h2⟩ := hx.2.shape
    unfold maxLen at h2
    have f0 := hx.1.cell 0 rfl
    rw [hv] at f0
    rw [hf] at hl hfd
    rw [hfd]
    clear hfd hf
    go_enter Try.func59, Try.ntmps59
    go_wp2
    go_ret
    exact ⟨rfl, rfl⟩

theorem find_nil (w : World) (s : ByteArray) : Calls Try.prog 69 #[.pointer none, .string s] w fun e w' => e = .returned (.tuple #[.pointer none, .int .i64 1]) ∧ w = w' := by
  go_enter Try.func69, Try.ntmps69
  go_wp2_with (go_at_call 57; refine (refuses_nil w s).mono ?_; rintro e w' ⟨rfl, rfl⟩)
  go_ret2
  exact ⟨rfl, rfl⟩
/-- what find hands out -/
def found (s : Nm) (fbs : List FB) (D : Dk) : Value := if D.seek s = 0 then fileAt s fbs else .pointer none
theorem seek_refused {D : Dk} {s : Nm} (h : D.refuse s ≠ 0) : D.seek s = D.refuse s := if_pos h
theorem seek_none {D : Dk} {s : Nm} (h : D.refuse s = 0) (hf : D.find s = none) : D.seek s = 61 := by
  unfold Dk.seek
  rw [if_neg (by simp [h]), hf]
  rfl
theorem seek_some {D : Dk} {s : Nm} {f : FileM} (h : D.refuse s = 0) (hf : D.find s = some f) : D.seek s = 0 := by
  unfold Dk.seek
  rw [if_neg (by simp [h]), hf]
  rfl
theorem find_at (w : World) (d mb : Nat) (av : Value) (fbs : List FB) (D : Dk) (h : DAt w d mb av fbs D) (s : ByteArray) (hs : s.size ≤ maxLen) : Calls Try.prog 69 #[.pointer (some ⟨d, 0, none⟩), .string s] w fun e w' => e = .returned (.tuple #[found s.data.toList fbs D, .int .i64 (D.seek s.data.toList)]) ∧ w = w' := by
  have c2 := h.cells.cell 2 rfl
  have hl := h.map.look s hs
  have hfd := h.find s.data.toList
  by_cases hr : D.refuse s.data.toList = 0
  · unfold found
    unfold fileAt at *
    cases hf : findK FB.nm s.data.toList fbs with
    | none =>
      rw [hf] at hl hfd
      have e1 := seek_none hr hfd
      rw [e1, if_neg (by omega)]
      have HR := Lib.hid hr
      clear hfd hf hr e1
      go_enter Try.func69, Try.ntmps69
      go_wp2_with (go_at_call 57; refine (refuses_at w d mb av fbs D h s hs).mono ?_; rintro e w' ⟨rfl, rfl⟩; rw [HR.out])
      go_ret2
      exact ⟨rfl, rfl⟩
    | some x =>
      rw [hf] at hl hfd
      have e1 := seek_some hr hfd
      rw [e1, if_pos rfl]
      have HR := Lib.hid hr
      clear hfd hf hr e1
      go_enter Try.func69, Try.ntmps69
      go_wp2_with (go_at_call 57; refine (refuses_at w d mb av fbs D h s hs).mono ?_; rintro e w' ⟨rfl, rfl⟩; rw [HR.out])
      go_ret2
      exact ⟨rfl, rfl⟩
  · have e1 := seek_refused hr
    unfold found
    rw [e1, if_neg hr]
    generalize hR : D.refuse s.data.toList = R at *
    have HRR := Lib.hid hR
    have hne : (R != 0) = true := by rw [bne_iff_ne]; exact hr
    clear hr hR hl hfd e1 c2
    go_enter Try.func69, Try.ntmps69
    go_wp2_with (go_at_call 57; refine (refuses_at w d mb av fbs D h s hs).mono ?_; rintro e w' ⟨rfl, rfl⟩; rw [HRR.out])
    go_ret2
    exact ⟨rfl, rfl⟩

theorem sumF_mem {l : List FileM} {f : FileM} (h : f ∈ l) : f.b.length ≤ sumF l := by
  induction l with
  | nil => cases h
  | cons y r ih =>
    unfold sumF at *
    simp only [List.map_cons, List.sum_cons]
    rcases List.mem_cons.1 h with rfl | h
    · omega
    · have := ih h
      omega
theorem size_le {D : Dk} (h : D.Wf) (s : Nm) : D.size s ≤ 1073741824 := by
  unfold Dk.size
  cases hf : D.find s with
  | none => simp
  | some f =>
    have h1 := sumF_mem (findK_some _ hf).1
    have := h.used
    have := h.lim1
    show f.b.length ≤ _
    omega
theorem DAt.drewN {w : World} {d mb : Nat} {av : Value} {fbs : List FB} {D : Dk} (h : DAt w d mb av fbs D) (n : Nat) : DAt (w.drewN n) d mb av fbs D := h.ext ((Ext.refl Nil w).drewN n) fun _ _ h => h
theorem size_q (w : World) (d mb : Nat) (av : Value) (fbs : List FB) (D : Dk) (h : DAt w d mb av fbs D) (s : ByteArray) (hs : s.size ≤ maxLen) (S : Nat) (hS : Hid (D.size s.data.toList = S)) : Calls Try.prog 59 #[.pointer (some ⟨d, 0, none⟩), .string s] w fun e w' => e = .returned (.int .i64 S) ∧ w' = w :=
  (size_at w d mb av fbs D h s hs).mono fun e w' ⟨h1, h2⟩ => ⟨by rw [h1, hS.out], h2.symm⟩

set_option maxRecDepth 20000 in
theorem holds_at (w : World) (d mb : Nat) (av : Value) (fbs : List FB) (D : Dk) (h : DAt w d mb av fbs D) (s : ByteArray) (hs : s.size ≤ maxLen) (n : Nat) (_hn : n ≤ 1099511627776) :
    Calls Try.prog 58 #[.pointer (some ⟨d, 0, none⟩), .string s, .int .i64 n] w fun e w' => e = .returned (.bool (D.room s.data.toList n)) ∧ ∃ q, w' = w.drewN q := by
  have c0 := h.cells.cell 0 rfl
  have c1 := h.cells.cell 1 rfl
  have c2 := h.cells.cell 2 rfl
  have hw := h.wf.used
  have hl1 := h.wf.lim1
  have hsz : D.size s.data.toList ≤ 1073741824 := size_le h.wf _
  have hfd := h.find s.data.toList
  have hL : ∀ q, (Instr.lookup 54 (.map (some mb)) (.string s) false).run Try.prog (w.drewN q) = .ok (fileAt s.data.toList fbs) (w.drewN q) := fun q => MapAt.look (h.map.ext ((Ext.refl Nil w).drewN q) fun h => h) s hs
  have hN : ∀ q ty, (Builtin.len_ #[54] ty #[.map (some mb)]).run Try.prog (w.drewN q) = .ok (.int .i64 fbs.length) (w.drewN q) := fun q ty => MapAt.len (h.map.ext ((Ext.refl Nil w).drewN q) fun h => h) ty
  rw [h.count] at hN
  have hc := h.wf.count
  have hu : D.used ≤ D.lim := hw
  have hroom : D.room s.data.toList n = (decide (D.used + n ≤ D.lim + D.size s.data.toList) && ((D.find s.data.toList).isSome || decide (D.fs.length < 65536))) := rfl
  generalize D.room s.data.toList n = R at *
  generalize hS : D.size s.data.toList = S at *
  have HS := Lib.hid hS
  generalize D.used = U at *
  generalize D.lim = L at *
  have HR := Lib.hid hroom
  have HF := Lib.hid hfd
  have HN := Lib.hid hN
  have HL := Lib.hid hL
  clear hroom hfd hN hL hS
  have w1 : IntKind.i64.wrap ((L : Int) - U) = (L : Int) - U := IntWalk.i64_in _ (by omega)
  have w2 : IntKind.i64.wrap ((L : Int) - U + S) = (L : Int) - U + S := IntWalk.i64_in _ (by omega)
  go_enter Try.func58, Try.ntmps58
  go_wp2_with fail
  go_quiet ((go_at_call 59; exact Calls.quiet_of_same (size_q _ d mb av fbs D (h.drewN _) s hs S HS)))
  clear w1 w2
  by_cases h1 : n ≤ L - U + S
  · have h1i : (n : Int) ≤ (L : Int) - U + S := by omega
    have hl := HL.out nq
    unfold fileAt at hl
    cases hf : findK FB.nm s.data.toList fbs with
    | some x =>
      have hF := HF.out
      rw [hf] at hl hF
      have hR := HR.out
      rw [hF] at hR
      have hR2 : R = true := by rw [hR]; simp; omega
      clear hF hR hf
      subst hR2
      go_wp2
      go_ret
      exact ⟨rfl, nq, rfl⟩
    | none =>
      have hF := HF.out
      rw [hf] at hl hF
      have hR := HR.out
      rw [hF] at hR
      have hn2 := HN.out nq
      by_cases h2 : D.fs.length < 65536
      · have h2i : (D.fs.length : Int) < 65536 := by omega
        have hR2 : R = true := by rw [hR]; simp; omega
        clear hF hR hf
        subst hR2
        go_wp2
        go_ret
        exact ⟨rfl, nq, rfl⟩
      · have h2i : ¬ (D.fs.length : Int) < 65536 := by omega
        have hR2 : R = false := by rw [hR]; simp [h2]
        clear hF hR hf
        subst hR2
        go_wp2
        go_ret
        exact ⟨rfl, nq, rfl⟩
  · have h1i : ¬ (n : Int) ≤ (L : Int) - U + S := by omega
    have hR2 : R = false := by
      rw [HR.out]
      have : ¬ U + n ≤ L + S := by omega
      simp [this]
    subst hR2
    go_wp2
    go_ret
    exact ⟨rfl, nq, rfl⟩

theorem new_bad (w : World) (n : Int) (h : n < 1 ∨ 1073741824 < n) : Calls Try.prog 17 #[.int .i64 n] w fun e w' => e = .returned (.tuple #[.pointer none, .int .i64 2]) ∧ w = w' := by
  by_cases h1 : n < 1
  · go_enter Try.func17, Try.ntmps17
    go_wp2
    go_ret2
    exact ⟨rfl, rfl⟩
  · have h2 : 1073741824 < n := by omega
    go_enter Try.func17, Try.ntmps17
    go_wp2
    go_ret2
    exact ⟨rfl, rfl⟩
def Dk.fresh (n : Nat) : Dk := ⟨n, [], false, false, 0, []⟩
theorem Dk.fresh_wf {n : Nat} (h0 : 1 ≤ n) (h1 : n ≤ 1073741824) : (Dk.fresh n).Wf where
  rises := List.Pairwise.nil
  lim0 := h0
  lim1 := h1
  used := Nat.zero_le _
  synced := by intro f hf; cases hf
  names := by intro f hf; cases hf
  count := by simp [Dk.fresh]
  kinds := by intro a ha; cases ha
  outOff := by intro h; cases h
theorem new_at (w : World) (n : Nat) (h0 : 1 ≤ n) (h1 : n ≤ 1073741824) : Calls Try.prog 17 #[.int .i64 n] w fun e w' => e = .returned (.tuple #[.pointer (some ⟨w.heap.size + 1, 0, none⟩), .int .i64 0]) ∧ DAt w' (w.heap.size + 1) w.heap.size (.slice none 0 0) [] (Dk.fresh n) ∧ Ext Nil w w' := by
  have g0 : ¬ (n : Int) < 1 := by omega
  have g1 : ¬ 1073741824 < (n : Int) := by omega
  have hmm := @run_makeMap Try.prog
  go_enter Try.func17, Try.ntmps17
  go_wp2
  go_ret2
  have hm := World.ownsMap_made w Try.prog 9 ptrElem
  have hD := At.new (w.alloc (.map #[] 0)) [.int .i64 n, .int .i64 0, .map (some w.heap.size), .bool false, .bool false, .int .i64 0, .slice none 0 0] 57
  have hsz : (w.alloc (.map #[] 0)).heap.size = w.heap.size + 1 := by simp
  rw [hsz] at hD
  refine ⟨rfl, ⟨hD, World.ownsMap.alloc hm _, Own.nil _ _ _, (by intro x hx; cases hx), rfl, ?_, Dk.fresh_wf h0 h1⟩, ((Ext.refl _ _).alloc _).alloc _⟩
  simp [dbl, footL, foot]

theorem on_nil (w : World) : Calls Try.prog 21 #[.pointer none] w fun e w' => e = .returned (.bool false) ∧ w = w' := by
  go_enter Try.func21, Try.ntmps21
  go_wp2_with (go_at_call 56; refine (missing_nil w).mono ?_; rintro e w' ⟨rfl, rfl⟩)
  go_ret
  exact ⟨rfl, rfl⟩
theorem on_at (w : World) (d mb : Nat) (av : Value) (fbs : List FB) (D : Dk) (h : DAt w d mb av fbs D) : Calls Try.prog 21 #[.pointer (some ⟨d, 0, none⟩)] w fun e w' => e = .returned (.bool (!D.off)) ∧ w = w' := by
  have c3 := h.cells.cell 3 rfl
  go_enter Try.func21, Try.ntmps21
  go_wp2_with (go_at_call 56; refine (missing_at w d mb av fbs D h).mono ?_; rintro e w' ⟨rfl, rfl⟩)
  go_ret
  exact ⟨rfl, rfl⟩
theorem calls_nil (w : World) : Calls Try.prog 22 #[.pointer none] w fun e w' => e = .returned (.int .i64 0) ∧ w = w' := by
  go_enter Try.func22, Try.ntmps22
  go_wp2_with (go_at_call 56; refine (missing_nil w).mono ?_; rintro e w' ⟨rfl, rfl⟩)
  go_ret
  exact ⟨rfl, rfl⟩
theorem calls_at (w : World) (d mb : Nat) (av : Value) (fbs : List FB) (D : Dk) (h : DAt w d mb av fbs D) : Calls Try.prog 22 #[.pointer (some ⟨d, 0, none⟩)] w fun e w' => e = .returned (.int .i64 D.calls) ∧ w = w' := by
  have c5 := h.cells.cell 5 rfl
  go_enter Try.func22, Try.ntmps22
  go_wp2_with (go_at_call 56; refine (missing_at w d mb av fbs D h).mono ?_; rintro e w' ⟨rfl, rfl⟩)
  go_ret
  exact ⟨rfl, rfl⟩
end Go.Proofs.Ytnppneilbkmnfaa
