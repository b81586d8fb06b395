/- Contracts of assentref01's functions that lay values down. Condition: what is laid down fits into memory. -/
import Derived.Test.YtdgagpoeefbdjaaOut
namespace Go.Proofs.Ytdgagpoeefbdjaa
open Go.RowKit

/-- The end of a call that hands out bytes in memory of their own. -/
def Gives (w : World) (bs : List UInt8) (e : Ending) (w' : World) : Prop :=
  ∃ ao cap, bs.length ≤ cap ∧ cap ≤ maxLen ∧ e = .returned (.slice ao bs.length cap) ∧ OwnB w' (.slice ao bs.length cap) bs ∧ Step Nil w (inFoot (.slice ao bs.length cap)) w'

theorem OwnB.alloc {w : World} {v : Value} {l : List UInt8} (h : OwnB w v l) (o : Obj) : OwnB (w.alloc o) v l := Own.alloc h o
theorem Step.nilNil {v : Value} (w : World) (h : foot v = none) : Step Nil w (inFoot v) w := ⟨Ext.refl _ _, fun k hk => by simp [inFoot, h] at hk⟩
theorem Step.weak {F G F' : Nat → Prop} {w w' : World} (h : Step F w F' w') (hf : ∀ k, F k → G k) : Step G w F' w' := ⟨h.1.mono fun k _ hk => hf k hk, fun k hk => (h.2 k hk).imp (hf k) id⟩
/-- a row grown behind new blocks -/
theorem Step.grown {F : Nat → Prop} {w wr w1 : World} {v v' : Value} {o : Obj} (h : Step F w (inFoot v) wr) (k : Step (inFoot v) (wr.alloc o) (inFoot v') w1) : Step F w (inFoot v') w1 := h.trans ((step_alloc _ _ _).trans k)

theorem wrap_u64 {n : Nat} (h : IsU64 n) : IntKind.u64.wrap (n : Int) = n := by
  unfold IsU64 at h
  simp only [IntKind.wrap, IntKind.signed, IntKind.bits]
  simp
  omega

theorem step_any_nil {F : Nat → Prop} {w w' : World} (h : Ext Nil w w') : Step F w F w' := ⟨h.mono fun _ _ h => h.elim, fun _ h => .inl h⟩

set_option maxRecDepth 20000 in
theorem refVar_any (w : World) (n : Nat) (hn : IsU64 n) : Calls Try.prog 108 #[.int .u64 n] w (Gives w (varB n)) := by
  go_enter Try.func108, Try.ntmps108
  go_wp2_with fail
  go_loopw [0, 3] (fun x y wr => ∃ (z : Nat) (done : List UInt8) (ao : Option Addr) (cap : Nat), IsU64 z ∧ x = .int .u64 z ∧ y = .slice ao done.length cap ∧ OwnB wr (.slice ao done.length cap) done ∧ Step Nil w (inFoot (.slice ao done.length cap)) wr ∧ done ++ varB z = varB n) (fun x _ _ => (intOf x).toNat)
  case atStart => exact ⟨n, [], none, 0, hn, rfl, rfl, Own.nil _ _ _, Step.nilNil _ rfl, rfl⟩
  case round =>
    obtain ⟨z, done, ao, cap, hz, rfl, rfl, hown, hS, hE⟩ := hrel
    have HE := Lib.hid hE
    clear hE
    have hlen : done.length + (varB z).length ≤ 10 := by rw [← List.length_append, HE.out]; exact varB_length hn
    have hpos := varB_pos z
    have hf1 : Fits (done.length + 1) := by unfold Fits; omega
    by_cases hge : 128 ≤ z
    · have hsrc := Reads.src (P := Try.prog) (Bytes.one wr (n := ((z % 128 + 128 : Nat) : Int)) (by omega) (by omega) 5) Try.underlying29 (bvs_one _)
      have e1 : (((z % 128 + 128 : Nat) : Int)) = (z : Int) % 128 + 128 := by omega
      rw [e1] at hsrc
      clear e1
      go_wp2_with (at_builtin; refine wpList_append_bytes (hown.alloc _) hsrc hf1 rfl _ _ rfl rfl rfl ?_; intro ao2 cap2 w2 hc1 hc2 hown2 hst)
      have e2 : IntKind.u64.wrap ((z : Int) / 128) = ((z / 128 : Nat) : Int) := wrap_u64 (n := z / 128) (by unfold IsU64 at *; omega)
      have e3 : toB ((z : Int) % 128 + 128) = UInt8.ofNat (z % 128 + 128) := by unfold toB; congr 1
      rw [e2]
      refine ⟨⟨z / 128, done ++ [UInt8.ofNat (z % 128 + 128)], ao2, cap2, by unfold IsU64 at *; omega, rfl, ?_, ?_, ?_, ?_⟩, by simp [intOf]; omega⟩
      · simp
      · rw [e3] at hown2; simpa using hown2
      · simpa using hS.grown hst
      · rw [← HE.out, varB_ge hge]; simp
    · have hsrc := Reads.src (P := Try.prog) (Bytes.one wr (n := (z : Int)) (by omega) (by omega) 5) Try.underlying29 (bvs_one _)
      go_wp2_with (at_builtin; refine wpList_append_bytes (hown.alloc _) hsrc hf1 rfl _ _ rfl rfl rfl ?_; intro ao2 cap2 w2 hc1 hc2 hown2 hst)
      go_ret
      have e3 : toB (z : Int) = UInt8.ofNat z := by unfold toB; simp
      have e4 : done ++ [toB (z : Int)] = varB n := by rw [e3, ← varB_lt (by omega), HE.out]
      have e5 : done.length + [toB (z : Int)].length = (varB n).length := by rw [← e4]; simp
      rw [e4, e5] at hown2
      rw [e5] at hst hc1
      refine ⟨ao2, cap2, hc1, hc2, ?_, hown2, hS.grown hst⟩
      simpa using e5

set_option maxRecDepth 20000 in
theorem refFixed_any (w : World) (x : Nat) (hx : IsU64 x) (n : Nat) (hn : n ≤ 8) : Calls Try.prog 173 #[.int .u64 x, .int .i64 n] w (Gives w (le n x)) := by
  go_enter Try.func173, Try.ntmps173
  go_wp2_with fail
  go_loopw [0, 5, 6] (fun y b i wr => ∃ (k : Nat) (ao : Option Addr) (cap : Nat), k ≤ n ∧ y = .int .u64 (x / 256 ^ k : Nat) ∧ b = .slice ao k cap ∧ k ≤ cap ∧ cap ≤ maxLen ∧ i = .int .i64 k ∧ OwnB wr (.slice ao k cap) (le k x) ∧ Step Nil w (inFoot (.slice ao k cap)) wr) (fun _ _ i _ => n - (intOf i).toNat)
  case atStart => exact ⟨0, none, 0, Nat.zero_le _, by simp, rfl, Nat.le_refl _, by simp [maxLen], rfl, Own.nil _ _ _, Step.nilNil _ rfl⟩
  case round =>
    obtain ⟨k, ao, cap, hk, rfl, rfl, hc1, hc2, rfl, hown, hS⟩ := hrel
    have hf1 : Fits ((le k x).length + 1) := by rw [le_length]; unfold Fits; omega
    by_cases hlt : k < n
    · have hsrc := Reads.src (P := Try.prog) (Bytes.one wr (n := ((x / 256 ^ k % 256 : Nat) : Int)) (by omega) (by omega) 5) Try.underlying29 (bvs_one _)
      have e1 : ((x / 256 ^ k % 256 : Nat) : Int) = ((x / 256 ^ k : Nat) : Int) % 256 := by omega
      have e2 : toB ((x / 256 ^ k % 256 : Nat) : Int) = UInt8.ofNat (x / 256 ^ k % 256) := by unfold toB; rw [Int.toNat_natCast]
      have e3 : IntKind.u64.wrap (((x / 256 ^ k : Nat) : Int) / 256) = ((x / 256 ^ k / 256 : Nat) : Int) := wrap_u64 (n := x / 256 ^ k / 256) (by
        have h1 : x / 256 ^ k ≤ x := Nat.div_le_self _ _
        unfold IsU64 at *; omega)
      have e4 : x / 256 ^ k / 256 = x / 256 ^ (k + 1) := by rw [Nat.div_div_eq_div_mul, Nat.pow_succ]
      have E2 := Lib.hid e2
      have E3 := Lib.hid e3
      have E4 := Lib.hid e4
      rw [e1] at hsrc
      clear e1 e2 e3 e4
      generalize hq : x / 256 ^ k = q at *
      have HQ := Lib.hid hq
      clear hq
      go_wp2_with (at_builtin; refine wpList_append_bytes (hown.alloc _) hsrc hf1 rfl _ _ rfl rfl rfl ?_; intro ao2 cap2 w2 hd1 hd2 hown2 hst)
      have e5 : toB ((q : Int) % 256) = UInt8.ofNat (q % 256) := by rw [← E2.out]; congr 1
      rw [le_length] at hd1 hown2 hst
      simp only [List.length_cons, List.length_nil, Nat.zero_add] at hd1 hown2 hst
      refine ⟨⟨k + 1, ao2, cap2, by omega, by rw [E3.out, E4.out], by rw [le_length], hd1, hd2, by go_num, ?_, ?_⟩, by simp [intOf]; omega⟩
      · rw [le_succ, HQ.out, ← e5]; exact hown2
      · exact hS.grown hst
    · go_wp2_with fail
      go_ret
      obtain rfl : k = n := by omega
      refine ⟨ao, cap, ?_, hc2, ?_, ?_, ?_⟩ <;> simp only [le_length] <;> first | assumption | rfl

theorem refU32_any (w : World) (x : Nat) (hx : x < 4294967296) : Calls Try.prog 106 #[.int .u32 x] w (Gives w (le 4 x)) := by
  go_enter Try.func106, Try.ntmps106
  go_wp2_with fail
  refine (refFixed_any w x (by unfold IsU64; omega) 4 (by omega)).mono ?_
  rintro e w1 ⟨ao, cap, h1, h2, rfl, h3, h4⟩
  go_wp2_with fail
  go_ret
  exact ⟨ao, cap, h1, h2, rfl, h3, h4⟩
theorem refU64_any (w : World) (x : Nat) (hx : IsU64 x) : Calls Try.prog 107 #[.int .u64 x] w (Gives w (le 8 x)) := by
  go_enter Try.func107, Try.ntmps107
  go_wp2_with fail
  refine (refFixed_any w x hx 8 (by omega)).mono ?_
  rintro e w1 ⟨ao, cap, h1, h2, rfl, h3, h4⟩
  go_wp2_with fail
  go_ret
  exact ⟨ao, cap, h1, h2, rfl, h3, h4⟩

/-- the slice that a literal of one byte lays, as one's own -/
theorem OwnB.one (w : World) {n : Int} (h0 : 0 ≤ n) (h1 : n < 256) : OwnB (w.alloc (.cells #[.int .u8 n] 5 (0, 0))) (.slice (some ⟨w.heap.size, 0, none⟩) 1 1) [toB n] := by
  refine ⟨rfl, .inr ⟨w.heap.size, 0, [.int .u8 n], rfl, At.new w _ _, Nat.le_refl _, by simp [maxLen], rfl, ?_⟩⟩
  simp [bvs, bv_toB h0 h1]
theorem Step.fresh (w : World) (o : Obj) (n c : Nat) : Step Nil w (inFoot (.slice (some ⟨w.heap.size, 0, none⟩) n c)) (w.alloc o) := by
  refine ⟨(Ext.refl _ _).alloc o, fun k hk => .inr ?_⟩
  cases c <;> simp [inFoot, foot] at hk
  omega

theorem refBool_any (w : World) (b : Bool) : Calls Try.prog 105 #[.bool b] w (Gives w [if b then 1 else 0]) := by
  cases b
  · go_enter Try.func105, Try.ntmps105
    go_wp2
    go_ret
    exact ⟨_, _, Nat.le_refl 1, by simp [maxLen], rfl, OwnB.one w (Int.le_refl 0) (by omega), Step.fresh _ _ _ _⟩
  · go_enter Try.func105, Try.ntmps105
    go_wp2
    go_ret
    exact ⟨_, _, Nat.le_refl 1, by simp [maxLen], rfl, OwnB.one w (n := 1) (by omega) (by omega), Step.fresh _ _ _ _⟩

theorem refBytes_any (w : World) (x : Value) (ys : List UInt8) (hx : Bytes w x ys) (hfit : Fits (ys.length + 10)) : Calls Try.prog 109 #[x] w (Gives w (varB ys.length ++ ys)) := by
  have hfit' : ys.length + 10 ≤ 1099511627776 := hfit
  have hlen := varB_length (n := ys.length) (by unfold IsU64; omega)
  obtain ⟨ao, cap, rfl, hcap, hmax, -⟩ := hx.open
  go_enter Try.func109, Try.ntmps109
  go_wp2_with fail
  refine (refVar_any w ys.length (by unfold IsU64; omega)).mono ?_
  rintro e w1 ⟨ao1, cap1, h1, h2, rfl, h3, h4⟩
  have hsrc := Reads.src (P := Try.prog) (hx.ext h4.1 fun _ _ h => h) Try.underlying29 (bvs_one ys)
  go_wp2_with (at_builtin; refine wpList_append_bytes h3 hsrc (by unfold Fits; omega) rfl _ _ rfl rfl rfl ?_; intro ao2 cap2 w2 hd1 hd2 hown2 hst)
  go_ret
  rw [← List.length_append] at hd1 hown2 hst
  exact ⟨ao2, cap2, hd1, hd2, by rw [List.length_append]; rfl, hown2, h4.trans hst⟩

/-- what '[]byte(s)' makes -/
def strWorld (w : World) (s : ByteArray) : World :=
  w.drew.alloc (.cells (bytesRow s (grownCap w s.size 0 5)) 5 ((bytesRow s (grownCap w s.size 0 5)).size, (bytesRow s (grownCap w s.size 0 5)).size + 1))
theorem strLen (s : ByteArray) : s.data.toList.length = s.size := by rw [Array.length_toList]; rfl
theorem run_str (w : World) (s : ByteArray) : (convert 9 29 (.string s)).run Try.prog w = .ok (.slice (some ⟨w.heap.size, 0, none⟩) s.size (grownCap w s.size 0 5)) (strWorld w s) :=
  run_bytes_of_string (P := Try.prog) w 9 29 5 s Try.underlying9 Try.underlying29 Try.underlying5
theorem bytesRow_list (s : ByteArray) (cap : Nat) : (bytesRow s cap).toList = bvs s.data.toList ++ List.replicate (cap - s.size) (.int .u8 0) := by
  simp [bytesRow, bvs, bv]
theorem OwnB.ofString (w : World) (s : ByteArray) (hm : s.size ≤ maxLen) : OwnB (strWorld w s) (.slice (some ⟨w.heap.size, 0, none⟩) s.data.toList.length (grownCap w s.size 0 5)) s.data.toList := by
  have hge := grownCap_ge w s.size 0 5
  have hle := grownCap_le_maxLen w s.size 0 5 hm
  have hsl := strLen s
  refine ⟨by simp [bvs], ?_⟩
  unfold strWorld
  generalize hc : grownCap w s.size 0 5 = c at *
  cases c with
  | zero => exact .inl ⟨_, by congr 1; omega, by omega⟩
  | succ c =>
    refine .inr ⟨w.heap.size, c, (bytesRow s (c + 1)).toList, rfl, ⟨(bytesRow s (c + 1)).size, (bytesRow s (c + 1)).size + 1, ?_, .inl (by simp)⟩, by omega, hle, ?_, ?_⟩
    · show (w.heap.push _)[_]? = _
      simp
    · rw [bytesRow_list]
      simp [bvs]
      omega
    · rw [bytesRow_list, hsl, Nat.mul_one]
      rw [show s.size = (bvs s.data.toList).length from by simp [bvs]]
      exact List.take_left
theorem Step.ofString (w : World) (s : ByteArray) (n : Nat) : Step Nil w (inFoot (.slice (some ⟨w.heap.size, 0, none⟩) n (grownCap w s.size 0 5))) (strWorld w s) := by
  refine ⟨(Ext.refl _ _).drew.alloc _, fun k hk => .inr ?_⟩
  generalize grownCap w s.size 0 5 = c at hk
  cases c <;> simp [inFoot, foot] at hk
  omega

theorem refText_any (w : World) (s : ByteArray) (hfit : Fits (s.size + 10)) : Calls Try.prog 110 #[.string s] w (Gives w (varB s.size ++ s.data.toList)) := by
  have hfit' : s.size + 10 ≤ 1099511627776 := hfit
  have hlen := varB_length (n := s.size) (by unfold IsU64; omega)
  have HL := Lib.hid (strLen s)
  go_enter Try.func110, Try.ntmps110
  go_wp2_with fail
  refine (refVar_any w s.size (by unfold IsU64; omega)).mono ?_
  rintro e w1 ⟨ao1, cap1, h1, h2, rfl, h3, h4⟩
  have hr := run_str w1 s
  have hown := OwnB.ofString w1 s (by unfold maxLen; omega)
  have hst1 := Step.ofString w1 s s.data.toList.length
  have hsrc := Reads.src (P := Try.prog) hown.bytes Try.underlying29 (bvs_one _)
  rw [HL.out] at hsrc
  have h3' : OwnB (strWorld w1 s) (.slice ao1 (varB s.size).length cap1) (varB s.size) := h3.ext hst1.1 fun _ _ h => h
  go_wp2_with (at_builtin; refine wpList_append_bytes h3' (m := s.data.toList) (by rw [HL.out]; exact hsrc) (by rw [HL.out]; unfold Fits; omega) rfl _ _ rfl rfl rfl ?_; intro ao2 cap2 w2 hd1 hd2 hown2 hst)
  go_ret
  rw [← List.length_append] at hd1 hown2 hst
  exact ⟨ao2, cap2, hd1, hd2, by rw [List.length_append]; rfl, hown2, h4.trans ((step_any_nil hst1.1).trans hst)⟩

/-! ### assentref01.Writer -/

structure RWAt (w : World) (p : Nat) (v : Value) (bs : List UInt8) (err : Int) : Prop where
  cells : At w p 31 [v, .int .i64 err]
  own : OwnB w v bs
  apart : ¬ inFoot v p

theorem RWAt.ext {F : Nat → Prop} {w w' : World} {p : Nat} {v : Value} {bs : List UInt8} {err : Int} (h : RWAt w p v bs err) (e : Ext F w w') (hf : ∀ k, PF p v k → ¬ F k) : RWAt w' p v bs err :=
  ⟨h.cells.ext e (hf p (.inl rfl)), h.own.ext e fun k hk => hf k (.inr hk), h.apart⟩
theorem RWAt.lt {w : World} {p : Nat} {v : Value} {bs : List UInt8} {err : Int} (h : RWAt w p v bs err) : ∀ k, PF p v k → k < w.heap.size := by
  intro k hk
  rcases hk with rfl | hk
  · exact h.cells.lt
  · exact h.own.lt k hk

def RWrote (w : World) (p : Nat) (v : Value) (bs' : List UInt8) (err' : Int) (e : Ending) (w' : World) : Prop :=
  e = .returned (.tuple #[]) ∧ ∃ v', RWAt w' p v' bs' err' ∧ Step (PF p v) w (PF p v') w'

theorem refPut_any (w : World) (p : Nat) (v : Value) (bs : List UInt8) (err : Int) (h : RWAt w p v bs err) (x : Value) (ys : List UInt8) (hx : Bytes w x ys) (hfit : Fits (bs.length + ys.length)) :
    Calls Try.prog 104 #[.pointer (some ⟨p, 0, none⟩), x] w (RWrote w p v (app err bs ys) err) := by
  have hsrc := Reads.src (P := Try.prog) hx Try.underlying29 (bvs_one ys)
  have c0 := h.cells.cell 0 rfl
  have c1 := h.cells.cell 1 rfl
  by_cases he : err = 0
  · subst he
    go_enter Try.func104, Try.ntmps104
    go_wp2_with (at_builtin; refine wpList_append_bytes h.own hsrc hfit rfl _ _ rfl rfl rfl ?_; intro ao cap w1 _ _ hown hst; have hA := h.cells.ext hst.1 h.apart; have d1 := hA.cell 0 rfl; have f1 := hA.frozen 0)
    go_end0
    obtain ⟨h1, h2, h3, h4⟩ := stored 0 h.cells h.apart hown hst
    exact ⟨rfl, _, ⟨h1, by simpa [app] using h2, h3⟩, h4⟩
  · have hb : (err == 0) = false := by rw [beq_eq_false_iff_ne]; exact he
    have happ : app err bs ys = bs := if_neg he
    rw [happ]
    clear happ hsrc
    have HE := Lib.hid he
    clear he
    go_enter Try.func104, Try.ntmps104
    go_wp2
    go_end0
    exact ⟨rfl, v, h, Step.refl _ _⟩

theorem refCount_any (w : World) (p : Nat) (v : Value) (bs : List UInt8) (err : Int) (h : RWAt w p v bs err) (n : Int) (hn : n ≤ 9223372036854775807) (hfit : Fits (bs.length + 10)) :
    Calls Try.prog 111 #[.pointer (some ⟨p, 0, none⟩), .int .i64 n] w (RWrote w p v (cntB err bs n) (cntE err n)) := by
  have c1 := h.cells.cell 1 rfl
  have f1 := h.cells.frozen 1
  by_cases he : err = 0
  · subst he
    by_cases hneg : n < 0
    · have e1 : cntB 0 bs n = bs := if_pos hneg
      have e2 : cntE 0 n = 2 := if_pos ⟨rfl, hneg⟩
      rw [e1, e2]
      clear e1 e2
      go_enter Try.func111, Try.ntmps111
      go_wp2
      refine bodyPost_ret (results_none rfl _ _ _) rfl ?_
      refine ⟨rfl, v, ⟨h.cells.set 1 (.int .i64 2), h.own.ext (F := One p) ((Ext.refl (One p) _).setCell (p := ⟨p, 1, none⟩) (fun _ => (rfl : p = p)) _) ?_, h.apart⟩, ?_, fun _ hk => .inl hk⟩
      · intro k hk e
        have e : k = p := e
        subst e
        exact h.apart hk
      · exact (Ext.refl (PF p v) _).setCell (p := ⟨p, 1, none⟩) (fun _ => .inl rfl) _
    · obtain ⟨m, rfl⟩ := Int.eq_ofNat_of_zero_le (show 0 ≤ n by omega)
      have e1 : cntB 0 bs m = app 0 bs (varB m) := by unfold cntB; rw [if_neg hneg]; rfl
      have e2 : cntE 0 m = 0 := if_neg fun h => hneg h.2
      rw [e1, e2]
      clear e1 e2
      go_enter Try.func111, Try.ntmps111
      go_wp2_with fail
      refine (refVar_any w m (by unfold IsU64; omega)).mono ?_
      rintro e w1 ⟨ao1, cap1, h1, h2, rfl, h3, h4⟩
      have hlen := varB_length (n := m) (by unfold IsU64; omega)
      have hfit' : bs.length + 10 ≤ 1099511627776 := hfit
      go_wp2_with fail
      refine (refPut_any w1 p v bs 0 (h.ext h4.1 fun _ _ h => h) _ _ h3.bytes (by unfold Fits; omega)).mono ?_
      rintro e w2 ⟨rfl, v2, g1, g2⟩
      go_wp2_with fail
      go_end0
      exact ⟨rfl, v2, g1, (step_any_nil h4.1).trans g2⟩
  · have hb : (err != 0) = true := by rw [bne_iff_ne]; exact he
    have e1 : cntB err bs n = bs := by unfold cntB app; rw [if_neg he]; split <;> rfl
    have e2 : cntE err n = err := if_neg fun h => he h.1
    rw [e1, e2]
    clear e1 e2
    have HE := Lib.hid he
    clear he
    go_enter Try.func111, Try.ntmps111
    go_wp2
    refine bodyPost_ret (results_none rfl _ _ _) rfl ?_
    exact ⟨rfl, v, h, Step.refl _ _⟩

theorem refOut_any (w : World) (p : Nat) (v : Value) (bs : List UInt8) (h : RWAt w p v bs 0) (hfit : Fits bs.length) :
    Calls Try.prog 112 #[.pointer (some ⟨p, 0, none⟩)] w fun e w' => ∃ ao cap, bs.length ≤ cap ∧ cap ≤ maxLen ∧ e = .returned (.tuple #[.slice ao bs.length cap, .int .i64 0]) ∧ OwnB w' (.slice ao bs.length cap) bs ∧ Step Nil w (inFoot (.slice ao bs.length cap)) w' := by
  have h' : RWAt (w.alloc (.cells #[] 5 (0, 0))) p v bs 0 := h.ext (F := Nil) ((Ext.refl _ _).alloc _) fun _ _ h => h
  have c0 := h.cells.cell 0 rfl
  have c1 := h.cells.cell 1 rfl
  have d0 := h'.cells.cell 0 rfl
  have hsrc := Reads.src (P := Try.prog) h'.own.bytes Try.underlying29 (bvs_one _)
  go_enter Try.func112, Try.ntmps112
  go_wp2_with (at_builtin; refine wpList_append_fresh hsrc hfit rfl _ _ rfl rfl rfl ?_; intro ao2 cap2 w2 hc1 hc2 hown hst)
  go_ret2
  exact ⟨ao2, cap2, hc1, hc2, rfl, hown, (step_alloc _ _ _).trans hst⟩

theorem refOut_err (w : World) (p : Nat) (v : Value) (bs : List UInt8) (err : Int) (he : err ≠ 0) (h : RWAt w p v bs err) :
    Calls Try.prog 112 #[.pointer (some ⟨p, 0, none⟩)] w fun e w' => e = .returned (.tuple #[.slice none 0 0, .int .i64 err]) ∧ ∃ n, w' = w.drewN n := by
  have c0 := h.cells.cell 0 rfl
  have c1 := h.cells.cell 1 rfl
  have hb : (err != 0) = true := by rw [bne_iff_ne]; exact he
  have HE := Lib.hid he
  clear he
  go_enter Try.func112, Try.ntmps112
  go_wp2
  go_quiet (fail)
  go_wp2
  go_ret2
  exact ⟨rfl, _, rfl⟩
end Go.Proofs.Ytdgagpoeefbdjaa
