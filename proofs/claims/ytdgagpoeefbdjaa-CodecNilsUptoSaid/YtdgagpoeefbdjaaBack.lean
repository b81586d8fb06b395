/- The call of the law CodecBack. Conditions: the values can be read; their bytes fit into memory. -/
import Derived.Test.YtdgagpoeefbdjaaAsked67
namespace Go.Proofs.Ytdgagpoeefbdjaa
open Go.RowKit

theorem valX_bts {w : World} {x : Value} {B : List UInt8} (K : Int) (h : Bytes w x B) : Bytes w (valX K x) (valB K B) := by
  unfold valX valB
  split
  · exact h
  · exact Bytes.nil w
theorem valX_foot {K : Int} {x : Value} {k : Nat} (h : inFoot (valX K x) k) : inFoot x k := by
  unfold valX at h
  split at h
  · exact h
  · simp [inFoot, foot] at h
theorem allB_drop (l : List PutD) (k : Nat) (hk : k < l.length) (hm : l[k].may = true) : (allB l).drop (allB (l.take k)).length = l[k].enc ++ allB (l.drop (k + 1)) := by
  have e : allB l = allB (l.take k) ++ (l[k].enc ++ allB (l.drop (k + 1))) := by
    have h1 : allB l = allB (l.take (k + 1)) ++ allB (l.drop (k + 1)) := by
      unfold allB
      rw [← List.flatMap_append, ← List.filter_append, List.take_append_drop]
    rw [h1, allB_succ l k hk, if_pos hm, List.append_assoc]
  rw [e, List.drop_left]

theorem same_self {w : World} {x y : Value} {l : List UInt8} (hx : Bytes w x l) (hy : Bytes w y l) : Calls Try.prog 38 #[x, y] w fun e w' => e = .returned (.bool true) ∧ ∃ n, w' = w.drewN n := by
  have h := same_any l l w x y hx hy
  rwa [decide_eq_true rfl] at h

/-- what a round of the reading does -/
theorem back_round {w : World} {p : Nat} {v : Value} {bs : List UInt8} {a : Nat} (h : RdAt w p v bs a 0) (d : PutD) (rest : List UInt8) (hd : PutOk w d.K d.N d.x d.B) (hr : bs.drop a = d.enc ++ rest) (hA : askA d ≤ 9223372036854775807) :
    Calls Try.prog 45 #[.pointer (some ⟨p, 0, none⟩), getV (d.K % 9) (askA d) 0] w fun e w' => ∃ ao cap, e = .returned (.agg #[.int .u64 (valN d.K d.N), .slice ao (valB d.K d.B).length cap]) ∧ Bytes w' (.slice ao (valB d.K d.B).length cap) (valB d.K d.B) ∧ (∀ k, inFoot (.slice ao (valB d.K d.B).length cap) k → w.heap.size ≤ k) ∧
      RdAt w' p v bs (a + d.enc.length) 0 ∧ Ext (One p) w w' := by
  have h0 : -9223372036854775808 ≤ askA d := by unfold askA; repeat' split; all_goals omega
  refine (law_any h (d.K % 9) (askA d) 0 ⟨by omega, by omega⟩ ⟨h0, hA⟩ ⟨by omega, by omega⟩).mono ?_
  have e : rdE 0 (d.K % 9 % 9) (askA d) 0 (bs.drop a) = (0, d.enc.length, valN d.K d.N, valB d.K d.B) := by
    rw [show d.K % 9 % 9 = d.K % 9 from by omega, hr]
    unfold rdE
    rw [if_pos rfl]
    exact back_any d hd.n hd.len rest
  rw [e]
  rintro e w' ⟨x, rfl, ⟨ao, cap, h1, h2, rfl, h3, h4⟩, h5, h6⟩
  exact ⟨ao, cap, rfl, h3.bytes, h4, h5, h6⟩

set_option maxHeartbeats 4000000 in
set_option maxRecDepth 20000 in
theorem back_walk (w : World) (v : Value) (l : List PutD) (h : Puts w.heap.size w v l) (hv : ∀ k, inFoot v k → k < w.heap.size) (hfit : Fits (sumB l)) :
    Calls Try.prog 10 #[v] w fun e w' => e = .returned (.bool true) ∧ Ext Nil w w' := by
  have hfit' : sumB l ≤ 1099511627776 := hfit
  have hlens : ∀ d ∈ l, IsU64 d.N ∧ IsU64 d.B.length := fun d hd => ⟨(h.each d hd).n, (h.each d hd).len⟩
  have hal := allB_length l hlens
  clear hlens
  obtain ⟨ao, cap, rfl, hcap, hmax, hc⟩ := h.reads.2
  unfold maxLen at hmax
  clear hc
  go_enter Try.func10, Try.ntmps10
  go_wp2_with fail
  refine (all_any w.heap.size w _ l h (Nat.le_refl _) hv hfit).mono ?_
  rintro e w1 ⟨aob, capb, hb1, hb2, rfl, hO, hS⟩
  have hf1 : Fits (allB l).length := by unfold Fits; omega
  clear hb1 hb2 hal
  go_wp2_with fail
  refine (newReader_any _ _ (allB l) hO.bytes hf1).mono ?_
  rintro e w2 ⟨p, rv, rfl, hR0, hS2⟩
  have hX0 : Ext Nil w w2 := hS.1.trans hS2.1 fun _ _ h => h
  have hp : w.heap.size ≤ p := by
    have := (hS2.2 p (.inl rfl)).resolve_left fun h => h
    have := hS.1.size
    omega
  clear hO hS hS2
  go_wp2_with fail
  go_loopw [6] (fun i wr => ∃ k : Nat, k ≤ l.length ∧ i = .int .i64 k ∧ RdAt wr p rv (allB l) (allB (l.take k)).length 0 ∧ Ext Nil w wr) (fun i _ => l.length - (intOf i).toNat)
  case atStart => exact ⟨0, Nat.zero_le _, rfl, hR0, hX0⟩
  case round =>
    obtain ⟨k, hk, rfl, hR, hX⟩ := hrel
    clear hR0 hX0
    have hPr := h.ext hX (fun _ h => h.elim) (fun _ _ h => h)
    by_cases hlt : k < l.length
    · obtain ⟨b, off, rfl⟩ := h.head (by intro e; subst e; simp at hlt)
      obtain ⟨c0, c1, c2⟩ := hPr.at k hlt
      have hd := hPr.each l[k] (List.getElem_mem hlt)
      have hold := hPr.old l[k] (List.getElem_mem hlt)
      have hsucc := allB_succ l k hlt
      have hdrop := allB_drop l k hlt
      have hsum := sumB_take l k hlt
      have hbw : b < w.heap.size := by
        refine hv b ?_
        obtain ⟨c, rfl⟩ : ∃ c, cap = c + 1 := ⟨cap - 1, by omega⟩
        rfl
      generalize hdk : l[k] = d at c0 c1 c2 hd hold hsucc hsum hdrop
      have HD := Lib.hid hdk
      have HS := Lib.hid hsucc
      have HDr := Lib.hid hdrop
      have HP := Lib.hid hPr
      have HO := Lib.hid hold
      have HH := Lib.hid h
      have HV := Lib.hid hv
      clear hdk hsucc hdrop hPr hold h hv
      go_wp2_with fail
      refine (may_any wr d.K d.N d.x hd.k0 hd.k1).mono ?_
      rintro e w3 ⟨rfl, hE3⟩
      have hP3 := HP.out.ext hE3 (fun _ h => h.elim) (fun _ _ h => h)
      have hR3 := hR.ext hE3 fun _ _ h => h
      have hd3 := hd.ext hE3 fun _ _ h => h
      have hX3 := hX.same hE3
      clear hR hX hd c0 c1 c2
      obtain ⟨c0, c1, c2⟩ := hP3.at k hlt
      rw [HD.out] at c0 c1 c2
      have HP3 := Lib.hid hP3
      clear hP3 HP
      by_cases hm : mayB d.K d.N = true
      · have hsucc := HS.out
        rw [if_pos (show d.may = true from hm)] at hsucc
        have hdrop := HDr.out hm
        have HS2 := Lib.hid hsucc
        clear HS HDr hsucc
        go_wp2_with fail
        have hA4 := askA_bounds d hd3 hm (by omega)
        refine (asked_any w3 d hd3 hm (by omega)).mono ?_
        rintro e w4 ⟨rfl, hE4⟩
        have hR4 := hR3.ext hE4 fun _ _ h => h
        have hd4 := hd3.ext hE4 fun _ _ h => h
        have hX4 := hX3.same hE4
        clear hR3 hX3 hd3 c0 c1 c2
        go_wp2_with fail
        refine (back_round hR4 d _ hd4 hdrop hA4).mono ?_
        rintro e w5 ⟨aox, capx, rfl, hB5, hF5, hR5, hE5⟩
        have hsz4 := hX4.size
        have hX5 : Ext Nil w w5 := hX4.trans hE5 fun i hi e => by have e : i = p := e; omega
        have hP5 := HH.out.ext hX5 (fun _ h => h.elim) (fun _ _ h => h)
        obtain ⟨c0, c1, c2⟩ := hP5.at k hlt
        rw [HD.out] at c0 c1 c2
        have hd5 : PutOk w5 d.K d.N d.x d.B := by
          have := hP5.each l[k] (List.getElem_mem hlt)
          rwa [HD.out] at this
        have HP5 := Lib.hid hP5
        clear hP5 hR4 hd4
        have hb5 : b < w5.heap.size := by have := hX5.size; omega
        go_wp2_with fail
        refine (value_any _ d.K d.N d.x d.B (hd5.bytes.alloc _) hd5.k0 hd5.k1).mono ?_
        rintro e w6 ⟨rfl, hE6⟩
        obtain ⟨ao6, cap6, hv6, -, -, -⟩ := (valX_bts d.K hd5.bytes).open
        have hA6 := (At.new w5 [.int .u64 (valN d.K d.N), .slice aox (valB d.K d.B).length capx] 49).ext hE6 fun h => h
        have hBx := ((hB5.alloc (.cells #[.int .u64 (valN d.K d.N), .slice aox (valB d.K d.B).length capx] 49)).ext hE6 fun _ _ h => h)
        have hBy := (((valX_bts d.K hd5.bytes).alloc (.cells #[.int .u64 (valN d.K d.N), .slice aox (valB d.K d.B).length capx] 49)).ext hE6 fun _ _ h => h)
        have hl6 := hA6.lt
        have a0 := hA6.cell 0 rfl
        have a1 := hA6.cell 1 rfl
        have hR6 := (hR5.alloc (.cells #[.int .u64 (valN d.K d.N), .slice aox (valB d.K d.B).length capx] 49)).ext hE6 fun _ _ h => h
        have hX6 := (hX5.alloc (.cells #[.int .u64 (valN d.K d.N), .slice aox (valB d.K d.B).length capx] 49)).same hE6
        have hnext : RdAt w6 p rv (allB l) (allB (l.take (k + 1))).length 0 := by
          rw [HS2.out, List.length_append]
          exact hR6
        rw [hv6] at hBy ⊢
        clear c0 c1 c2 hv6 hA6 hR6 hR5 hX5 hX4 hd5 hdrop hB5 hF5 hE5 hE6 hE4 hE3 hsz4 hb5
        generalize valN d.K d.N = vN at *
        generalize valB d.K d.B = vB at *
        have HN := Lib.hid hnext
        clear hnext
        have hBx7 := hBx.alloc (.cells #[.int .u64 vN, .slice ao6 vB.length cap6] 49)
        have hBy7 := hBy.alloc (.cells #[.int .u64 vN, .slice ao6 vB.length cap6] 49)
        go_wp2_with (go_at_call 38; refine (same_self hBx7 hBy7).mono ?_; rintro e w' ⟨rfl, nq, rfl⟩)
        refine ⟨⟨k + 1, by omega, by go_num, (HN.out.alloc _).drewN _, (hX6.alloc _).drewN _⟩, by simp [intOf]; omega⟩
      · have hm' : mayB d.K d.N = false := by simpa using hm
        clear hm
        go_wp2_with fail
        refine ⟨⟨k + 1, by omega, by go_num, ?_, hX3⟩, by simp [intOf]; omega⟩
        have e := HS.out
        have hm2 : d.may = false := hm'
        rw [hm2] at e
        rw [e]
        simpa using hR3
    · obtain rfl : k = l.length := by omega
      have ht : l.take l.length = l := List.take_length
      rw [ht] at hR
      clear ht hPr
      have hend := end_any hR
      have hleft := left_rd hR
      rw [Nat.sub_self] at hend hleft
      have he : endD 0 0 = 0 := rfl
      rw [he] at hend
      have HE := Lib.hid hend
      have HL := Lib.hid hleft
      clear hend hleft
      go_wp2_with (first
        | (go_at_call 49; refine (err_any hR).mono ?_; rintro e w' ⟨rfl, rfl⟩)
        | (go_at_call 27; refine (num_any _ _).mono ?_; rintro e w' ⟨rfl, rfl⟩)
        | (go_at_call 51; refine HE.out.mono ?_; rintro e w' ⟨rfl, n1, rfl⟩)
        | (go_at_call 52; refine (left_rd (hR.drewN _)).mono ?_; rw [Nat.sub_self]; rintro e w' ⟨rfl, n2, rfl⟩))
      go_ret
      exact ⟨rfl, hX.drewN _⟩
end Go.Proofs.Ytdgagpoeefbdjaa
