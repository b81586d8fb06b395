/- Contracts: the disk's put, and the closures of Replace and Cut. Conditions: the disk stands; what is laid down has a row of its own and fits. -/
import Derived.Test.YtnppneilbkmnfaaDe
import Derived.Test.YtnppneilbkmnfaaDn
namespace Go.Proofs.Ytnppneilbkmnfaa
open Go.RowKit

/-- what turns when a file is laid down in a new block -/
theorem DAt.laid {w0 w' : World} {d mb : Nat} {av : Value} {fbs : List FB} {D : Dk} (h : DAt w0 d mb av fbs D) (x : FB) (e : Ext (fun k => k = d ∨ k = mb) w0 w')
    (hcells : At w' d 57 [.int .i64 D.lim, .int .i64 (D.put x.f).used, .map (some mb), .bool D.off, .bool D.out, .int .i64 D.calls, av]) (hmap : MapAt w' mb (putK FB.nm x fbs)) (hx : FileOk w' x) (hn : x.bl.Nodup) (hk : ∀ k ∈ x.bl, w0.heap.size ≤ k) (wf : (D.put x.f).Wf) :
    DAt w' d mb av (putK FB.nm x fbs) (D.put x.f) ∧ Step (· ∈ dbl d mb av fbs) w0 (· ∈ dbl d mb av (putK FB.nm x fbs)) w' := by
  have hs : (putK FB.nm x fbs).map FB.f = (D.put x.f).fs := by
    rw [putK_map FB.nm FileM.nm FB.f (fun _ => rfl), h.same]
    rfl
  rcases putK_part FB.nm h.rises x with ⟨A, a, B, hf, e1, e2, _, _, _⟩ | ⟨A, B, hf, e1, e2, _, _⟩
  · have e1' : fbs = A ++ [a] ++ B := by rw [e1]; simp
    have e2' : putK FB.nm x fbs = A ++ [x] ++ B := by rw [e2]; simp
    rw [e2'] at hmap hs ⊢
    subst e1'
    exact h.change (D' := D.put x.f) (e.mono fun k _ hk => hk.imp id .inl) hcells hmap rfl (by intro y hy; rw [List.mem_singleton] at hy; subst hy; exact hx) (by simpa using hn) (fun k hq => .inr (hk k (by simpa using hq))) hs wf
  · have e1' : fbs = A ++ [] ++ B := by rw [e1]; simp
    have e2' : putK FB.nm x fbs = A ++ [x] ++ B := by rw [e2]; simp
    rw [e2'] at hmap hs ⊢
    subst e1'
    exact h.change (D' := D.put x.f) (e.mono fun k _ hk => hk.imp id .inl) hcells hmap rfl (by intro y hy; rw [List.mem_singleton] at hy; subst hy; exact hx) (by simpa using hn) (fun k hq => .inr (hk k (by simpa using hq))) hs wf

theorem DAt.drew {w : World} {d mb : Nat} {av : Value} {fbs : List FB} {D : Dk} (h : DAt w d mb av fbs D) : DAt w.drew d mb av fbs D := h.ext (Ext.refl Nil w).drew fun _ _ h => h

set_option maxRecDepth 20000 in
set_option maxHeartbeats 1000000 in
theorem put_at (w0 w : World) (d mb : Nat) (av : Value) (fbs : List FB) (D : Dk) (h0 : DAt w0 d mb av fbs D) (e0 : Ext Nil w0 w) (s : ByteArray) (hs : s.size ≤ maxLen) (v : Value) (b : List UInt8) (hv : OwnB w v b) (hvk : ∀ k, inFoot v k → w0.heap.size ≤ k) (sy : Nat) (hsy : sy ≤ b.length)
    (hn : nmOk s.data.toList = true) (hroom : D.room s.data.toList b.length = true) (hb : b.length ≤ 1099511627776) :
    Calls Try.prog 89 #[.pointer (some ⟨d, 0, none⟩), .string s, v, .int .i64 sy] w (Did w0 d mb av fbs (D.put ⟨s.data.toList, b, sy⟩)) := by
  have h := h0.ext e0 fun _ _ h => h
  have c1 := h.cells.cell 1 rfl
  have c2 := h.cells.cell 2 rfl
  have f1 := h.cells.frozen 1
  have hd := h.cells.lt
  have hd0 := h0.cells.lt
  have hwf := Dk.put_wf h.wf ⟨s.data.toList, b, sy⟩ hsy hn (Dk.room_spec.1 hroom).1 (Dk.room_spec.1 hroom).2
  have hus := (Dk.used_put h.wf ⟨s.data.toList, b, sy⟩).1
  have hsz := size_le h.wf s.data.toList
  have hul := h.wf.used
  have hl1 := h.wf.lim1
  have hp := h.part
  have hcount := h.wf.count
  rw [← h.count] at hcount
  obtain ⟨ao, cap, hav, hcap, hcm⟩ := Own.shape hv
  subst hav
  have hbl : (b.length : Int) ≤ 1099511627776 := by omega
  generalize hS : D.size s.data.toList = S at *
  generalize hU : (D.put ⟨s.data.toList, b, sy⟩).used = U at *
  have hul' : D.used ≤ D.lim := hul
  generalize hV : D.used = V at *
  have hus : U + S = V + b.length := hus
  have w1 : IntKind.i64.wrap ((b.length : Int) - S) = (b.length : Int) - S := IntWalk.i64_in _ (by omega)
  have w2 : IntKind.i64.wrap ((V : Int) + ((b.length : Int) - S)) = (U : Int) := by rw [IntWalk.i64_in _ (by omega)]; omega
  have HS := Lib.hid hS; have HU := Lib.hid hU; have HV := Lib.hid hV; have HUS := Lib.hid hus
  clear hS hU hV hus
  go_enter Try.func89, Try.ntmps89
  go_wp2_with fail
  refine wp_region_held_drew (S := fun _ => True) (by kernel_rfl) trivial (fun hHeld => ?_)
  refine wpAnyH_take (i := 0) (v := .pointer (some ⟨d, 0, none⟩)) rfl (by kernel_rfl) (by kernel_rfl) (by kernel_rfl) (fun _ _ _ h => h) (Or.inl ⟨by rfl, ?y1⟩) (by assumption) ?r1
  case y1 => (intro w hSw; go_simp)
  simp only [Act.put]
  refine wpAnyH_take (i := 1) (v := .pointer (some ⟨d, 0, none⟩)) rfl (by kernel_rfl) (by kernel_rfl) (by kernel_rfl) (fun _ _ _ h => h) (Or.inl ⟨by rfl, ?y2⟩) (by assumption) ?r2
  case y2 => (intro w hSw; go_simp)
  simp only [Act.put]
  refine wpAnyH_take (i := 2) (v := .pointer (some ⟨d, 1, none⟩)) rfl (by kernel_rfl) (by kernel_rfl) (by kernel_rfl) (fun _ _ _ h => h) (Or.inl ⟨by rfl, ?y3⟩) (by assumption) ?r3
  case y3 => (intro w hSw; go_simp)
  simp only [Act.put]
  refine wpAnyH_take (i := 4) (v := .slice ao b.length cap) rfl (by kernel_rfl) (by kernel_rfl) (by kernel_rfl) (fun _ _ _ h => h) (Or.inl ⟨by rfl, ?y4⟩) (by assumption) ?r4
  case y4 => (intro w hSw; go_simp)
  simp only [Act.put]
  refine wpAnyH_take (i := 5) (v := .int .i64 b.length) rfl (by kernel_rfl) (by kernel_rfl) (by kernel_rfl) (fun _ _ _ h => h) (Or.inl ⟨by rfl, ?y5⟩) (by assumption) ?r5
  case y5 => (intro w hSw; go_simp)
  simp only [Act.put]
  refine wpAnyH_take (i := 6) (v := .pointer (some ⟨d, 0, none⟩)) rfl (by kernel_rfl) (by kernel_rfl) (by kernel_rfl) (fun _ _ _ h => h) (Or.inl ⟨by rfl, ?y6⟩) (by assumption) ?r6
  case y6 => (intro w hSw; go_simp)
  simp only [Act.put]
  refine wpAnyH_take (i := 7) (v := .string s) rfl (by kernel_rfl) (by kernel_rfl) (by kernel_rfl) (fun _ _ _ h => h) (Or.inl ⟨by rfl, ?y7⟩) (by assumption) ?r7
  case y7 => (intro w hSw; go_simp)
  simp only [Act.put]
  refine wpAnyH_ready (rs := [3, 8]) (by kernel_rfl) (by simp) (AllReadyH.cons rfl (fun K hK => ?o3) (AllReadyH.cons rfl (fun K hK => ?o8) AllReadyH.nil))
  case o3 =>
    go_simp
    refine hK.out _ _ trivial (fun hHeld => ?_)
    clear hK K
    refine wpAnyH_ready (rs := [8]) (by kernel_rfl) (by simp) (AllReadyH.cons rfl (fun K hK => ?_) AllReadyH.nil)
    go_simp
    refine (size_q _ d mb av fbs D h.drew s hs S HS).mono ?_
    rintro e w' ⟨rfl, rfl⟩
    go_wp2_with fail
    refine hK.out _ _ trivial (fun hHeld => ?_)
    clear hK K
    refine wpAnyH_take (i := 9) (v := .int .i64 ((b.length : Int) - S)) rfl (by kernel_rfl) (by kernel_rfl) (by kernel_rfl) (fun _ _ _ h => h) (Or.inl ⟨by rfl, ?y8⟩) (by assumption) ?r8
    case y8 => (intro w hSw; go_simp)
    simp only [Act.put]
    refine wpAnyH_take (i := 10) (v := .int .i64 U) rfl (by kernel_rfl) (by kernel_rfl) (by kernel_rfl) (fun _ _ _ h => h) (Or.inl ⟨by rfl, ?y9⟩) (by assumption) ?r9
    case y9 => (intro w hSw; go_simp)
    simp only [Act.put]
    refine wpAnyH_take (i := 11) (v := .pointer (some ⟨d, 0, none⟩)) rfl (by kernel_rfl) (by kernel_rfl) (by kernel_rfl) (fun _ _ _ h => h) (Or.inl ⟨by rfl, ?y10⟩) (by assumption) ?r10
    case y10 => (intro w hSw; go_simp)
    simp only [Act.put]
    refine wpAnyH_take (i := 12) (v := .pointer (some ⟨d, 1, none⟩)) rfl (by kernel_rfl) (by kernel_rfl) (by kernel_rfl) (fun _ _ _ h => h) (Or.inl ⟨by rfl, ?y11⟩) (by assumption) ?r11
    case y11 => (intro w hSw; go_simp)
    simp only [Act.put]
    refine wpAnyH_ready (rs := [13]) (by kernel_rfl) (by simp) (AllReadyH.cons rfl (fun K hK => ?_) AllReadyH.nil)
    go_simp
    refine hK.out _ _ trivial (fun hHeld => ?_)
    clear hK K
    refine wpAnyH_done (by kernel_rfl) ?_ _
    have e1 : Ext (One d) w (w.setCell ⟨d, 1, none⟩ (.int .i64 U)).drew := ((Ext.refl (One d) w).setCell (p := ⟨d, 1, none⟩) (fun _ => (rfl : d = d)) _).drew
    have A1 : At (w.setCell ⟨d, 1, none⟩ (.int .i64 U)).drew d 57 _ := h.cells.set 1 (.int .i64 U)
    have hXs : (w.setCell ⟨d, 1, none⟩ (.int .i64 U)).drew.heap.size = w.heap.size := by simp [World.setCell, World.drew]
    generalize (w.setCell ⟨d, 1, none⟩ (.int .i64 U)).drew = X at *
    have M1 := h.map.ext e1 (fun e => hp.1 (by have e : mb = d := e; exact e.symm))
    have O1 := hv.ext e1 fun k hk e => by have e : k = d := e; have := hvk k hk; omega
    have M3 : MapAt (X.alloc (.cells #[.slice ao b.length cap, .int .i64 sy] 115 (0, 0))) mb fbs := World.ownsMap.alloc M1 _
    obtain ⟨w', hrun, M', e'⟩ := MapAt.put M3 s hs (by unfold maxLen; omega) ⟨⟨s.data.toList, b, sy⟩, X.heap.size, .slice ao b.length cap⟩ rfl
    have hmb := World.ownsMap.lt M1
    have hvl := hv.lt
    have C2 := A1.cell 2 rfl
    have E3 : Ext Nil X (X.alloc (.cells #[.slice ao b.length cap, .int .i64 sy] 115 (0, 0))) := (Ext.refl Nil X).alloc _
    have hsz0 := e0.size
    have hE : Ext (fun k => k = d ∨ k = mb) w0 w' := (((e0.mono fun k _ h => h.elim).trans e1 fun i _ e => .inl e).trans E3 fun i _ e => e.elim).trans e' fun i _ e => .inr e
    have hF : FileOk w' ⟨⟨s.data.toList, b, sy⟩, X.heap.size, .slice ao b.length cap⟩ :=
      ⟨(At.new X [.slice ao b.length cap, .int .i64 sy] 115).ext e' fun e => by have e : X.heap.size = mb := e; omega, (O1.ext E3 fun _ _ h => h).ext e' fun k hk e => by have e : k = mb := e; have h1 := hvk k hk; have h2 := World.ownsMap.lt h0.map; omega⟩
    have hA' := (A1.ext E3 fun h => h).ext e' fun e => hp.1 e
    have HL := Lib.hid (h0.laid ⟨⟨s.data.toList, b, sy⟩, X.heap.size, .slice ao b.length cap⟩ hE (by rw [HU.out]; exact hA') M' hF (by
      show (X.heap.size :: footL (.slice ao b.length cap)).Nodup
      rw [List.nodup_cons]
      exact ⟨fun hm => by have := hvl _ (mem_footL.1 hm); omega, footL_nodup _⟩) (fun k hk => by
      rcases List.mem_cons.1 hk with rfl | hk
      · show w0.heap.size ≤ X.heap.size
        omega
      · exact hvk k (mem_footL.1 hk)) hwf)
    clear hE hF hA' E3 e1 A1 M1 O1 M3 M' e' hvl hvk hv h h0 e0 hXs
    go_wp2_with fail
    go_end0
    exact ⟨rfl, _, HL.out⟩
  case o8 =>
    go_simp
    refine (size_q _ d mb av fbs D h.drew s hs S HS).mono ?_
    rintro e w' ⟨rfl, rfl⟩
    go_wp2_with fail
    refine hK.out _ _ trivial (fun hHeld => ?_)
    clear hK K
    refine wpAnyH_take (i := 9) (v := .int .i64 ((b.length : Int) - S)) rfl (by kernel_rfl) (by kernel_rfl) (by kernel_rfl) (fun _ _ _ h => h) (Or.inl ⟨by rfl, ?yq8⟩) (by assumption) ?rq8
    case yq8 => (intro w hSw; go_simp)
    simp only [Act.put]
    refine wpAnyH_ready (rs := [3]) (by kernel_rfl) (by simp) (AllReadyH.cons rfl (fun K hK => ?_) AllReadyH.nil)
    go_simp
    refine hK.out _ _ trivial (fun hHeld => ?_)
    clear hK K
    refine wpAnyH_take (i := 10) (v := .int .i64 U) rfl (by kernel_rfl) (by kernel_rfl) (by kernel_rfl) (fun _ _ _ h => h) (Or.inl ⟨by rfl, ?yq9⟩) (by assumption) ?rq9
    case yq9 => (intro w hSw; go_simp)
    simp only [Act.put]
    refine wpAnyH_take (i := 11) (v := .pointer (some ⟨d, 0, none⟩)) rfl (by kernel_rfl) (by kernel_rfl) (by kernel_rfl) (fun _ _ _ h => h) (Or.inl ⟨by rfl, ?yq10⟩) (by assumption) ?rq10
    case yq10 => (intro w hSw; go_simp)
    simp only [Act.put]
    refine wpAnyH_take (i := 12) (v := .pointer (some ⟨d, 1, none⟩)) rfl (by kernel_rfl) (by kernel_rfl) (by kernel_rfl) (fun _ _ _ h => h) (Or.inl ⟨by rfl, ?yq11⟩) (by assumption) ?rq11
    case yq11 => (intro w hSw; go_simp)
    simp only [Act.put]
    refine wpAnyH_ready (rs := [13]) (by kernel_rfl) (by simp) (AllReadyH.cons rfl (fun K hK => ?_) AllReadyH.nil)
    go_simp
    refine hK.out _ _ trivial (fun hHeld => ?_)
    clear hK K
    refine wpAnyH_done (by kernel_rfl) ?_ _
    have e1 : Ext (One d) w (w.setCell ⟨d, 1, none⟩ (.int .i64 U)).drew := ((Ext.refl (One d) w).setCell (p := ⟨d, 1, none⟩) (fun _ => (rfl : d = d)) _).drew
    have A1 : At (w.setCell ⟨d, 1, none⟩ (.int .i64 U)).drew d 57 _ := h.cells.set 1 (.int .i64 U)
    have hXs : (w.setCell ⟨d, 1, none⟩ (.int .i64 U)).drew.heap.size = w.heap.size := by simp [World.setCell, World.drew]
    generalize (w.setCell ⟨d, 1, none⟩ (.int .i64 U)).drew = X at *
    have M1 := h.map.ext e1 (fun e => hp.1 (by have e : mb = d := e; exact e.symm))
    have O1 := hv.ext e1 fun k hk e => by have e : k = d := e; have := hvk k hk; omega
    have M3 : MapAt (X.alloc (.cells #[.slice ao b.length cap, .int .i64 sy] 115 (0, 0))) mb fbs := World.ownsMap.alloc M1 _
    obtain ⟨w', hrun, M', e'⟩ := MapAt.put M3 s hs (by unfold maxLen; omega) ⟨⟨s.data.toList, b, sy⟩, X.heap.size, .slice ao b.length cap⟩ rfl
    have hmb := World.ownsMap.lt M1
    have hvl := hv.lt
    have C2 := A1.cell 2 rfl
    have E3 : Ext Nil X (X.alloc (.cells #[.slice ao b.length cap, .int .i64 sy] 115 (0, 0))) := (Ext.refl Nil X).alloc _
    have hsz0 := e0.size
    have hE : Ext (fun k => k = d ∨ k = mb) w0 w' := (((e0.mono fun k _ h => h.elim).trans e1 fun i _ e => .inl e).trans E3 fun i _ e => e.elim).trans e' fun i _ e => .inr e
    have hF : FileOk w' ⟨⟨s.data.toList, b, sy⟩, X.heap.size, .slice ao b.length cap⟩ :=
      ⟨(At.new X [.slice ao b.length cap, .int .i64 sy] 115).ext e' fun e => by have e : X.heap.size = mb := e; omega, (O1.ext E3 fun _ _ h => h).ext e' fun k hk e => by have e : k = mb := e; have h1 := hvk k hk; have h2 := World.ownsMap.lt h0.map; omega⟩
    have hA' := (A1.ext E3 fun h => h).ext e' fun e => hp.1 e
    have HL := Lib.hid (h0.laid ⟨⟨s.data.toList, b, sy⟩, X.heap.size, .slice ao b.length cap⟩ hE (by rw [HU.out]; exact hA') M' hF (by
      show (X.heap.size :: footL (.slice ao b.length cap)).Nodup
      rw [List.nodup_cons]
      exact ⟨fun hm => by have := hvl _ (mem_footL.1 hm); omega, footL_nodup _⟩) (fun k hk => by
      rcases List.mem_cons.1 hk with rfl | hk
      · show w0.heap.size ≤ X.heap.size
        omega
      · exact hvk k (mem_footL.1 hk)) hwf)
    clear hE hF hA' E3 e1 A1 M1 O1 M3 M' e' hvl hvk hv h h0 e0 hXs
    go_wp2_with fail
    go_end0
    exact ⟨rfl, _, HL.out⟩
end Go.Proofs.Ytnppneilbkmnfaa
