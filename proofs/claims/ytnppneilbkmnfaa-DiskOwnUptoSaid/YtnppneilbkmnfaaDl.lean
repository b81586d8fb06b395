/- Contracts of the disk's methods Cut, Remove, Read, Size. Conditions: the disk stands; names fit into memory. -/
import Derived.Test.YtnppneilbkmnfaaDk
namespace Go.Proofs.Ytnppneilbkmnfaa
open Go.RowKit

theorem remove_nil_m (w : World) (s : ByteArray) : Calls Try.prog 67 #[.pointer none, .string s] w fun e w' => e = .returned (.int .i64 1) ∧ Ext Nil w w' := by
  go_enter Try.func67, Try.ntmps67
  go_wp2_with (go_at_call 69; refine (find_nil _ s).mono ?_; rintro e w' ⟨rfl, rfl⟩)
  go_ret
  exact ⟨rfl, ((Ext.refl _ _).alloc _).alloc _⟩
theorem cut_nil_m (w : World) (s : ByteArray) (n : Int) : Calls Try.prog 66 #[.pointer none, .string s, .int .i64 n] w fun e w' => e = .returned (.int .i64 1) ∧ Ext Nil w w' := by
  go_enter Try.func66, Try.ntmps66
  go_wp2_with (go_at_call 69; refine (find_nil _ s).mono ?_; rintro e w' ⟨rfl, rfl⟩)
  go_ret
  exact ⟨rfl, ((((Ext.refl _ _).alloc _).alloc _).alloc _).alloc _⟩
theorem seek_at {w : World} {d mb : Nat} {av : Value} {fbs : List FB} {D : Dk} (h : DAt w d mb av fbs D) {s : Nm} (hr : D.seek s = 0) :
    ∃ x, findK FB.nm s fbs = some x ∧ D.find s = some x.f ∧ found s fbs D = .pointer (some ⟨x.blk, 0, none⟩) ∧ nmOk s = true := by
  obtain ⟨hr0, f, hf⟩ := seek_zero hr
  have hfd := h.find s
  rw [hf] at hfd
  cases hfx : findK FB.nm s fbs with
  | none => rw [hfx] at hfd; cases hfd
  | some x =>
    rw [hfx] at hfd
    refine ⟨x, rfl, hf.trans hfd, by unfold found fileAt; rw [if_pos hr, hfx], ?_⟩
    unfold Dk.refuse at hr0
    cases h1 : D.off <;> cases h2 : nmOk s <;> simp [h1, h2] at hr0 ⊢

set_option maxRecDepth 20000 in
set_option maxHeartbeats 1000000 in
theorem remove_m (w : World) (d : Nat) (D : Dk) (F : Nat → Prop) (hD : Disk w d D F) (hc : D.calls ≤ 1099511627776) (s : ByteArray) (hs : s.size ≤ maxLen) :
    Calls Try.prog 67 #[.pointer (some ⟨d, 0, none⟩), .string s] w (Acted w d F (D.remove s.data.toList)) := by
  obtain ⟨mb, av, fbs, h, rfl⟩ := hD
  have hlt := h.lt
  have hDD : Disk w d D (· ∈ dbl d mb av fbs) := ⟨mb, av, fbs, h, rfl⟩
  have eW : Ext Nil w ((w.alloc (.cells #[.pointer (some ⟨d, 0, none⟩)] 22 (0, 0))).alloc (.cells #[.string s] 9 (0, 0))) := ((Ext.refl _ _).alloc _).alloc _
  have hW := h.ext eW fun _ _ h => h
  by_cases hr : D.seek s.data.toList = 0
  · have hdef : D.remove s.data.toList = D.num (Dk.del · s.data.toList) := by
      unfold Dk.remove
      rw [if_neg (by simp [hr])]
    obtain ⟨x, hfx, hf, hfo, -⟩ := seek_at h hr
    have b1 := (Bx.new w (.pointer (some ⟨d, 0, none⟩)) 22).alloc (.cells #[.string s] 9 (0, 0))
    have b2 := Bx.new (w.alloc (.cells #[.pointer (some ⟨d, 0, none⟩)] 22 (0, 0))) (.string s) 9
    have hsz : (w.alloc (.cells #[.pointer (some ⟨d, 0, none⟩)] 22 (0, 0))).heap.size = w.heap.size + 1 := by simp
    rw [hsz] at b2
    have hH : ∀ w1 av1, Ext (fun k => k = d ∨ inFoot av k) ((w.alloc (.cells #[.pointer (some ⟨d, 0, none⟩)] 22 (0, 0))).alloc (.cells #[.string s] 9 (0, 0))) w1 → (∀ k, inFoot av1 k → inFoot av k) → DAt w1 d mb av1 fbs D.tick → Calls Try.prog 96 #[.pointer (some ⟨w.heap.size, 0, none⟩), .pointer (some ⟨w.heap.size + 1, 0, none⟩)] w1 (Did w1 d mb av1 fbs (Dk.del D.tick s.data.toList)) := by
      intro w1 av1 e hsub h1
      have p1 : w.heap.size ∉ dbl d mb av fbs := fun hm => by have := hlt _ hm; omega
      have p2 : w.heap.size + 1 ∉ dbl d mb av fbs := fun hm => by have := hlt _ hm; omega
      exact remove_do w1 d mb av1 fbs D.tick h1 _ _ s hs x hfx (b1.ext e (dbl_touch p1)) (b2.ext e (dbl_touch p2)) (fun hm => p1 (dbl_sub hsub _ hm)) fun hm => p2 (dbl_sub hsub _ hm)
    have HFO := Lib.hid hfo; have HR := Lib.hid hr; have HDEF := Lib.hid hdef; have HH := Lib.hid hH
    clear hfo hr hdef hH hlt hfx hf b1 b2 hsz h
    go_enter Try.func67, Try.ntmps67
    go_wp2_with (go_at_call 69; refine (find_at _ d mb av fbs D hW s hs).mono ?_; rintro e w' ⟨rfl, rfl⟩; rw [HFO.out, HR.out])
    refine (number_any _ d mb av fbs D hW hc _ (.inr (.inr (.inr (.inr rfl)))) _ (Dk.del · s.data.toList) HH.out).mono ?_
    rintro e w2 ⟨rfl, hN⟩
    go_wp2_with fail
    go_ret
    rw [HDEF.out]
    exact Numbered.acted eW ⟨rfl, hN⟩
  · have hdef : D.remove s.data.toList = (D, D.seek s.data.toList) := by unfold Dk.remove; rw [if_pos hr]
    have hfo : found s.data.toList fbs D = .pointer none := if_neg hr
    have HDEF := Lib.hid hdef; have HFO := Lib.hid hfo
    generalize hR : D.seek s.data.toList = R at *
    have HRR := Lib.hid hR
    have hne : (R != 0) = true := by rw [bne_iff_ne]; exact hr
    clear hr hR hdef hlt hfo
    go_enter Try.func67, Try.ntmps67
    go_wp2_with (go_at_call 69; refine (find_at _ d mb av fbs D hW s hs).mono ?_; rintro e w' ⟨rfl, rfl⟩; rw [HFO.out, HRR.out])
    go_ret
    rw [HDEF.out]
    exact Acted.same hDD eW _

/-- four boxes -/
def boxes4 (w : World) (v1 v2 v3 v4 : Value) (t1 t2 t3 t4 : TypeId) : World := (boxes3 w v1 v2 v3 t1 t2 t3).alloc (.cells #[v4] t4 (0, 0))
theorem boxes4_facts (w : World) (v1 v2 v3 v4 : Value) (t1 t2 t3 t4 : TypeId) : Ext Nil w (boxes4 w v1 v2 v3 v4 t1 t2 t3 t4) ∧ Bx (boxes4 w v1 v2 v3 v4 t1 t2 t3 t4) w.heap.size v1 ∧ Bx (boxes4 w v1 v2 v3 v4 t1 t2 t3 t4) (w.heap.size + 1) v2 ∧ Bx (boxes4 w v1 v2 v3 v4 t1 t2 t3 t4) (w.heap.size + 1 + 1) v3 ∧ Bx (boxes4 w v1 v2 v3 v4 t1 t2 t3 t4) (w.heap.size + 1 + 1 + 1) v4 := by
  obtain ⟨e, h1, h2, h3⟩ := boxes3_facts w v1 v2 v3 t1 t2 t3
  have h4 := Bx.new (boxes3 w v1 v2 v3 t1 t2 t3) v4 t4
  have hs : (boxes3 w v1 v2 v3 t1 t2 t3).heap.size = w.heap.size + 1 + 1 + 1 := by simp [boxes3]
  rw [hs] at h4
  exact ⟨e.alloc _, h1.alloc _, h2.alloc _, h3.alloc _, h4⟩

set_option maxRecDepth 20000 in
set_option maxHeartbeats 1000000 in
theorem cut_m (w : World) (d : Nat) (D : Dk) (F : Nat → Prop) (hD : Disk w d D F) (hc : D.calls ≤ 1099511627776) (s : ByteArray) (hs : s.size ≤ maxLen) (n : Int) :
    Calls Try.prog 66 #[.pointer (some ⟨d, 0, none⟩), .string s, .int .i64 n] w (Acted w d F (D.cut s.data.toList n)) := by
  obtain ⟨mb, av, fbs, h, rfl⟩ := hD
  have hlt := h.lt
  have hDD : Disk w d D (· ∈ dbl d mb av fbs) := ⟨mb, av, fbs, h, rfl⟩
  have e3 := (boxes3_facts w (.pointer (some ⟨d, 0, none⟩)) (.string s) (.int .i64 n) 22 9 3).1
  have hW3 := h.ext e3 fun _ _ h => h
  by_cases hr : D.seek s.data.toList = 0
  · obtain ⟨x, hfx, hf, hfo, hnm⟩ := seek_at h hr
    obtain ⟨eW, b1, b2, b3, b4⟩ := boxes4_facts w (.pointer (some ⟨d, 0, none⟩)) (.string s) (.int .i64 n) (.pointer (some ⟨x.blk, 0, none⟩)) 22 9 3 113
    have hW := h.ext eW fun _ _ h => h
    have hx := h.files x (findK_some _ hfx).1
    have f0 := (hx.1.ext eW fun h => h).cell 0 rfl
    obtain ⟨ao, cap, hv, hcap, hcm⟩ := hx.2.shape
    rw [hv] at f0
    have hxlt := hx.1.lt
    have hsz : D.size s.data.toList = x.f.b.length := Dk.size_some hf
    have hdef : D.cut s.data.toList n = if n < 0 ∨ (x.f.b.length : Int) < n then (D, 2) else D.num (Dk.cutTo s.data.toList n.toNat) := by
      unfold Dk.cut
      rw [if_neg (by simp [hr]), hsz]
    have hmem := (findK_some _ hf).1
    have hbl := sumF_mem hmem
    have hul := h.wf.used
    have hl1 := h.wf.lim1
    have hH : ∀ m : Nat, n = (m : Int) → m ≤ x.f.b.length → ∀ q, ∀ w1 av1, Ext (fun k => k = d ∨ inFoot av k) ((boxes4 w (.pointer (some ⟨d, 0, none⟩)) (.string s) (.int .i64 n) (.pointer (some ⟨x.blk, 0, none⟩)) 22 9 3 113).drewN q) w1 → (∀ k, inFoot av1 k → inFoot av k) → DAt w1 d mb av1 fbs D.tick →
        Calls Try.prog 95 #[.pointer (some ⟨w.heap.size, 0, none⟩), .pointer (some ⟨w.heap.size + 1, 0, none⟩), .pointer (some ⟨w.heap.size + 1 + 1 + 1, 0, none⟩), .pointer (some ⟨w.heap.size + 1 + 1, 0, none⟩)] w1 (Did w1 d mb av1 fbs (Dk.cutTo s.data.toList n.toNat D.tick)) := by
      intro m hm hml q w1 av1 e hsub h1
      have p1 : w.heap.size ∉ dbl d mb av fbs := fun hm => by have := hlt _ hm; omega
      have p2 : w.heap.size + 1 ∉ dbl d mb av fbs := fun hm => by have := hlt _ hm; omega
      have p3 : w.heap.size + 1 + 1 ∉ dbl d mb av fbs := fun hm => by have := hlt _ hm; omega
      have p4 : w.heap.size + 1 + 1 + 1 ∉ dbl d mb av fbs := fun hm => by have := hlt _ hm; omega
      have hf1 := h1.find s.data.toList
      rw [hfx] at hf1
      subst hm
      have e1 : Dk.cutTo s.data.toList (m : Int).toNat D.tick = D.tick.put ⟨s.data.toList, x.f.b.take m, m⟩ := by unfold Dk.cutTo; rw [hf1, Int.toNat_natCast]; rfl
      rw [e1]
      have g1 : Bx _ _ _ := (b1.ext (F := Nil) ((Ext.refl Nil _).drewN q) fun h => h).ext e (dbl_touch p1)
      have g2 : Bx _ _ _ := (b2.ext (F := Nil) ((Ext.refl Nil _).drewN q) fun h => h).ext e (dbl_touch p2)
      have g3 : Bx _ _ _ := (b3.ext (F := Nil) ((Ext.refl Nil _).drewN q) fun h => h).ext e (dbl_touch p3)
      have g4 : Bx _ _ _ := (b4.ext (F := Nil) ((Ext.refl Nil _).drewN q) fun h => h).ext e (dbl_touch p4)
      exact cut_do w1 d mb av1 fbs D.tick h1 _ _ _ _ s hs x hfx m hml g1 g2 g4 g3 (fun hm => p1 (dbl_sub hsub _ hm)) (fun hm => p2 (dbl_sub hsub _ hm)) (fun hm => p4 (dbl_sub hsub _ hm)) (fun hm => p3 (dbl_sub hsub _ hm)) hnm
    generalize hB : x.f.b.length = L at *
    have HFO := Lib.hid hfo; have HR := Lib.hid hr; have HDEF := Lib.hid hdef; have HH := Lib.hid hH
    clear hfo hr hdef hH hlt hfx hf b1 b2 b3 b4 hsz h hx hv hnm hB
    unfold boxes4 at *
    unfold boxes3 at *
    by_cases hn0 : n < 0
    · go_enter Try.func66, Try.ntmps66
      go_wp2_with (go_at_call 69; refine (find_at _ d mb av fbs D hW3 s hs).mono ?_; rintro e w' ⟨rfl, rfl⟩; rw [HFO.out, HR.out])
      go_quiet (fail)
      go_wp2_with fail
      go_ret
      rw [HDEF.out, if_pos (.inl hn0)]
      exact Acted.same hDD (eW.drewN nq) 2
    · have hd0 : decide (n < 0) = false := decide_eq_false hn0
      have hn00 : 0 ≤ n := by omega
      by_cases hn1 : (L : Int) < n
      · go_enter Try.func66, Try.ntmps66
        go_wp2_with (go_at_call 69; refine (find_at _ d mb av fbs D hW3 s hs).mono ?_; rintro e w' ⟨rfl, rfl⟩; rw [HFO.out, HR.out])
        go_quiet (fail)
        go_wp2_with fail
        go_ret
        rw [HDEF.out, if_pos (.inr hn1)]
        exact Acted.same hDD (eW.drewN nq) 2
      · have hd1 : decide ((L : Int) < n) = false := decide_eq_false hn1
        obtain ⟨m, hm⟩ := Int.eq_ofNat_of_zero_le hn00
        have H2 := HH.out m hm (by omega)
        have H3 := Lib.hid H2
        clear H2 HH
        have HM := Lib.hid hm
        clear hm
        go_enter Try.func66, Try.ntmps66
        go_wp2_with (go_at_call 69; refine (find_at _ d mb av fbs D hW3 s hs).mono ?_; rintro e w' ⟨rfl, rfl⟩; rw [HFO.out, HR.out])
        go_quiet (fail)
        go_wp2_with fail
        refine (number_any _ d mb av fbs D (hW.drewN nq) hc _ (.inr (.inr (.inr (.inl rfl)))) _ (Dk.cutTo s.data.toList n.toNat) (H3.out nq)).mono ?_
        rintro e w2 ⟨rfl, hN⟩
        have e1 := eW.drewN nq
        go_wp2_with fail
        go_ret
        rw [HDEF.out, if_neg (by omega)]
        exact Numbered.acted e1 ⟨rfl, hN⟩
  · have hdef : D.cut s.data.toList n = (D, D.seek s.data.toList) := by unfold Dk.cut; rw [if_pos hr]
    have hfo : found s.data.toList fbs D = .pointer none := if_neg hr
    have eW := (boxes4_facts w (.pointer (some ⟨d, 0, none⟩)) (.string s) (.int .i64 n) (.pointer none) 22 9 3 113).1
    have HDEF := Lib.hid hdef; have HFO := Lib.hid hfo
    generalize hR : D.seek s.data.toList = R at *
    have HRR := Lib.hid hR
    have hne : (R != 0) = true := by rw [bne_iff_ne]; exact hr
    clear hr hR hdef hlt hfo
    unfold boxes4 at *
    unfold boxes3 at *
    go_enter Try.func66, Try.ntmps66
    go_wp2_with (go_at_call 69; refine (find_at _ d mb av fbs D hW3 s hs).mono ?_; rintro e w' ⟨rfl, rfl⟩; rw [HFO.out, HRR.out])
    go_ret
    rw [HDEF.out]
    exact Acted.same hDD eW _
end Go.Proofs.Ytnppneilbkmnfaa
