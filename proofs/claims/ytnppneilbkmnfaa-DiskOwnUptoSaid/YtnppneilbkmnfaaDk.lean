/- Contracts of the disk's methods Sync, Replace, Cut, Remove. Conditions: the disk stands; what is handed in lies elsewhere and fits. -/
import Derived.Test.YtnppneilbkmnfaaDj
namespace Go.Proofs.Ytnppneilbkmnfaa
open Go.RowKit

theorem Bx.new (w : World) (v : Value) (t : TypeId) : Bx (w.alloc (.cells #[v] t (0, 0))) w.heap.size v := (At.new w [v] t).cell 0 rfl
theorem Bx.ext {F : Nat → Prop} {w w' : World} {p : Nat} {v : Value} (h : Bx w p v) (e : Ext F w w') (hp : ¬ F p) : Bx w' p v := e.cell h hp
theorem Bx.alloc {w : World} {p : Nat} {v : Value} (h : Bx w p v) (o : Obj) : Bx (w.alloc o) p v := h.ext (F := Nil) ((Ext.refl _ _).alloc o) fun h => h

theorem replace_H {W : World} {d mb : Nat} {av : Value} {fbs : List FB} {D : Dk} {pd pn pb : Nat} {s : ByteArray} (hs : s.size ≤ maxLen) {x : Value} {b : List UInt8} (hd : Bx W pd (.pointer (some ⟨d, 0, none⟩))) (hn : Bx W pn (.string s)) (hb : Bx W pb x) (hx : Bytes W x b) (hxF : ∀ k, inFoot x k → k ∉ dbl d mb av fbs)
    (hpd : pd ∉ dbl d mb av fbs) (hpn : pn ∉ dbl d mb av fbs) (hpb : pb ∉ dbl d mb av fbs) (hroom : D.room s.data.toList b.length = true) (hnm : nmOk s.data.toList = true) (hbl : b.length ≤ 1099511627776) :
    ∀ w1 av1, Ext (fun k => k = d ∨ inFoot av k) W w1 → (∀ k, inFoot av1 k → inFoot av k) → DAt w1 d mb av1 fbs D.tick → Calls Try.prog 88 #[.pointer (some ⟨pd, 0, none⟩), .pointer (some ⟨pn, 0, none⟩), .pointer (some ⟨pb, 0, none⟩)] w1 (Did w1 d mb av1 fbs (D.tick.put ⟨s.data.toList, b, b.length⟩)) := by
  intro w1 av1 e hsub h1
  exact replace_do w1 d mb av1 fbs D.tick h1 pd pn pb s hs x b (hd.ext e (dbl_touch hpd)) (hn.ext e (dbl_touch hpn)) (hb.ext e (dbl_touch hpb)) (hx.ext e fun k hk => dbl_touch (hxF k hk))
    (fun h => hpd (dbl_sub hsub _ h)) (fun h => hpn (dbl_sub hsub _ h)) (fun h => hpb (dbl_sub hsub _ h)) hnm hroom hbl

theorem replace_nil_m (w : World) (s : ByteArray) (ax : Option Addr) (n c : Nat) : Calls Try.prog 52 #[.pointer none, .string s, .slice ax n c] w fun e w' => e = .returned (.int .i64 1) ∧ Ext Nil w w' := by
  go_enter Try.func52, Try.ntmps52
  go_wp2_with (go_at_call 57; refine (refuses_nil _ s).mono ?_; rintro e w' ⟨rfl, rfl⟩)
  go_ret
  exact ⟨rfl, (((Ext.refl _ _).alloc _).alloc _).alloc _⟩

set_option maxRecDepth 20000 in
set_option maxHeartbeats 1000000 in
theorem replace_m (w : World) (d : Nat) (D : Dk) (F : Nat → Prop) (hD : Disk w d D F) (hc : D.calls ≤ 1099511627776) (s : ByteArray) (hs : s.size ≤ maxLen) (x : Value) (b : List UInt8) (hx : Bytes w x b) (hxF : ∀ k, inFoot x k → ¬ F k) (hb : b.length ≤ 549755813888) :
    Calls Try.prog 52 #[.pointer (some ⟨d, 0, none⟩), .string s, x] w (Acted w d F (D.replace s.data.toList b)) := by
  obtain ⟨mb, av, fbs, h, rfl⟩ := hD
  obtain ⟨ax, cx, rfl, hcx, hmx, -⟩ := hx.open
  obtain ⟨eW, b1, b2, b3⟩ := boxes3_facts w (.pointer (some ⟨d, 0, none⟩)) (.string s) (.slice ax b.length cx) 22 9 31
  have hW := h.ext eW fun _ _ h => h
  have hxW := hx.ext eW fun _ _ h => h
  have hlt := h.lt
  have hDD : Disk w d D (· ∈ dbl d mb av fbs) := ⟨mb, av, fbs, h, rfl⟩
  by_cases hr : D.refuse s.data.toList = 0
  · have hdef : D.replace s.data.toList b = if D.room s.data.toList b.length then D.num (Dk.put · ⟨s.data.toList, b, b.length⟩) else (D, 62) := by
      unfold Dk.replace
      rw [if_neg (by simp [hr])]
    have hnm : nmOk s.data.toList = true := by
      unfold Dk.refuse at hr
      cases h1 : D.off <;> cases h2 : nmOk s.data.toList <;> simp [h1, h2] at hr ⊢
    generalize hR : D.room s.data.toList b.length = R at *
    have hnb : ∀ k, w.heap.size ≤ k → k ∉ dbl d mb av fbs := fun k hk hm => by have := hlt k hm; omega
    have HR := Lib.hid hR; have HRR := Lib.hid hr; have HDEF := Lib.hid hdef; have HNM := Lib.hid hnm
    have HNB := Lib.hid hnb; have HXF := Lib.hid hxF; have HXW := Lib.hid hxW; have HD := Lib.hid hDD; have HEW := Lib.hid eW
    clear hR hr hdef hnm hnb hxF hlt hx h hxW hDD
    unfold boxes3 Bx at *
    cases hRv : R
    · subst hRv
      go_enter Try.func52, Try.ntmps52
      go_wp2_with (first
        | (go_at_call 57; refine (refuses_at _ d mb av fbs D hW s hs).mono ?_; rintro e w' ⟨rfl, rfl⟩; rw [HRR.out])
        | (go_at_call 58; refine (holds_q _ d mb av fbs D hW s hs b.length (by omega) false HR).mono ?_; rintro e w' ⟨rfl, q, rfl⟩))
      go_ret
      rw [HDEF.out]
      exact Acted.same HD.out (eW.drewN q) 62
    · subst hRv
      go_enter Try.func52, Try.ntmps52
      go_wp2_with (first
        | (go_at_call 57; refine (refuses_at _ d mb av fbs D hW s hs).mono ?_; rintro e w' ⟨rfl, rfl⟩; rw [HRR.out])
        | (go_at_call 58; refine (holds_q _ d mb av fbs D hW s hs b.length (by omega) true HR).mono ?_; rintro e w' ⟨rfl, q, rfl⟩))
      have e1 := eW.drewN q
      have hH := replace_H (W := (boxes3 w (.pointer (some ⟨d, 0, none⟩)) (.string s) (.slice ax b.length cx) 22 9 31).drewN q) (pd := w.heap.size) (pn := w.heap.size + 1) (pb := w.heap.size + 1 + 1) (av := av) (D := D) hs b1 b2 b3 (HXW.out.drewN q) (fun k hk => HXF.out k hk) (HNB.out _ (Nat.le_refl _)) (HNB.out _ (by omega)) (HNB.out _ (by omega)) HR.out HNM.out (by omega)
      unfold boxes3 at hH
      refine (number_any _ d mb av fbs D (hW.drewN q) hc _ (.inr (.inr (.inl rfl))) _ (Dk.put · ⟨s.data.toList, b, b.length⟩) hH).mono ?_
      rintro e w2 ⟨rfl, hN⟩
      clear hH
      go_wp2_with fail
      go_ret
      rw [HDEF.out, if_pos trivial]
      exact Numbered.acted e1 ⟨rfl, hN⟩
  · have hdef : D.replace s.data.toList b = (D, D.refuse s.data.toList) := by unfold Dk.replace; rw [if_pos hr]
    have HDEF := Lib.hid hdef
    generalize hR : D.refuse s.data.toList = R at *
    have HRR := Lib.hid hR
    have hne : (R != 0) = true := by rw [bne_iff_ne]; exact hr
    clear hr hR hdef
    unfold boxes3 Bx at *
    clear hxF hlt hx hxW h
    go_enter Try.func52, Try.ntmps52
    go_wp2_with (go_at_call 57; refine (refuses_at _ d mb av fbs D hW s hs).mono ?_; rintro e w' ⟨rfl, rfl⟩; rw [HRR.out])
    go_ret
    rw [HDEF.out]
    exact Acted.same hDD eW _

theorem sync_nil_m (w : World) (s : ByteArray) : Calls Try.prog 65 #[.pointer none, .string s] w fun e w' => e = .returned (.int .i64 1) ∧ Ext Nil w w' := by
  go_enter Try.func65, Try.ntmps65
  go_wp2_with (go_at_call 69; refine (find_nil _ s).mono ?_; rintro e w' ⟨rfl, rfl⟩)
  go_ret
  exact ⟨rfl, (Ext.refl _ _).alloc _⟩

theorem seek_zero {D : Dk} {s : Nm} (h : D.seek s = 0) : D.refuse s = 0 ∧ ∃ f, D.find s = some f := by
  unfold Dk.seek at h
  by_cases hr : D.refuse s = 0
  · rw [if_neg (by simp [hr])] at h
    cases hf : D.find s with
    | none => rw [hf] at h; simp at h
    | some f => exact ⟨hr, f, rfl⟩
  · rw [if_pos hr] at h
    exact absurd h hr

set_option maxRecDepth 20000 in
set_option maxHeartbeats 1000000 in
theorem sync_m (w : World) (d : Nat) (D : Dk) (F : Nat → Prop) (hD : Disk w d D F) (hc : D.calls ≤ 1099511627776) (s : ByteArray) (hs : s.size ≤ maxLen) :
    Calls Try.prog 65 #[.pointer (some ⟨d, 0, none⟩), .string s] w (Acted w d F (D.sync s.data.toList)) := by
  obtain ⟨mb, av, fbs, h, rfl⟩ := hD
  have hlt := h.lt
  have hDD : Disk w d D (· ∈ dbl d mb av fbs) := ⟨mb, av, fbs, h, rfl⟩
  by_cases hr : D.seek s.data.toList = 0
  · have hdef : D.sync s.data.toList = D.num (Dk.syncIt s.data.toList) := by
      unfold Dk.sync
      rw [if_neg (by simp [hr])]
    obtain ⟨-, f, hf⟩ := seek_zero hr
    have hfd := h.find s.data.toList
    rw [hf] at hfd
    cases hfx : findK FB.nm s.data.toList fbs with
    | none => rw [hfx] at hfd; cases hfd
    | some x =>
      rw [hfx] at hfd
      have hfo : found s.data.toList fbs D = .pointer (some ⟨x.blk, 0, none⟩) := by unfold found fileAt; rw [if_pos hr, hfx]
      have eW : Ext Nil w (w.alloc (.cells #[.pointer (some ⟨x.blk, 0, none⟩)] 113 (0, 0))) := (Ext.refl _ _).alloc _
      have hW := h.ext eW fun _ _ h => h
      have b1 := Bx.new w (.pointer (some ⟨x.blk, 0, none⟩)) 113
      have hH : ∀ w1 av1, Ext (fun k => k = d ∨ inFoot av k) (w.alloc (.cells #[.pointer (some ⟨x.blk, 0, none⟩)] 113 (0, 0))) w1 → (∀ k, inFoot av1 k → inFoot av k) → DAt w1 d mb av1 fbs D.tick → Calls Try.prog 94 #[.pointer (some ⟨w.heap.size, 0, none⟩)] w1 (Did w1 d mb av1 fbs (Dk.syncIt s.data.toList D.tick)) := by
        intro w1 av1 e hsub h1
        have hpf : w.heap.size ∉ dbl d mb av fbs := fun hm => by have := hlt _ hm; omega
        have hf1 := h1.find s.data.toList
        rw [hfx] at hf1
        have e1 : Dk.syncIt s.data.toList D.tick = D.tick.put ⟨s.data.toList, x.f.b, x.f.b.length⟩ := by unfold Dk.syncIt; rw [hf1]; rfl
        rw [e1]
        exact sync_do w1 d mb av1 fbs D.tick h1 w.heap.size s.data.toList x hfx (b1.ext e (dbl_touch hpf)) fun hm => hpf (dbl_sub hsub _ hm)
      have HFO := Lib.hid hfo; have HR := Lib.hid hr; have HDEF := Lib.hid hdef; have HH := Lib.hid hH; have HW := Lib.hid hW; have HHH := Lib.hid h
      clear hfo hr hdef hH hlt hfx hfd hf b1
      go_enter Try.func65, Try.ntmps65
      go_wp2_with (go_at_call 69; refine (find_at w d mb av fbs D h s hs).mono ?_; rintro e w' ⟨rfl, rfl⟩; rw [HFO.out, HR.out])
      refine (number_any _ d mb av fbs D HW.out hc _ (.inr (.inl rfl)) _ (Dk.syncIt s.data.toList) HH.out).mono ?_
      rintro e w2 ⟨rfl, hN⟩
      go_wp2_with fail
      go_ret
      rw [HDEF.out]
      exact Numbered.acted eW ⟨rfl, hN⟩
  · have hdef : D.sync s.data.toList = (D, D.seek s.data.toList) := by unfold Dk.sync; rw [if_pos hr]
    have hfo : found s.data.toList fbs D = .pointer none := if_neg hr
    have HDEF := Lib.hid hdef; have HFO := Lib.hid hfo
    generalize hR : D.seek s.data.toList = R at *
    have HRR := Lib.hid hR
    have hne : (R != 0) = true := by rw [bne_iff_ne]; exact hr
    clear hr hR hdef hlt hfo
    go_enter Try.func65, Try.ntmps65
    go_wp2_with (go_at_call 69; refine (find_at w d mb av fbs D h s hs).mono ?_; rintro e w' ⟨rfl, rfl⟩; rw [HFO.out, HRR.out])
    go_ret
    rw [HDEF.out]
    exact Acted.same hDD ((Ext.refl _ _).alloc _) _
end Go.Proofs.Ytnppneilbkmnfaa
