/- Contracts of the disk's methods Append, Sync, Replace, Cut, Remove. Conditions: the disk stands; what is handed in lies elsewhere and fits. -/
import Derived.Test.YtnppneilbkmnfaaDi
namespace Go.Proofs.Ytnppneilbkmnfaa
open Go.RowKit

/-- The end of a call that changes a disk: its answer, the disk behind it. -/
def Acted (w : World) (d : Nat) (F : Nat → Prop) (r : Dk × Int) (e : Ending) (w' : World) : Prop :=
  e = .returned (.int .i64 r.2) ∧ ∃ F', Disk w' d r.1 F' ∧ Step F w F' w'
theorem Acted.same {w w' : World} {d : Nat} {D : Dk} {F : Nat → Prop} (h : Disk w d D F) (e : Ext Nil w w') (er : Int) : Acted w d F (D, er) (.returned (.int .i64 er)) w' :=
  ⟨rfl, F, h.ext e fun _ _ h => h, e.mono fun _ _ h => h.elim, fun _ h => .inl h⟩
theorem Numbered.acted {w w0 w' : World} {d mb : Nat} {av : Value} {fbs : List FB} {D' : Dk} {er : Int} {e : Ending} (e0 : Ext Nil w0 w) (h : Numbered w d mb av fbs D' er e w') : Acted w0 d (· ∈ dbl d mb av fbs) (D', er) e w' := by
  obtain ⟨he, av', fbs', h1, h2⟩ := h
  exact ⟨he, _, ⟨mb, av', fbs', h1, rfl⟩, (e0.mono fun _ _ h => h.elim).same h2.1, fun k hk => (h2.2 k hk).imp id fun h => Nat.le_trans e0.size h⟩

theorem room_mono {D : Dk} {s : Nm} {n : Nat} (h : D.room s (D.size s + n) = true) : D.used + n ≤ D.lim := by
  have := (Dk.room_spec.1 h).1
  omega
theorem dbl_sub {d mb : Nat} {av av1 : Value} {fbs : List FB} (h : ∀ k, inFoot av1 k → inFoot av k) : ∀ k, k ∈ dbl d mb av1 fbs → k ∈ dbl d mb av fbs := by
  intro k hm
  simp only [dbl, List.mem_cons, List.mem_append] at hm ⊢
  rcases hm with hm | hm | hm | hm
  · exact .inl hm
  · exact .inr (.inl hm)
  · exact .inr (.inr (.inl (mem_footL.2 (h _ (mem_footL.1 hm)))))
  · exact .inr (.inr (.inr hm))
theorem dbl_touch {d mb : Nat} {av : Value} {fbs : List FB} {k : Nat} (h : k ∉ dbl d mb av fbs) : ¬ (k = d ∨ inFoot av k) := fun e => h (by
  simp only [dbl, List.mem_cons, List.mem_append]
  rcases e with e | e
  · exact .inl e
  · exact .inr (.inr (.inl (mem_footL.2 e))))

/-- three boxes, laid one behind the other -/
def boxes3 (w : World) (v1 v2 v3 : Value) (t1 t2 t3 : TypeId) : World := ((w.alloc (.cells #[v1] t1 (0, 0))).alloc (.cells #[v2] t2 (0, 0))).alloc (.cells #[v3] t3 (0, 0))
theorem boxes3_facts (w : World) (v1 v2 v3 : Value) (t1 t2 t3 : TypeId) : Ext Nil w (boxes3 w v1 v2 v3 t1 t2 t3) ∧ Bx (boxes3 w v1 v2 v3 t1 t2 t3) w.heap.size v1 ∧ Bx (boxes3 w v1 v2 v3 t1 t2 t3) (w.heap.size + 1) v2 ∧ Bx (boxes3 w v1 v2 v3 t1 t2 t3) (w.heap.size + 2) v3 := by
  have e1 : Ext Nil w (w.alloc (.cells #[v1] t1 (0, 0))) := (Ext.refl _ _).alloc _
  have h1 := (At.new w [v1] t1).cell 0 rfl
  have h2 := (At.new (w.alloc (.cells #[v1] t1 (0, 0))) [v2] t2).cell 0 rfl
  have h3 := (At.new ((w.alloc (.cells #[v1] t1 (0, 0))).alloc (.cells #[v2] t2 (0, 0))) [v3] t3).cell 0 rfl
  have s1 : (w.alloc (.cells #[v1] t1 (0, 0))).heap.size = w.heap.size + 1 := by simp
  have s2 : ((w.alloc (.cells #[v1] t1 (0, 0))).alloc (.cells #[v2] t2 (0, 0))).heap.size = w.heap.size + 2 := by simp
  rw [s1] at h2
  rw [s2] at h3
  have g1 : Ext Nil (w.alloc (.cells #[v1] t1 (0, 0))) (boxes3 w v1 v2 v3 t1 t2 t3) := ((Ext.refl Nil (w.alloc (.cells #[v1] t1 (0, 0)))).alloc _).alloc _
  have g2 : Ext Nil ((w.alloc (.cells #[v1] t1 (0, 0))).alloc (.cells #[v2] t2 (0, 0))) (boxes3 w v1 v2 v3 t1 t2 t3) := (Ext.refl Nil _).alloc _
  exact ⟨e1.same g1, g1.cell h1 fun h => h, g2.cell h2 fun h => h, h3⟩

theorem holds_q (w : World) (d mb : Nat) (av : Value) (fbs : List FB) (D : Dk) (h : DAt w d mb av fbs D) (s : ByteArray) (hs : s.size ≤ maxLen) (n : Nat) (hn : n ≤ 1099511627776) (R : Bool) (hR : Hid (D.room s.data.toList n = R)) :
    Calls Try.prog 58 #[.pointer (some ⟨d, 0, none⟩), .string s, .int .i64 n] w fun e w' => e = .returned (.bool R) ∧ ∃ q, w' = w.drewN q :=
  (holds_at w d mb av fbs D h s hs n hn).mono fun e w' ⟨h1, h2⟩ => ⟨by rw [h1, hR.out], h2⟩

theorem append_H {W : World} {d mb : Nat} {av : Value} {fbs : List FB} {D : Dk} {pd pn pb : Nat} {s : ByteArray} (hs : s.size ≤ maxLen) {axb : Option Addr} {capb : Nat} {b : List UInt8} (hd : Bx W pd (.pointer (some ⟨d, 0, none⟩))) (hn : Bx W pn (.string s)) (hb : Bx W pb (.slice axb b.length capb)) (hx : Bytes W (.slice axb b.length capb) b) (hxF : ∀ k, inFoot (.slice axb b.length capb) k → k ∉ dbl d mb av fbs)
    (hpd : pd ∉ dbl d mb av fbs) (hpn : pn ∉ dbl d mb av fbs) (hpb : pb ∉ dbl d mb av fbs) (hroom : D.used + b.length ≤ D.lim) (hnm : nmOk s.data.toList = true) (hcnt : (D.find s.data.toList).isSome = true ∨ D.fs.length < 65536) :
    ∀ w1 av1, Ext (fun k => k = d ∨ inFoot av k) W w1 → (∀ k, inFoot av1 k → inFoot av k) → DAt w1 d mb av1 fbs D.tick → Calls Try.prog 61 #[.pointer (some ⟨pd, 0, none⟩), .pointer (some ⟨pn, 0, none⟩), .pointer (some ⟨pb, 0, none⟩)] w1 (Did w1 d mb av1 fbs (Dk.addTo s.data.toList b D.tick)) := by
  intro w1 av1 e hsub h1
  have hd1 : Bx w1 pd _ := e.cell hd (dbl_touch hpd)
  have hn1 : Bx w1 pn _ := e.cell hn (dbl_touch hpn)
  have hb1 : Bx w1 pb _ := e.cell hb (dbl_touch hpb)
  have hx1 := hx.ext e fun k hk => dbl_touch (hxF k hk)
  have q1 : pd ∉ dbl d mb av1 fbs := fun h => hpd (dbl_sub hsub _ h)
  have q2 : pn ∉ dbl d mb av1 fbs := fun h => hpn (dbl_sub hsub _ h)
  have q3 : pb ∉ dbl d mb av1 fbs := fun h => hpb (dbl_sub hsub _ h)
  have hfd := h1.find s.data.toList
  cases hf : findK FB.nm s.data.toList fbs with
  | some x =>
    rw [hf] at hfd
    have e1 : Dk.addTo s.data.toList b D.tick = D.tick.put ⟨s.data.toList, x.f.b ++ b, x.f.sy⟩ := by unfold Dk.addTo; rw [hfd]; rfl
    rw [e1]
    exact append_old w1 d mb av1 fbs D.tick h1 pd pn pb s hs x hf axb capb b hd1 hn1 hb1 hx1 q1 q3 hroom
  | none =>
    rw [hf] at hfd
    have e1 : Dk.addTo s.data.toList b D.tick = D.tick.put ⟨s.data.toList, b, 0⟩ := by unfold Dk.addTo; rw [hfd]; rfl
    rw [e1]
    have hcnt2 : D.tick.fs.length < 65536 := hcnt.resolve_left fun h => by
      have h : (D.tick.find s.data.toList).isSome = true := h
      rw [hfd] at h
      cases h
    exact append_new w1 d mb av1 fbs D.tick h1 pd pn pb s hs hf axb capb b hd1 hn1 hb1 hx1 (fun hk => hxF mb hk (by simp [dbl])) q1 q2 q3 hroom hnm hcnt2

theorem append_nil_m (w : World) (s : ByteArray) (ax : Option Addr) (n c : Nat) : Calls Try.prog 20 #[.pointer none, .string s, .slice ax n c] w fun e w' => e = .returned (.int .i64 1) ∧ Ext Nil w w' := by
  go_enter Try.func20, Try.ntmps20
  go_wp2_with (go_at_call 57; refine (refuses_nil _ s).mono ?_; rintro e w' ⟨rfl, rfl⟩)
  go_ret
  exact ⟨rfl, (((Ext.refl _ _).alloc _).alloc _).alloc _⟩

set_option maxRecDepth 20000 in
set_option maxHeartbeats 1000000 in
theorem append_m (w : World) (d : Nat) (D : Dk) (F : Nat → Prop) (hD : Disk w d D F) (hc : D.calls ≤ 1099511627776) (s : ByteArray) (hs : s.size ≤ maxLen) (x : Value) (b : List UInt8) (hx : Bytes w x b) (hxF : ∀ k, inFoot x k → ¬ F k) (hb : b.length ≤ 549755813888) :
    Calls Try.prog 20 #[.pointer (some ⟨d, 0, none⟩), .string s, x] w (Acted w d F (D.append s.data.toList b)) := by
  obtain ⟨mb, av, fbs, h, rfl⟩ := hD
  obtain ⟨ax, cx, rfl, hcx, hmx, -⟩ := hx.open
  obtain ⟨eW, b1, b2, b3⟩ := boxes3_facts w (.pointer (some ⟨d, 0, none⟩)) (.string s) (.slice ax b.length cx) 22 9 31
  have hW := h.ext eW fun _ _ h => h
  have hxW := hx.ext eW fun _ _ h => h
  have hlt := h.lt
  have hDD : Disk w d D (· ∈ dbl d mb av fbs) := ⟨mb, av, fbs, h, rfl⟩
  by_cases hr : D.refuse s.data.toList = 0
  · have hdef : D.append s.data.toList b = if D.room s.data.toList (D.size s.data.toList + b.length) then D.num (Dk.addTo s.data.toList b) else (D, 62) := by
      unfold Dk.append
      rw [if_neg (by simp [hr])]
    have hnm : nmOk s.data.toList = true ∧ D.off = false := by
      unfold Dk.refuse at hr
      cases h1 : D.off <;> cases h2 : nmOk s.data.toList <;> simp [h1, h2] at hr ⊢
    have c0 := hW.cells.cell 0 rfl
    have hsz := size_le h.wf s.data.toList
    generalize hR : D.room s.data.toList (D.size s.data.toList + b.length) = R at *
    have hRm : R = true → D.used + b.length ≤ D.lim ∧ ((D.find s.data.toList).isSome = true ∨ D.fs.length < 65536) := fun e => by
      rw [e] at hR
      exact ⟨room_mono hR, (Dk.room_spec.1 hR).2⟩
    generalize hS : D.size s.data.toList = S at *
    obtain ⟨M, hM⟩ : ∃ M : Nat, M = S + b.length := ⟨_, rfl⟩
    have hw1 : IntKind.i64.wrap ((S : Int) + (b.length : Int)) = (M : Int) := by rw [IntWalk.i64_in _ (by omega)]; omega
    rw [← hM] at hR
    have hM2 : M ≤ 1099511627776 := by omega
    have HS := Lib.hid hS; have HR := Lib.hid hR; have HM := Lib.hid hM; have HRR := Lib.hid hr; have HDEF := Lib.hid hdef; have HRM := Lib.hid hRm; have HNM := Lib.hid hnm
    clear hS hR hM hr hdef hRm hnm
    unfold boxes3 Bx at *
    have hnb : ∀ k, w.heap.size ≤ k → k ∉ dbl d mb av fbs := fun k hk hm => by have := hlt k hm; omega
    have HNB := Lib.hid hnb; have HXF := Lib.hid hxF; have HXW := Lib.hid hxW; have HHW := Lib.hid hW; have HD := Lib.hid hDD; have HEW := Lib.hid eW
    clear hnb hxF hlt hx h hxW hDD
    by_cases hbig : D.lim < b.length
    · have hbi : (D.lim : Int) < (b.length : Int) := by omega
      have hRf : R = false := by
        cases hq : R with
        | false => rfl
        | true => have := (HRM.out hq).1; omega
      go_enter Try.func20, Try.ntmps20
      go_wp2_with (go_at_call 57; refine (refuses_at _ d mb av fbs D hW s hs).mono ?_; rintro e w' ⟨rfl, rfl⟩; rw [HRR.out])
      go_quiet (fail)
      go_wp2_with fail
      go_ret
      rw [HDEF.out, hRf]
      exact Acted.same HD.out (eW.drewN nq) 62
    · have hbi : ¬ (D.lim : Int) < (b.length : Int) := by omega
      have hbd : decide ((D.lim : Int) < (b.length : Int)) = false := decide_eq_false hbi
      go_enter Try.func20, Try.ntmps20
      go_wp2_with (go_at_call 57; refine (refuses_at _ d mb av fbs D hW s hs).mono ?_; rintro e w' ⟨rfl, rfl⟩; rw [HRR.out])
      go_quiet ((first
        | (go_at_call 59; exact Calls.quiet_of_same (size_q _ d mb av fbs D (hW.drewN _) s hs S HS))
        | (go_at_call 58; exact Calls.quiet_of (holds_q _ d mb av fbs D (hW.drewN _) s hs M hM2 R HR))))
      cases hRv : R
      · subst hRv
        go_wp2_with fail
        go_ret
        rw [HDEF.out]
        exact Acted.same HD.out (eW.drewN nq) 62
      · subst hRv
        have hrm := HRM.out rfl
        have e1 := eW.drewN nq
        have hH := append_H (W := (boxes3 w (.pointer (some ⟨d, 0, none⟩)) (.string s) (.slice ax b.length cx) 22 9 31).drewN nq) (pd := w.heap.size) (pn := w.heap.size + 1) (pb := w.heap.size + 1 + 1) (av := av) hs b1 b2 b3 (HXW.out.drewN nq) (fun k hk => HXF.out k hk) (HNB.out _ (Nat.le_refl _)) (HNB.out _ (by omega)) (HNB.out _ (by omega)) hrm.1 HNM.out.1 hrm.2
        unfold boxes3 at hH
        have HH := Lib.hid hH
        clear hH
        go_wp2_with fail
        refine (number_any _ d mb av fbs D (hW.drewN nq) hc _ (.inl rfl) _ (Dk.addTo s.data.toList b) HH.out).mono ?_
        rintro e w2 ⟨rfl, hN⟩
        go_wp2_with fail
        go_ret
        rw [HDEF.out, if_pos trivial]
        exact Numbered.acted e1 ⟨rfl, hN⟩
  · have hdef : D.append s.data.toList b = (D, D.refuse s.data.toList) := by unfold Dk.append; rw [if_pos hr]
    have HDEF := Lib.hid hdef
    generalize hR : D.refuse s.data.toList = R at *
    have HRR := Lib.hid hR
    have hne : (R != 0) = true := by rw [bne_iff_ne]; exact hr
    clear hr hR hdef
    unfold boxes3 Bx at *
    clear hxF hlt hx hxW h
    go_enter Try.func20, Try.ntmps20
    go_wp2_with (go_at_call 57; refine (refuses_at _ d mb av fbs D hW s hs).mono ?_; rintro e w' ⟨rfl, rfl⟩; rw [HRR.out])
    go_ret
    rw [HDEF.out]
    exact Acted.same hDD eW _
end Go.Proofs.Ytnppneilbkmnfaa
