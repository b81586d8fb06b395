/- Contracts: the closures of the disk's Replace and Cut. Conditions: the disk stands, the boxes lie elsewhere; what is laid down fits. -/
import Derived.Test.YtnppneilbkmnfaaDf
namespace Go.Proofs.Ytnppneilbkmnfaa
open Go.RowKit

theorem Bytes.take {w : World} {ao : Option Addr} {n cap : Nat} {l : List UInt8} (h : Bytes w (.slice ao n cap) l) (k : Nat) (hk : k ≤ l.length) : Bytes w (.slice ao k cap) (l.take k) := by
  obtain ⟨ao', cap', e, h1, h2, h3⟩ := h.open
  simp only [Value.slice.injEq] at e
  obtain ⟨rfl, rfl, rfl⟩ := e
  have hlen : (l.take k).length = k := by simp; omega
  refine ⟨by rw [bvs_length, Nat.mul_one], _, cap, by rw [hlen], by rw [hlen]; omega, h2, fun hne => ?_⟩
  have hl : l ≠ [] := fun e => hne (by subst e; simp [bvs])
  obtain ⟨b, off, rfl, hc⟩ := h3 hl
  refine ⟨b, off, rfl, fun j u hj => ?_⟩
  have hj' : j < k := by
    have := (List.getElem?_eq_some_iff.1 hj).1
    simp [bvs] at this
    omega
  rw [hc j (by omega), ← hj]
  simp [bvs, bv, hj', show j < l.length by omega]
/-- a box that holds v -/
def Bx (w : World) (p : Nat) (v : Value) : Prop := w.cell? ⟨p, 0, none⟩ = some v

set_option maxRecDepth 20000 in
set_option maxHeartbeats 1000000 in
theorem replace_do (w : World) (d mb : Nat) (av : Value) (fbs : List FB) (D : Dk) (h : DAt w d mb av fbs D) (pd pn pb : Nat) (s : ByteArray) (hs : s.size ≤ maxLen) (x : Value) (b : List UInt8) (hd : Bx w pd (.pointer (some ⟨d, 0, none⟩))) (hn : Bx w pn (.string s)) (hb : Bx w pb x) (hx : Bytes w x b)
    (hpd : pd ∉ dbl d mb av fbs) (hpn : pn ∉ dbl d mb av fbs) (hpb : pb ∉ dbl d mb av fbs) (hnm : nmOk s.data.toList = true) (hroom : D.room s.data.toList b.length = true) (hbl : b.length ≤ 1099511627776) :
    Calls Try.prog 88 #[.pointer (some ⟨pd, 0, none⟩), .pointer (some ⟨pn, 0, none⟩), .pointer (some ⟨pb, 0, none⟩)] w (Did w d mb av fbs (D.put ⟨s.data.toList, b, b.length⟩)) := by
  obtain ⟨ao, cap, rfl, hcap, hcm, -⟩ := hx.open
  have hd' : w.cell? ⟨pd, 0, none⟩ = some (.pointer (some ⟨d, 0, none⟩)) := hd
  have hn' : w.cell? ⟨pn, 0, none⟩ = some (.string s) := hn
  have hb' : w.cell? ⟨pb, 0, none⟩ = some (.slice ao b.length cap) := hb
  go_enter Try.func88, Try.ntmps88
  go_wp2_with fail
  refine wp_region_held_drew (S := fun w' => w'.cell? ⟨pd, 0, none⟩ = some (.pointer (some ⟨d, 0, none⟩)) ∧ w'.cell? ⟨pn, 0, none⟩ = some (.string s) ∧ w'.cell? ⟨pb, 0, none⟩ = some (.slice ao b.length cap)) (by kernel_rfl) ⟨hd', hn', hb'⟩ (fun hHeld => ?_)
  refine wpAnyH_take (i := 0) (v := .pointer (some ⟨d, 0, none⟩)) rfl (by kernel_rfl) (by kernel_rfl) (by kernel_rfl) (fun _ _ _ h => h) (Or.inl ⟨by rfl, ?y1⟩) (by assumption) ?r1
  case y1 => (intro w hSw; obtain ⟨s1, s2, s3⟩ := hSw; go_simp)
  simp only [Act.put]
  refine wpAnyH_take (i := 1) (v := .string s) rfl (by kernel_rfl) (by kernel_rfl) (by kernel_rfl) (fun _ _ _ h => h) (Or.inl ⟨by rfl, ?y2⟩) (by assumption) ?r2
  case y2 => (intro w hSw; obtain ⟨s1, s2, s3⟩ := hSw; go_simp)
  simp only [Act.put]
  refine wpAnyH_take (i := 2) (v := .slice ao b.length cap) rfl (by kernel_rfl) (by kernel_rfl) (by kernel_rfl) (fun _ _ _ h => h) (Or.inl ⟨by rfl, ?y3⟩) (by assumption) ?r3
  case y3 => (intro w hSw; obtain ⟨s1, s2, s3⟩ := hSw; go_simp)
  simp only [Act.put]
  refine wpAnyH_take (i := 4) (v := .slice ao b.length cap) rfl (by kernel_rfl) (by kernel_rfl) (by kernel_rfl) (fun _ _ _ h => h) (Or.inl ⟨by rfl, ?y4⟩) (by assumption) ?r4
  case y4 => (intro w hSw; obtain ⟨s1, s2, s3⟩ := hSw; go_simp)
  simp only [Act.put]
  refine wpAnyH_take (i := 5) (v := .int .i64 b.length) rfl (by kernel_rfl) (by kernel_rfl) (by kernel_rfl) (fun _ _ _ h => h) (Or.inl ⟨by rfl, ?y5⟩) (by assumption) ?r5
  case y5 => (intro w hSw; obtain ⟨s1, s2, s3⟩ := hSw; go_simp)
  simp only [Act.put]
  refine wpAnyH_ready (rs := [3]) (by kernel_rfl) (by simp) (AllReadyH.cons rfl (fun K hK => ?_) AllReadyH.nil)
  go_simp
  refine (clone_any w.drew _ b (hx.ext (Ext.refl Nil w).drew fun _ _ h => h) (by unfold Fits; omega)).mono ?_
  rintro e w1 ⟨ao2, cap2, hc2, hm2, rfl, O2, S2⟩
  have S2 : Step Nil w _ w1 := ⟨((Ext.refl Nil w).drew).same S2.1, S2.2⟩
  go_wp2_with fail
  refine hK.out _ _ ⟨S2.1.cell hd' fun h => h, S2.1.cell hn' fun h => h, S2.1.cell hb' fun h => h⟩ (fun hHeld => ?_)
  clear hK K
  refine wpAnyH_ready (rs := [6]) (by kernel_rfl) (by simp) (AllReadyH.cons rfl (fun K hK => ?_) AllReadyH.nil)
  go_simp
  refine (put_at w w1 d mb av fbs D h S2.1 s hs _ b O2 (fun k hk => (S2.2 k hk).resolve_left fun h => h) b.length (Nat.le_refl _) hnm hroom (hbl)).mono ?_
  rintro e w2 ⟨rfl, fbs', h2, S3⟩
  go_wp2_with fail
  refine hK.out _ _ ⟨S3.1.cell hd' hpd, S3.1.cell hn' hpn, S3.1.cell hb' hpb⟩ (fun hHeld => ?_)
  clear hK K
  refine wpAnyH_done (by kernel_rfl) ?_ _
  go_wp2_with fail
  go_end0
  exact ⟨rfl, fbs', h2, S3⟩

theorem clone_q (w : World) (x : Value) (ys : List UInt8) (hx : Bytes w x ys) {n : Nat} (hl : ys.length = n) (hfit : Fits n) :
    Calls Try.prog 63 #[x] w fun e w' => ∃ ao cap, n ≤ cap ∧ cap ≤ maxLen ∧ e = .returned (.slice ao n cap) ∧ OwnB w' (.slice ao n cap) ys ∧ Step Nil w (inFoot (.slice ao n cap)) w' := by
  subst hl
  exact clone_any w x ys hx hfit

set_option maxRecDepth 20000 in
set_option maxHeartbeats 1000000 in
theorem cut_do (w : World) (d mb : Nat) (av : Value) (fbs : List FB) (D : Dk) (h : DAt w d mb av fbs D) (pd pn pf pk : Nat) (s : ByteArray) (hs : s.size ≤ maxLen) (x : FB) (hf : findK FB.nm s.data.toList fbs = some x) (n : Nat) (hn1 : n ≤ x.f.b.length)
    (hd : Bx w pd (.pointer (some ⟨d, 0, none⟩))) (hn : Bx w pn (.string s)) (hb : Bx w pf (.pointer (some ⟨x.blk, 0, none⟩))) (hk : Bx w pk (.int .i64 n))
    (hpd : pd ∉ dbl d mb av fbs) (hpn : pn ∉ dbl d mb av fbs) (hpf : pf ∉ dbl d mb av fbs) (hpk : pk ∉ dbl d mb av fbs) (hnm : nmOk s.data.toList = true) :
    Calls Try.prog 95 #[.pointer (some ⟨pd, 0, none⟩), .pointer (some ⟨pn, 0, none⟩), .pointer (some ⟨pf, 0, none⟩), .pointer (some ⟨pk, 0, none⟩)] w (Did w d mb av fbs (D.put ⟨s.data.toList, x.f.b.take n, n⟩)) := by
  have hx := h.files x (findK_some _ hf).1
  obtain ⟨ao, cap, hv, hcap, hcm⟩ := hx.2.shape
  have f0 := hx.1.cell 0 rfl
  have hB := hx.2.bytes
  rw [hv] at f0 hB
  have hfd := h.find s.data.toList
  rw [hf] at hfd
  have hmem := (findK_some _ hfd).1
  have hbl : x.f.b.length ≤ 1073741824 := by have := sumF_mem hmem; have := h.wf.used; have := h.wf.lim1; omega
  have htl : (x.f.b.take n).length = n := by rw [List.length_take]; omega
  have hroom : D.room s.data.toList (x.f.b.take n).length = true := by
    refine Dk.room_spec.2 ⟨?_, .inl (by rw [hfd]; rfl)⟩
    rw [Dk.size_some hfd, htl]
    have : D.used ≤ D.lim := h.wf.used
    show D.used + n ≤ D.lim + x.f.b.length
    omega
  have hd' : w.cell? ⟨pd, 0, none⟩ = some (.pointer (some ⟨d, 0, none⟩)) := hd
  have hn' : w.cell? ⟨pn, 0, none⟩ = some (.string s) := hn
  have hb' : w.cell? ⟨pf, 0, none⟩ = some (.pointer (some ⟨x.blk, 0, none⟩)) := hb
  have hk' : w.cell? ⟨pk, 0, none⟩ = some (.int .i64 n) := hk
  have hB2 := hB.take n hn1
  have HTL := Lib.hid htl
  have hi1 : (n : Int) ≤ x.f.b.length := by omega
  have hi2 : n ≤ cap := by omega
  clear htl hv hB hx hfd
  generalize x.f.b = b at *
  go_enter Try.func95, Try.ntmps95
  go_wp2_with fail
  refine wp_region_held_drew (S := fun w' => w'.cell? ⟨pd, 0, none⟩ = some (.pointer (some ⟨d, 0, none⟩)) ∧ w'.cell? ⟨pn, 0, none⟩ = some (.string s) ∧ w'.cell? ⟨pf, 0, none⟩ = some (.pointer (some ⟨x.blk, 0, none⟩)) ∧ w'.cell? ⟨pk, 0, none⟩ = some (.int .i64 n)) (by kernel_rfl) ⟨hd', hn', hb', hk'⟩ (fun hHeld => ?_)
  refine wpAnyH_take (i := 0) (v := .pointer (some ⟨d, 0, none⟩)) rfl (by kernel_rfl) (by kernel_rfl) (by kernel_rfl) (fun _ _ _ h => h) (Or.inl ⟨by rfl, ?y6⟩) (by assumption) ?r6
  case y6 => (intro w hSw; obtain ⟨s1, s2, s3, s4⟩ := hSw; go_simp)
  simp only [Act.put]
  refine wpAnyH_take (i := 1) (v := .string s) rfl (by kernel_rfl) (by kernel_rfl) (by kernel_rfl) (fun _ _ _ h => h) (Or.inl ⟨by rfl, ?y7⟩) (by assumption) ?r7
  case y7 => (intro w hSw; obtain ⟨s1, s2, s3, s4⟩ := hSw; go_simp)
  simp only [Act.put]
  refine wpAnyH_take (i := 2) (v := .pointer (some ⟨x.blk, 0, none⟩)) rfl (by kernel_rfl) (by kernel_rfl) (by kernel_rfl) (fun _ _ _ h => h) (Or.inl ⟨by rfl, ?y8⟩) (by assumption) ?r8
  case y8 => (intro w hSw; obtain ⟨s1, s2, s3, s4⟩ := hSw; go_simp)
  simp only [Act.put]
  refine wpAnyH_take (i := 3) (v := .pointer (some ⟨x.blk, 0, none⟩)) rfl (by kernel_rfl) (by kernel_rfl) (by kernel_rfl) (fun _ _ _ h => h) (Or.inl ⟨by rfl, ?y9⟩) (by assumption) ?r9
  case y9 => (intro w hSw; obtain ⟨s1, s2, s3, s4⟩ := hSw; go_simp)
  simp only [Act.put]
  refine wpAnyH_take (i := 4) (v := .pointer (some ⟨x.blk, 0, none⟩)) rfl (by kernel_rfl) (by kernel_rfl) (by kernel_rfl) (fun _ _ _ h => h) (Or.inl ⟨by rfl, ?y10⟩) (by assumption) ?r10
  case y10 => (intro w hSw; obtain ⟨s1, s2, s3, s4⟩ := hSw; go_simp)
  simp only [Act.put]
  refine wpAnyH_take (i := 6) (v := .int .i64 n) rfl (by kernel_rfl) (by kernel_rfl) (by kernel_rfl) (fun _ _ _ h => h) (Or.inl ⟨by rfl, ?y11⟩) (by assumption) ?r11
  case y11 => (intro w hSw; obtain ⟨s1, s2, s3, s4⟩ := hSw; go_simp)
  simp only [Act.put]
  refine wpAnyH_take (i := 9) (v := .int .i64 n) rfl (by kernel_rfl) (by kernel_rfl) (by kernel_rfl) (fun _ _ _ h => h) (Or.inl ⟨by rfl, ?y12⟩) (by assumption) ?r12
  case y12 => (intro w hSw; obtain ⟨s1, s2, s3, s4⟩ := hSw; go_simp)
  simp only [Act.put]
  refine wpAnyH_ready (rs := [5]) (by kernel_rfl) (by simp) (AllReadyH.cons rfl (fun K hK => ?_) AllReadyH.nil)
  go_simp
  refine hK.out _ _ ⟨hd', hn', hb', hk'⟩ (fun hHeld => ?_)
  clear hK K
  refine wpAnyH_ready (rs := [7]) (by kernel_rfl) (by simp) (AllReadyH.cons rfl (fun K hK => ?_) AllReadyH.nil)
  go_simp
  refine hK.out _ _ ⟨hd', hn', hb', hk'⟩ (fun hHeld => ?_)
  clear hK K
  refine wpAnyH_ready (rs := [8]) (by kernel_rfl) (by simp) (AllReadyH.cons rfl (fun K hK => ?_) AllReadyH.nil)
  go_simp
  refine (clone_q w.drew _ (b.take n) (hB2.ext (Ext.refl Nil w).drew fun _ _ h => h) HTL.out (by unfold Fits; omega)).mono ?_
  rintro e w1 ⟨ao2, cap2, hc2, hm2, rfl, O2, S2⟩
  have S2 : Step Nil w _ w1 := ⟨((Ext.refl Nil w).drew).same S2.1, S2.2⟩
  go_wp2_with fail
  refine hK.out _ _ ⟨S2.1.cell hd' fun h => h, S2.1.cell hn' fun h => h, S2.1.cell hb' fun h => h, S2.1.cell hk' fun h => h⟩ (fun hHeld => ?_)
  clear hK K
  refine wpAnyH_ready (rs := [10]) (by kernel_rfl) (by simp) (AllReadyH.cons rfl (fun K hK => ?_) AllReadyH.nil)
  go_simp
  refine (put_at w w1 d mb av fbs D h S2.1 s hs _ (b.take n) O2 (fun k hk => (S2.2 k hk).resolve_left fun h => h) n (by rw [HTL.out]; exact Nat.le_refl _) hnm hroom (by rw [HTL.out]; omega)).mono ?_
  rintro e w2 ⟨rfl, fbs', h2, S3⟩
  go_wp2_with fail
  refine hK.out _ _ ⟨S3.1.cell hd' hpd, S3.1.cell hn' hpn, S3.1.cell hb' hpf, S3.1.cell hk' hpk⟩ (fun hHeld => ?_)
  clear hK K
  refine wpAnyH_done (by kernel_rfl) ?_ _
  go_wp2_with fail
  go_end0
  exact ⟨rfl, fbs', h2, S3⟩
end Go.Proofs.Ytnppneilbkmnfaa
