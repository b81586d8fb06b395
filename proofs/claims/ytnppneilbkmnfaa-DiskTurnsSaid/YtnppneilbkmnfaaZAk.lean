/- The contracts of the laws' alike (of two disks that tell the same) and crashed. Condition: the disks stand apart. -/
import Derived.Test.YtnppneilbkmnfaaZTw
import Derived.Deep.RegionHeld3
namespace Go.Proofs.Ytnppneilbkmnfaa
open Go.RowKit

theorem two_tells (W w : World) (a b : Nat) (A B : Dk) (h : Two W w a A b B) :
    Calls Try.prog 34 #[.pointer (some ⟨a, 0, none⟩)] w fun e w' => ∃ v l, e = .returned (.tuple #[v, .bool true]) ∧ Row kTell w' v l ∧ l.map TI.f = A.tell ∧ Ext Nil w w' :=
  (life_tells h.first).mono fun _ _ ⟨v, l, h1, h2, h3, h4, _⟩ => ⟨v, l, h1, h2, h3, h4⟩

set_option maxRecDepth 20000 in
set_option maxHeartbeats 2000000 in
theorem alike_m (W w : World) (a b : Nat) (A B : Dk) (h : Two W w a A b B) (hfs : A.fs = B.fs) (hoff : A.off = B.off) :
    Calls Try.prog 26 #[.pointer (some ⟨a, 0, none⟩), .pointer (some ⟨b, 0, none⟩)] w fun e w' => e = .returned (.bool true) ∧ Ext Nil w w' := by
  have ht : B.tell = A.tell := by unfold Dk.tell; rw [hfs, hoff]
  have hwf := life_wf h.first
  obtain ⟨o, ho⟩ : ∃ o, o = A.off := ⟨_, rfl⟩
  have hoB : B.off = o := by rw [ho, hoff]
  have H := Lib.hid h; have HT := Lib.hid ht; have HO := Lib.hid ho.symm; have HOB := Lib.hid hoB; have HWF := Lib.hid hwf
  have hbb : (!o != !o) = false := by cases o <;> rfl
  have hbo : (o != o) = false := by cases o <;> rfl
  clear h ht ho hoB hwf hfs hoff
  go_enter Try.func26, Try.ntmps26
  go_wp2_with (first
    | (have hy := e1; go_at_call 34; clear hy; refine (two_tells _ _ _ _ _ _ (H.out.ext0 e1).swap).mono ?_; rintro e w2 ⟨v2, l2, rfl, hR2, hl2, e2⟩; obtain ⟨a2, c2, rfl, h21, h22⟩ := hR2.shape; rw [HT.out] at hl2; have hln : l2.length = l1.length := (by have h5 := congrArg List.length hl2; have h6 := congrArg List.length HL1.out; simp only [List.length_map] at h5 h6; omega); rw [hln] at hR2 h21 ⊢; have HR2 := Lib.hid hR2; have HL2 := Lib.hid hl2; have HLN := Lib.hid hln; have HR1 := Lib.hid (HR0.out.ext0 e2); have HE2 := Lib.hid (e1.same e2); have HW2 := Lib.hid (H.out.ext0 (e1.same e2)); clear hR2 hl2 hln e1 e2 HR0; have mk1 : True := trivial)
    | (go_at_call 34; refine (two_tells _ _ _ _ _ _ H.out).mono ?_; rintro e w1 ⟨v1, l1, rfl, hR1, hl1, e1⟩; obtain ⟨a1, c1, rfl, h11, h12⟩ := hR1.shape; have HR0 := Lib.hid hR1; have HL1 := Lib.hid hl1; clear hR1 hl1)
    | (have hy := mk1; go_at_call 21; clear hy mk1; refine (life_on_b HW2.out.first HO.out).mono ?_; rintro e w' ⟨rfl, rfl⟩)
    | (go_at_call 21; refine (life_on_b HW2.out.second HOB.out).mono ?_; rintro e w' ⟨rfl, rfl⟩))
  have hlen : l1.length ≤ 65536 := by
    have h6 := congrArg List.length HL1.out
    have h7 := tell_len HWF.out
    simp only [List.length_map] at h6
    omega
  go_loopw [9] (fun i wr => ∃ k : Nat, k ≤ l1.length ∧ i = .int .i64 k ∧ ∃ n, wr = w2.drewN n) (fun i _ => l1.length - (intOf i).toNat)
  case atStart => exact ⟨0, Nat.zero_le _, rfl, 0, rfl⟩
  case round =>
    obtain ⟨k, hk, rfl, n, rfl⟩ := hrel
    by_cases hlt : k < l1.length
    · obtain ⟨x, hx⟩ : ∃ x, l1[k]? = some x := ⟨_, List.getElem?_eq_getElem hlt⟩
      obtain ⟨y, hy⟩ : ∃ y, l2[k]? = some y := ⟨_, List.getElem?_eq_getElem (by have := HLN.out; omega)⟩
      have hf : y.f = x.f := by
        have h1 : (l1.map TI.f)[k]? = some x.f := by rw [List.getElem?_map, hx]; rfl
        have h2 : (l2.map TI.f)[k]? = some y.f := by rw [List.getElem?_map, hy]; rfl
        rw [HL1.out] at h1
        rw [HL2.out, h1] at h2
        exact (Option.some.inj h2).symm
      obtain ⟨g1, d1, hg1, -⟩ := HR1.out.open (fun x _ => rfl) (by omega) (show 0 < 3 by omega)
      obtain ⟨g2, d2, hg2, -⟩ := HR2.out.open (fun x _ => rfl) (by have := HLN.out; omega) (show 0 < 3 by omega)
      simp only [Value.slice.injEq] at hg1 hg2
      obtain ⟨rfl, -, rfl⟩ := hg1
      obtain ⟨rfl, -, rfl⟩ := hg2
      obtain ⟨bx, cx, -, x0, x1, x2, hgx, hxB, -⟩ := HR1.out.cell3 hx
      obtain ⟨by_, cy, -, y0, y1, y2, hgy, hyB, -⟩ := HR2.out.cell3 hy
      have s1 := fun n => to_str (w2.drewN n) _ _ (hxB.drewN n)
      have s2 := fun n => to_str (w2.drewN n) _ _ (hyB.drewN n)
      rw [hf] at y0 y1 y2 s2
      have hnb : (x.f.nm == x.f.nm) = true := by simp
      have hbq : (x.f.b == x.f.b) = true := by simp
      have hsn : (x.f.sy != x.f.sy) = false := by simp
      have hsy : ((x.f.sy : Int) != (x.f.sy : Int)) = false := by simp
      clear hxB hyB hx hy hf
      go_wp2_with fail
      go_quiet (fail)
      go_wp2_with fail
      exact ⟨⟨k + 1, by omega, by go_num, _, rfl⟩, by simp [intOf]; omega⟩
    · have hnot : ¬ (k : Int) < (l1.length : Int) := by omega
      clear hlt
      go_wp2_with fail
      go_ret
      exact ⟨rfl, HE2.out.drewN _⟩

set_option maxRecDepth 20000 in
set_option maxHeartbeats 2000000 in
theorem crashed_m (w : World) (d : Nat) (D : Dk) (F : Nat → Prop) (hD : Disk w d D F) (ho : D.out = false) :
    Calls Try.prog 55 #[.pointer (some ⟨d, 0, none⟩)] w fun e w' => ∃ v l, e = .returned (.tuple #[.agg #[v], .bool true]) ∧ l.map FI.pair = imgOf D.fs [] 0 ∧ ImgO w' v l ∧ (∀ k ∈ ibl v l, w.heap.size ≤ k) ∧ Disk w' d D.shut F ∧ Ext (One d) w w' := by
  have eW : Ext Nil w (w.alloc (.cells #[.slice none 0 0] 36 (0, 0))) := (Ext.refl _ _).alloc _
  have aW := At.new w [.slice none 0 0] 36
  have hC := crash_m _ d D F (hD.ext eW fun _ _ h => h) (.slice none 0 0) [] ⟨rfl, none, 0, rfl, Nat.le_refl _, by simp [maxLen], fun h => absurd rfl h⟩ (by simp [inFoot, foot]) 0
  have HC := Lib.hid hC; have HO := Lib.hid ho; have HEW := Lib.hid eW; have HAW := Lib.hid aW; have HD := Lib.hid hD
  clear hC ho eW aW hD
  go_enter Try.func55, Try.ntmps55
  go_wp2_with (go_at_call 23; refine (HC.out).mono ?_; rintro e w1 ⟨v, l, rfl, h⟩; rw [crash_in HO.out]; obtain ⟨sa, sc, rfl, -⟩ := h.own.see.shape; have HH := Lib.hid h; clear h)
  have eX : Ext Nil w1 (w1.alloc (.cells #[.slice sa l.length sc] 36 (0, 0))) := (Ext.refl _ _).alloc _
  have b4 := (At.new w1 [.slice sa l.length sc] 36).cell 0 rfl
  have hdl := HD.out.lt d HD.out.self
  have a2 := (HAW.out.ext HH.out.ext (by show ¬ w.heap.size = d; omega)).ext eX fun h => h
  have f2 := a2.frozen 0
  have c2 := a2.cell 0 rfl
  have ares := (a2.set 0 (.slice sa l.length sc)).cell 0 rfl
  have hsz : w.heap.size < w1.heap.size := Nat.lt_of_lt_of_le (by simp) HH.out.ext.size
  have HA2 := Lib.hid a2; have HEX := Lib.hid eX; have HRES := Lib.hid ares
  clear a2 eX ares
  generalize w1.alloc (.cells #[.slice sa l.length sc] 36 (0, 0)) = X at *
  have b4d : X.drew.cell? ⟨w1.heap.size, 0, none⟩ = some (.slice sa l.length sc) := b4
  go_region_held3 (fun w' => w'.cell? ⟨w1.heap.size, 0, none⟩ = some (.slice sa l.length sc))
    (first
      | exact b4d
      | exact (World.cell?_setCell_other _ _ _ _ (by intro e; simp only [Addr.mk.injEq, and_true] at e; omega)).trans b4d)
    (first
      | (go_at_call 18; refine (num_any _ _).mono ?_; rintro e w' ⟨rfl, rfl⟩))
  go_wp2_with fail
  refine bodyPost_ret (results_image rfl _ (b := w.heap.size) (v := .slice sa l.length sc) rfl (show World.cell? (X.setCell ⟨w.heap.size, 0, none⟩ (.slice sa l.length sc)).drew ⟨w.heap.size, 0, none⟩ = _ from HRES.out) (agg_image _) (size_image _)) rfl ?_
  have eF : Ext (One w.heap.size) w1 (X.setCell ⟨w.heap.size, 0, none⟩ (.slice sa l.length sc)).drew := (Ext.setCell (F := One w.heap.size) (HEX.out.mono fun _ _ h => h.elim) (p := ⟨w.heap.size, 0, none⟩) (fun _ => rfl) (.slice sa l.length sc)).drew
  have hnew := HH.out.new
  have hsW : (w.alloc (.cells #[.slice none 0 0] 36 (0, 0))).heap.size = w.heap.size + 1 := by simp
  refine ⟨_, l, rfl, by have := HH.out.pairs; rw [told_in HO.out] at this; exact this, HH.out.own.ext eF fun k hk e => ?_, fun k hk => ?_, ?_, ?_⟩
  · have e : k = w.heap.size := e
    have := hnew k hk
    omega
  · have := hnew k hk
    omega
  · have hd := HH.out.disk
    rw [crash_in HO.out] at hd
    exact hd.ext eF fun k hk e => by have e : k = w.heap.size := e; have := HD.out.lt k hk; omega
  · exact (((HEW.out.mono fun _ _ h => h.elim).same HH.out.ext)).trans eF fun i hi e => by have e : i = w.heap.size := e; omega
end Go.Proofs.Ytnppneilbkmnfaa
