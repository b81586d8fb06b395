/- The walk of the law DiskSurvives: it returns true, and no older memory turns. Condition: the arguments can be read. -/
import Derived.Test.YtnppneilbkmnfaaZG
namespace Go.Proofs.Ytnppneilbkmnfaa
open Go.RowKit

theorem tell_off {D : Dk} (h : D.off = true) : D.tell = [] := by unfold Dk.tell; rw [h]; rfl
theorem tell_fs {D : Dk} (h : D.off = false) : D.tell = D.fs := by unfold Dk.tell; rw [h]; rfl
theorem told_in {D : Dk} (h : D.out = false) (keep : List Int) (junk : UInt8) : D.told keep junk = imgOf D.fs keep junk := by unfold Dk.told; rw [h]; rfl
theorem told_out {D : Dk} (h : D.out = true) (keep : List Int) (junk : UInt8) : D.told keep junk = [] := by unfold Dk.told; rw [h]; rfl
theorem crash_in {D : Dk} (h : D.out = false) : D.crash = (D.shut, 0) := by unfold Dk.crash; rw [h]; rfl
theorem crash_out {D : Dk} (h : D.out = true) : D.crash = (D, 63) := by unfold Dk.crash; rw [h]; rfl
theorem does_shut (D : Dk) (o : OpD) (B : List UInt8) : D.shut.does o B = (D.shut, if (1 ≤ o.K ∧ o.K ≤ 5) ∨ o.K = 11 then 63 else 0) := does_off rfl o B
theorem life_shut_does (w0 w : World) (d : Nat) (D : Dk) (hL : Life w0 w d D.shut) (x : OpI) (ho : OpOk w0 x.o x.B x.ks) (hc : D.calls ≤ 1099511627776) (ha : D.arms.length ≤ 1099511627776) (hb : x.B.length ≤ 1048576) (hk : 1 ≤ x.o.K ∧ x.o.K ≤ 5) :
    Calls Try.prog 25 #[.pointer (some ⟨d, 0, none⟩), .agg #[.int .i64 x.o.K, .int .i64 x.o.who, .string x.o.s, .slice x.o.dx x.o.dn x.o.dc, .int .i64 x.o.N, .int .i64 x.o.t0, .int .i64 x.o.t1, .bool x.o.t2, .slice x.o.kx x.o.kn x.o.kc, .int .u8 x.o.junk]] w fun e w' => e = .returned (.int .i64 63) ∧ Life w0 w' d D.shut := by
  have h := does_op w0 w d D.shut hL x ho hc ha (by omega)
  rw [does_shut, if_pos (.inl hk)] at h
  exact h

theorem life_on_b {w0 w : World} {d : Nat} {D : Dk} (h : Life w0 w d D) {b : Bool} (hb : D.off = b) : Calls Try.prog 21 #[.pointer (some ⟨d, 0, none⟩)] w fun e w' => e = .returned (.bool (!b)) ∧ w = w' := by
  rw [← hb]
  exact life_on h
theorem life_crash_out {w0 w : World} {d : Nat} {D : Dk} (hL : Life w0 w d D) (ho : D.out = true) (kv : Value) (junk : Int) :
    Calls Try.prog 23 #[.pointer (some ⟨d, 0, none⟩), kv, .int .u8 junk] w fun e w' => e = .returned (.tuple #[.agg #[.slice none 0 0], .int .i64 63]) ∧ Life w0 w' d D := by
  obtain ⟨F, hD, hF, hE⟩ := hL
  exact (crash_out_m w d D F hD kv junk ho).mono fun e w' h => ⟨h.1, Life.ext ⟨F, hD, hF, hE⟩ h.2⟩
theorem life_tells_off {w0 w : World} {d : Nat} {D : Dk} (hL : Life w0 w d D) (ho : D.off = true) :
    Calls Try.prog 34 #[.pointer (some ⟨d, 0, none⟩)] w fun e w' => ∃ ta tc, e = .returned (.tuple #[.slice ta 0 tc, .bool true]) ∧ Ext Nil w w' := by
  refine (life_tells hL).mono ?_
  rintro e w2 ⟨tv, tl, rfl, hT, htl, e2, -⟩
  obtain ⟨ta, tc, rfl, -⟩ := hT.shape
  have htn : tl.length = 0 := by
    have := congrArg List.length htl
    rw [tell_off ho] at this
    simpa using this
  exact ⟨ta, tc, by rw [htn], e2⟩
theorem shut_facts (D : Dk) : D.shut.off = true ∧ D.shut.out = true := ⟨rfl, rfl⟩
set_option maxRecDepth 20000 in
set_option maxHeartbeats 4000000 in
theorem survives_any (w : World) (lim : Int) (m : Bool) (v : Value) (I : List FI) (hI : ImgR w v I) (sv : Value) (L : List OpI) (hS : ScrR w sv L) (kv : Value) (keep : List Int) (hk : Reads w 1 kv keep.length (keep.map (.int .i64 ·))) (hkl : ∀ k, inFoot kv k → k < w.heap.size) (junk : UInt8) :
    Calls Try.prog 8 #[.agg #[.int .i64 lim, .bool m, v], sv, kv, .int .u8 junk.toNat] w fun e w' => e = .returned (.bool true) ∧ Ext Nil w w' := by
  obtain ⟨-, ao, cap, rfl, -, -, -⟩ := hI.row
  obtain ⟨as_, cs, rfl, hs1, hs2⟩ := hS.shape
  obtain ⟨W, hW⟩ : ∃ W, W = w.alloc (.cells #[.int .i64 lim, .bool m, .slice ao I.length cap] 44 (0, 0)) := ⟨_, rfl⟩
  have eW : Ext Nil w W := by rw [hW]; exact (Ext.refl _ _).alloc _
  have hLv := lives_m W lim m _ I (hI.ext eW fun _ _ h => h)
  rw [hW] at hLv
  have HLV := Lib.hid hLv; have HE := Lib.hid eW; have HS := Lib.hid (hS.ext0 eW); have HKE := Lib.hid (hk.ext eW fun _ _ h => h); have HKL := Lib.hid (fun k h => Nat.lt_of_lt_of_le (hkl k h) eW.size)
  have hfew := hS.few
  unfold maxLen at hs2
  clear hLv eW hS hk hkl hI
  go_enter Try.func8, Try.ntmps8
  go_wp2_with (go_at_call 24; refine (HLV.out).mono ?_; rintro e w1 ⟨d, rfl, hL1⟩)
  rw [← hW] at hL1
  have hcalm := livesD_calm lim m I
  generalize livesD lim m I = D0 at *
  have HL1 := Lib.hid hL1; have HC := Lib.hid hcalm
  clear hW HLV hL1 hcalm
  go_loopw [11] (fun i wr => ∃ (k : Nat) (D : Dk), i = .int .i64 (k : Int) ∧ k ≤ L.length ∧ Life W wr d D ∧ D.calls ≤ k ∧ D.arms.length ≤ k ∧ D.out = false) (fun i _ => L.length - (intOf i).toNat)
  case atStart => exact ⟨0, D0, rfl, Nat.zero_le _, HL1.out, by rw [HC.out.2.2.1]; exact Nat.le_refl _, by rw [HC.out.2.2.2]; exact Nat.le_refl _, HC.out.2.1⟩
  case round =>
    obtain ⟨k, D, rfl, hk, hL, hc, ha, hout⟩ := hrel
    by_cases hlt : k < L.length
    · obtain ⟨x, hx⟩ : ∃ x, L[k]? = some x := ⟨_, List.getElem?_eq_getElem hlt⟩
      have hxm := List.mem_of_getElem? hx
      obtain ⟨bs, os, rfl, hbl, q0, q1, q2, q3, q4, q5, q6, q7, q8, q9⟩ := (HS.out.ext0 hL.world).cells hx
      have hdo := does_op W wr d D hL x (HS.out.ok x hxm) (by omega) (by omega) (by have := (HS.out.small x hxm).1; omega)
      have hgr := does_grows D x.o x.B
      have HDO := Lib.hid hdo; have HGR := Lib.hid hgr; have HOUT := Lib.hid hout
      clear hdo hgr hL hxm hx hout
      go_wp2_with (first
        | (go_at_call 25; refine (HDO.out).mono ?_; rintro e w3 ⟨rfl, hL3⟩; have HL3 := Lib.hid hL3; clear hL3))
      refine ⟨⟨k + 1, (D.does x.o x.B).1, by go_num, by omega, HL3.out, by have := HGR.out.1; omega, by have := HGR.out.2.1; omega, by rw [HGR.out.2.2.1]; exact HOUT.out⟩, by simp [intOf]; omega⟩
    · cases ho : D.off
      · have hoff : D.off = false := ho
        have hs0 := shut_facts D
        have HOFF := Lib.hid hoff; have HOUT := Lib.hid hout; have HL := Lib.hid hL; have HSH := Lib.hid hs0; have HCA := Lib.hid (And.intro hc ha)
        have hnot : ¬ (k : Int) < (L.length : Int) := by omega
        clear hoff hout hL hs0 ho hc ha hlt
        go_wp2_with (first
          | (go_at_call 21; refine (life_on_b HL.out HOFF.out).mono ?_; rintro e w' ⟨rfl, rfl⟩)
          | (go_at_call 34; refine (life_tells HL.out).mono ?_; rintro e w2 ⟨tv, tl, rfl, hT, htl, e2, hnew⟩; obtain ⟨ta, tc, rfl, ht1, ht2⟩ := hT.shape; have hL2 := HL.out.ext e2; have hdl := HL.out.lt; have HT := Lib.hid hT; have HTL := Lib.hid htl; have HL2 := Lib.hid hL2; have HNW := Lib.hid hnew; have HDL := Lib.hid hdl; clear hT htl hL2 hnew hdl)
          | (go_at_call 23; refine (life_crash HL2.out (HKE.out.ext HL2.out.world fun _ _ h => h) HKL.out junk).mono ?_; rintro e w3 ⟨iv, il, rfl, hp, hO, hin, hL3, e3⟩; rw [crash_in HOUT.out] at hL3 ⊢; rw [told_in HOUT.out] at hp; have HP := Lib.hid hp; have HO := Lib.hid hO; have HL3 := Lib.hid hL3; have HE3 := Lib.hid e3; obtain ⟨ia, ic, rfl, -⟩ := hO.see.shape; clear hp hO hin hL3 e3)
          | (go_at_call 36; refine (survived_m _ _ _ _ tl il keep junk (Row.ext0 (HT.out.extF HE3.out fun k hk e => by have e : k = d := e; have := HNW.out k hk; have := HDL.out.2; omega) ((Ext.refl Nil w3).alloc _)) (HO.out.see.ext0 ((Ext.refl Nil w3).alloc _)) ((HKE.out.ext HL3.out.world fun _ _ h => h).ext ((Ext.refl Nil w3).alloc _) fun _ _ h => h) (by rw [HTL.out, tell_fs HOFF.out]; exact HP.out) (fun x hx => tell_file (life_wf HL.out) (by rw [← HTL.out]; exact List.mem_map_of_mem hx))).mono ?_; rintro e w4 ⟨rfl, e4⟩; have HL4 := Lib.hid ((HL3.out.ext ((Ext.refl Nil w3).alloc _)).ext e4); clear e4)
          | (go_at_call 21; refine (life_on_b (b := true) HL4.out rfl).mono ?_; rintro e w' ⟨rfl, rfl⟩)
          | (go_at_call 18; refine (num_any _ _).mono ?_; rintro e w' ⟨rfl, rfl⟩))
        have HLF := Lib.hid HL4.out
        clear HT HTL HNW HDL HL2 HP HO HL3 HE3 HL HOUT HOFF e2 HL4
        go_loopw [16] (fun i wr => ∃ (k : Nat), i = .int .i64 (k : Int) ∧ k ≤ L.length ∧ Life W wr d D.shut) (fun i _ => L.length - (intOf i).toNat)
        case atStart => exact ⟨0, rfl, Nat.zero_le _, HLF.out⟩
        case round =>
          obtain ⟨j, rfl, hj, hL⟩ := hrel
          by_cases hlt : j < L.length
          · obtain ⟨x, hx⟩ : ∃ x, L[j]? = some x := ⟨_, List.getElem?_eq_getElem hlt⟩
            have hxm := List.mem_of_getElem? hx
            obtain ⟨bs, os, rfl, hbl, q0, q1, q2, q3, q4, q5, q6, q7, q8, q9⟩ := (HS.out.ext0 hL.world).cells hx
            have HL := Lib.hid hL
            by_cases hK : 1 ≤ x.o.K ∧ x.o.K ≤ 5
            · have hdo := life_shut_does W wr d D hL x (HS.out.ok x hxm) (by have := HCA.out.1; omega) (by have := HCA.out.2; omega) ((HS.out.small x hxm).1) hK
              obtain ⟨hK1, hK2⟩ := hK
              have HDO := Lib.hid hdo
              clear hdo hL hxm hx
              go_wp2_with (first
                | (go_at_call 25; refine (HDO.out).mono ?_; rintro e w5 ⟨rfl, hL5⟩; have HL5 := Lib.hid hL5; clear hL5)
                | (go_at_call 18; refine (num_any _ _).mono ?_; rintro e w' ⟨rfl, rfl⟩))
              exact ⟨⟨j + 1, by go_num, by omega, HL5.out⟩, by simp [intOf]; omega⟩
            · by_cases hK1 : 1 ≤ x.o.K
              · have hK2 : ¬ x.o.K ≤ 5 := fun h => hK ⟨hK1, h⟩
                clear hK hL hxm hx
                go_wp2_with fail
                exact ⟨⟨j + 1, by go_num, by omega, HL.out⟩, by simp [intOf]; omega⟩
              · clear hK hL hxm hx
                go_wp2_with fail
                exact ⟨⟨j + 1, by go_num, by omega, HL.out⟩, by simp [intOf]; omega⟩
          · have hnot2 : ¬ (j : Int) < (L.length : Int) := by omega
            have HL := Lib.hid hL
            clear hL hlt
            go_wp2_with (first
              | (go_at_call 23; refine (life_crash_out HL.out rfl kv junk.toNat).mono ?_; rintro e w6 ⟨rfl, hL6⟩; have HL6 := Lib.hid (hL6.ext ((Ext.refl Nil w6).alloc (.cells #[.slice none 0 0] 36 (0, 0)))); have im6 := (At.new w6 [.slice none 0 0] 36).cell 0 rfl; clear hL6)
              | (go_at_call 29; refine (life_read HL6.out ⟨#[97]⟩ (by decide)).mono ?_; rintro e w7 ⟨ra, rc, rfl, -, S7⟩; rw [seek_off (D := D.shut) rfl]; have HL7 := Lib.hid (HL6.out.ext S7.1); have im7 := S7.1.cell im6 fun h => h; clear S7 im6)
              | (go_at_call 37; refine (life_names HL7.out).mono ?_; rintro e w8 ⟨na, nc, rfl, -, S8⟩; have hnn : D.shut.names.length = 0 := rfl; rw [hnn]; have HL8 := Lib.hid (HL7.out.ext S8.1); clear S8 hnn)
              | (go_at_call 18; refine (num_any _ _).mono ?_; rintro e w' ⟨rfl, rfl⟩))
            go_ret
            exact ⟨rfl, HE.out.same HL8.out.world⟩
      · have hoff : D.off = true := ho
        have hs0 := shut_facts D
        have HOFF := Lib.hid hoff; have HOUT := Lib.hid hout; have HL := Lib.hid hL; have HSH := Lib.hid hs0; have HCA := Lib.hid (And.intro hc ha)
        have hnot : ¬ (k : Int) < (L.length : Int) := by omega
        clear hoff hout hL hs0 ho hc ha hlt
        go_wp2_with (first
          | (go_at_call 21; refine (life_on_b HL.out HOFF.out).mono ?_; rintro e w' ⟨rfl, rfl⟩)
          | (go_at_call 34; refine (life_tells_off HL.out HOFF.out).mono ?_; rintro e w2 ⟨ta, tc, rfl, e2⟩; have hL2 := HL.out.ext e2; have HL2 := Lib.hid hL2; clear hL2)
          | (go_at_call 23; refine (life_crash HL2.out (HKE.out.ext HL2.out.world fun _ _ h => h) HKL.out junk).mono ?_; rintro e w3 ⟨iv, il, rfl, hp, hO, hin, hL3, e3⟩; rw [crash_in HOUT.out] at hL3 ⊢; rw [told_in HOUT.out] at hp; have HP := Lib.hid hp; have HO := Lib.hid hO; have HL3 := Lib.hid hL3; have HE3 := Lib.hid e3; obtain ⟨ia, ic, rfl, -⟩ := hO.see.shape; clear hp hO hin hL3 e3)
          | (go_at_call 36; refine (survived_m _ _ _ _ tl il keep junk (Row.ext0 (HT.out.extF HE3.out fun k hk e => by have e : k = d := e; have := HNW.out k hk; have := HDL.out.2; omega) ((Ext.refl Nil w3).alloc _)) (HO.out.see.ext0 ((Ext.refl Nil w3).alloc _)) ((HKE.out.ext HL3.out.world fun _ _ h => h).ext ((Ext.refl Nil w3).alloc _) fun _ _ h => h) (by rw [HTL.out, tell_fs HOFF.out]; exact HP.out) (fun x hx => tell_file (life_wf HL.out) (by rw [← HTL.out]; exact List.mem_map_of_mem hx))).mono ?_; rintro e w4 ⟨rfl, e4⟩; have HL4 := Lib.hid ((HL3.out.ext ((Ext.refl Nil w3).alloc _)).ext e4); clear e4)
          | (go_at_call 21; refine (life_on_b (b := true) (HL3.out.ext ((Ext.refl Nil w3).alloc _)) rfl).mono ?_; rintro e w' ⟨rfl, rfl⟩)
          | (go_at_call 18; refine (num_any _ _).mono ?_; rintro e w' ⟨rfl, rfl⟩))
        have HLF := Lib.hid (HL3.out.ext ((Ext.refl Nil w3).alloc (.cells #[.slice ia il.length ic] 36 (0, 0))))
        clear HL2 HP HO HL3 HE3 HL HOUT HOFF e2 
        go_loopw [16] (fun i wr => ∃ (k : Nat), i = .int .i64 (k : Int) ∧ k ≤ L.length ∧ Life W wr d D.shut) (fun i _ => L.length - (intOf i).toNat)
        case atStart => exact ⟨0, rfl, Nat.zero_le _, HLF.out⟩
        case round =>
          obtain ⟨j, rfl, hj, hL⟩ := hrel
          by_cases hlt : j < L.length
          · obtain ⟨x, hx⟩ : ∃ x, L[j]? = some x := ⟨_, List.getElem?_eq_getElem hlt⟩
            have hxm := List.mem_of_getElem? hx
            obtain ⟨bs, os, rfl, hbl, q0, q1, q2, q3, q4, q5, q6, q7, q8, q9⟩ := (HS.out.ext0 hL.world).cells hx
            have HL := Lib.hid hL
            by_cases hK : 1 ≤ x.o.K ∧ x.o.K ≤ 5
            · have hdo := life_shut_does W wr d D hL x (HS.out.ok x hxm) (by have := HCA.out.1; omega) (by have := HCA.out.2; omega) ((HS.out.small x hxm).1) hK
              obtain ⟨hK1, hK2⟩ := hK
              have HDO := Lib.hid hdo
              clear hdo hL hxm hx
              go_wp2_with (first
                | (go_at_call 25; refine (HDO.out).mono ?_; rintro e w5 ⟨rfl, hL5⟩; have HL5 := Lib.hid hL5; clear hL5)
                | (go_at_call 18; refine (num_any _ _).mono ?_; rintro e w' ⟨rfl, rfl⟩))
              exact ⟨⟨j + 1, by go_num, by omega, HL5.out⟩, by simp [intOf]; omega⟩
            · by_cases hK1 : 1 ≤ x.o.K
              · have hK2 : ¬ x.o.K ≤ 5 := fun h => hK ⟨hK1, h⟩
                clear hK hL hxm hx
                go_wp2_with fail
                exact ⟨⟨j + 1, by go_num, by omega, HL.out⟩, by simp [intOf]; omega⟩
              · clear hK hL hxm hx
                go_wp2_with fail
                exact ⟨⟨j + 1, by go_num, by omega, HL.out⟩, by simp [intOf]; omega⟩
          · have hnot2 : ¬ (j : Int) < (L.length : Int) := by omega
            have HL := Lib.hid hL
            clear hL hlt
            go_wp2_with (first
              | (go_at_call 23; refine (life_crash_out HL.out rfl kv junk.toNat).mono ?_; rintro e w6 ⟨rfl, hL6⟩; have HL6 := Lib.hid (hL6.ext ((Ext.refl Nil w6).alloc (.cells #[.slice none 0 0] 36 (0, 0)))); have im6 := (At.new w6 [.slice none 0 0] 36).cell 0 rfl; clear hL6)
              | (go_at_call 29; refine (life_read HL6.out ⟨#[97]⟩ (by decide)).mono ?_; rintro e w7 ⟨ra, rc, rfl, -, S7⟩; rw [seek_off (D := D.shut) rfl]; have HL7 := Lib.hid (HL6.out.ext S7.1); have im7 := S7.1.cell im6 fun h => h; clear S7 im6)
              | (go_at_call 37; refine (life_names HL7.out).mono ?_; rintro e w8 ⟨na, nc, rfl, -, S8⟩; have hnn : D.shut.names.length = 0 := rfl; rw [hnn]; have HL8 := Lib.hid (HL7.out.ext S8.1); clear S8 hnn)
              | (go_at_call 18; refine (num_any _ _).mono ?_; rintro e w' ⟨rfl, rfl⟩))
            go_ret
            exact ⟨rfl, HE.out.same HL8.out.world⟩
end Go.Proofs.Ytnppneilbkmnfaa
