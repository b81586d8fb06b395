/- The walk of the law DiskWhole: it returns true, and no older memory turns. Condition: the arguments can be read. -/
import Derived.Test.YtnppneilbkmnfaaZFa
namespace Go.Proofs.Ytnppneilbkmnfaa
open Go.RowKit

theorem ext_set {W w : World} (e : Ext Nil W w) (p i : Nat) (u : Value) : Ext Nil (W.setCell ⟨p, i, none⟩ u) (w.setCell ⟨p, i, none⟩ u) := by
  refine ⟨e.os, e.tape, e.output, by simpa [World.setCell] using e.size, fun k hk _ => ?_⟩
  have hk : k < W.heap.size := by simpa [World.setCell] using hk
  have h := e.block k hk fun h => h
  simp only [World.setCell, Array.getElem?_modify]
  rw [h]
theorem two_set {W w : World} {a b : Nat} {A B : Dk} (h : Two W w a A b B) {p : Nat} (hp : p < W.heap.size) (i : Nat) (u : Value) : Two (W.setCell ⟨p, i, none⟩ u) (w.setCell ⟨p, i, none⟩ u) a A b B := by
  obtain ⟨F, G, h1, h2, h3, h4, h5, h6⟩ := h
  have e : Ext (One p) w (w.setCell ⟨p, i, none⟩ u) := (Ext.refl (One p) w).setCell (p := ⟨p, i, none⟩) (fun _ => rfl) u
  have hs : (W.setCell ⟨p, i, none⟩ u).heap.size = W.heap.size := by simp [World.setCell]
  exact ⟨F, G, h1.ext e fun k hk e => by have e : k = p := e; have := h4 k hk; omega, h2.ext e fun k hk e => by have e : k = p := e; have := h5 k hk; omega, h3, fun k hk => by rw [hs]; exact h4 k hk, fun k hk => by rw [hs]; exact h5 k hk, ext_set h6 p i u⟩
theorem opOk_kind {w : World} {o : OpD} {B : List UInt8} {ks : List Int} (h : OpOk w o B ks) (k : Int) : OpOk w { o with K := k } B ks := ⟨h.name, h.dn, h.data, h.dlt, h.kn, h.keep, h.klt, h.junk⟩
theorem once_calls (D : Dk) (k : Int) (f : Bool) : (D.once k f).calls = D.calls := rfl
theorem two_crashed {W w : World} {a b : Nat} {A B : Dk} (h : Two W w a A b B) (hA : A.out = false) : Calls Try.prog 55 #[.pointer (some ⟨a, 0, none⟩)] w fun e w' => ∃ v l, e = .returned (.tuple #[.agg #[v], .bool true]) ∧ l.map FI.pair = imgOf A.fs [] 0 ∧ ImgO w' v l ∧ (∀ k ∈ ibl v l, w.heap.size ≤ k) ∧ Two W w' a A.shut b B ∧ Ext (One a) w w' := by
  obtain ⟨F, G, h1, h2, h3, h4, h5, h6⟩ := h
  refine (crashed_m w a A F h1 hA).mono ?_
  rintro e w' ⟨v, l, rfl, hp, hO, hn, hD, hE⟩
  have ha := h1.self
  exact ⟨v, l, rfl, hp, hO, hn, ⟨F, G, hD, h2.ext hE fun k hg e => h3 k (by have e : k = a := e; rw [e]; exact ha) hg, h3, h4, h5, h6.trans hE fun i hi e => by have e : i = a := e; have := h4 a ha; omega⟩, hE⟩

set_option maxRecDepth 20000 in
set_option maxHeartbeats 4000000 in
theorem whole_any (w : World) (lim : Int) (m : Bool) (v : Value) (I : List FI) (hI : ImgR w v I) (sv : Value) (L : List OpI) (hS : ScrR w sv L) (o : OpD) (B : List UInt8) (ks : List Int) (ho : OpOk w o B ks) (hB : B.length ≤ 1048576) (done : Bool) :
    Calls Try.prog 16 #[.agg #[.int .i64 lim, .bool m, v], sv, .agg #[.int .i64 o.K, .int .i64 o.who, .string o.s, .slice o.dx o.dn o.dc, .int .i64 o.N, .int .i64 o.t0, .int .i64 o.t1, .bool o.t2, .slice o.kx o.kn o.kc, .int .u8 o.junk], .bool done] w fun e w' => e = .returned (.bool true) ∧ Ext Nil w w' := by
  obtain ⟨-, ao, cap, rfl, -, -, -⟩ := hI.row
  obtain ⟨as_, cs, rfl, hs1, hs2⟩ := hS.shape
  have e1 : Ext Nil w (w.alloc (.cells #[.int .i64 lim, .bool m, .slice ao I.length cap] 44 (0, 0))) := (Ext.refl _ _).alloc _
  have a1 := At.new w [.int .i64 lim, .bool m, .slice ao I.length cap] 44
  have s1 : (w.alloc (.cells #[.int .i64 lim, .bool m, .slice ao I.length cap] 44 (0, 0))).heap.size = w.heap.size + 1 := by simp
  have a2 := At.new (w.alloc (.cells #[.int .i64 lim, .bool m, .slice ao I.length cap] 44 (0, 0))) [.int .i64 o.K, .int .i64 o.who, .string o.s, .slice o.dx o.dn o.dc, .int .i64 o.N, .int .i64 o.t0, .int .i64 o.t1, .bool o.t2, .slice o.kx o.kn o.kc, .int .u8 o.junk] 47
  rw [s1] at a2
  obtain ⟨W, hW⟩ : ∃ W, W = (w.alloc (.cells #[.int .i64 lim, .bool m, .slice ao I.length cap] 44 (0, 0))).alloc (.cells #[.int .i64 o.K, .int .i64 o.who, .string o.s, .slice o.dx o.dn o.dc, .int .i64 o.N, .int .i64 o.t0, .int .i64 o.t1, .bool o.t2, .slice o.kx o.kn o.kc, .int .u8 o.junk] 47 (0, 0)) := ⟨_, rfl⟩
  have eW : Ext Nil w W := by rw [hW]; exact e1.alloc _
  have AM : At W w.heap.size 44 [.int .i64 lim, .bool m, .slice ao I.length cap] := by rw [hW]; exact a1.alloc _
  have AO : At W (w.heap.size + 1) 47 [.int .i64 o.K, .int .i64 o.who, .string o.s, .slice o.dx o.dn o.dc, .int .i64 o.N, .int .i64 o.t0, .int .i64 o.t1, .bool o.t2, .slice o.kx o.kn o.kc, .int .u8 o.junk] := by rw [hW]; exact a2
  have hfew := hS.few
  unfold maxLen at hs2
  have HI := Lib.hid (hI.ext eW fun _ _ h => h); have HE := Lib.hid eW; have HS := Lib.hid (hS.ext0 eW); have HAM := Lib.hid AM; have HAO := Lib.hid AO; have HOK := Lib.hid (ho.ext0 eW); have HOW := Lib.hid ho
  have m0 := AM.cell 0 rfl
  have m1 := AM.cell 1 rfl
  have m2 := AM.cell 2 rfl
  clear eW AM AO hS hI ho e1 a1 s1 a2
  go_enter Try.func16, Try.ntmps16
  go_wp2_with fail
  rw [← hW]
  clear hW
  go_wp2_with (first
    | (have hy := mk; go_at_call 24; clear hy mk; refine (lives_m _ lim m _ I (HI.out.ext HL1.out.world fun _ _ h => h)).mono ?_; rintro e w2 ⟨b, rfl, hL2⟩; have HT0 := Lib.hid (Two.make HL1.out hL2); clear hL2 n0 n1 n2)
    | (go_at_call 24; refine (lives_m W lim m _ I HI.out).mono ?_; rintro e w1 ⟨a, rfl, hL1⟩; have n0 := hL1.world.cell m0 fun h => h; have n1 := hL1.world.cell m1 fun h => h; have n2 := hL1.world.cell m2 fun h => h; have HL1 := Lib.hid hL1; clear hL1 m0 m1 m2; have mk : True := trivial))
  have hcalm := livesD_calm lim m I
  generalize livesD lim m I = D0 at *
  have HC := Lib.hid hcalm
  clear HL1 hcalm
  go_loopw [13] (fun i wr => ∃ (k : Nat) (D : Dk), i = .int .i64 (k : Int) ∧ k ≤ L.length ∧ Two W wr a D b D ∧ D.calls ≤ k ∧ D.arms = [] ∧ D.off = false ∧ D.out = false) (fun i _ => L.length - (intOf i).toNat)
  case atStart => exact ⟨0, D0, rfl, Nat.zero_le _, HT0.out, by rw [HC.out.2.2.1]; exact Nat.le_refl _, HC.out.2.2.2, HC.out.1, HC.out.2.1⟩
  case round =>
    obtain ⟨k, D, rfl, hk, hT, hc, harms, hoff, hout⟩ := hrel
    by_cases hlt : k < L.length
    · obtain ⟨x, hx⟩ : ∃ x, L[k]? = some x := ⟨_, List.getElem?_eq_getElem hlt⟩
      have hxm := List.mem_of_getElem? hx
      obtain ⟨bs, os, rfl, hbl, Q0, Q1, Q2, Q3, Q4, Q5, Q6, Q7, Q8, Q9⟩ := HS.out.cells hx
      have HQ := Lib.hid (show _ ∧ _ ∧ _ ∧ _ ∧ _ ∧ _ ∧ _ ∧ _ ∧ _ ∧ _ from ⟨Q0, Q1, Q2, Q3, Q4, Q5, Q6, Q7, Q8, Q9⟩)
      have q0 := hT.world.cell Q0 fun h => h
      by_cases hK : x.o.K = 11
      · rw [hK] at q0
        have HT := Lib.hid hT; have HF := Lib.hid (And.intro harms (And.intro hoff hout))
        clear hT harms hoff hout hK hx hxm Q0 Q1 Q2 Q3 Q4 Q5 Q6 Q7 Q8 Q9
        go_wp2_with fail
        exact ⟨⟨k + 1, D, by go_num, by omega, HT.out, by omega, HF.out.1, HF.out.2.1, HF.out.2.2⟩, by simp [intOf]; omega⟩
      · have hkb : (x.o.K != 11) = true := by rw [bne_iff_ne]; exact hK
        have q1 := hT.world.cell Q1 fun h => h
        have q2 := hT.world.cell Q2 fun h => h
        have q3 := hT.world.cell Q3 fun h => h
        have q4 := hT.world.cell Q4 fun h => h
        have q5 := hT.world.cell Q5 fun h => h
        have q6 := hT.world.cell Q6 fun h => h
        have q7 := hT.world.cell Q7 fun h => h
        have q8 := hT.world.cell Q8 fun h => h
        have q9 := hT.world.cell Q9 fun h => h
        have hok := HS.out.ok x hxm
        have hsm := (HS.out.small x hxm).1
        have hcd := calm_does harms hoff x.o x.B hK
        have hd1 := two_does W wr a b D D hT x hok (by omega) (by rw [harms]; simp) (by omega)
        have HD1 := Lib.hid hd1; have HCD := Lib.hid hcd; have HOKX := Lib.hid hok; have HA := Lib.hid (show D.arms.length ≤ 1099511627776 by rw [harms]; simp)
        have HF := Lib.hid hout
        clear hd1 hcd hok hT harms hoff hout hK hx hxm Q0 Q1 Q2 Q3 Q4 Q5 Q6 Q7 Q8 Q9
        go_wp2_with (first
          | (have hy := mk; go_at_call 25; clear hy mk; refine (two_does W w3 b a D _ HT3.out.swap x HOKX.out (by omega) HA.out (by omega)).mono ?_; rintro e w4 ⟨rfl, hT4⟩; have HT4 := Lib.hid hT4.swap; clear hT4)
          | (go_at_call 25; refine (HD1.out).mono ?_; rintro e w3 ⟨rfl, hT3⟩; have HT3 := Lib.hid hT3; clear q0 q1 q2 q3 q4 q5 q6 q7 q8 q9; obtain ⟨Q0, Q1, Q2, Q3, Q4, Q5, Q6, Q7, Q8, Q9⟩ := HQ.out; have q0 := hT3.world.cell Q0 fun h => h; have q1 := hT3.world.cell Q1 fun h => h; have q2 := hT3.world.cell Q2 fun h => h; have q3 := hT3.world.cell Q3 fun h => h; have q4 := hT3.world.cell Q4 fun h => h; have q5 := hT3.world.cell Q5 fun h => h; have q6 := hT3.world.cell Q6 fun h => h; have q7 := hT3.world.cell Q7 fun h => h; have q8 := hT3.world.cell Q8 fun h => h; have q9 := hT3.world.cell Q9 fun h => h; clear Q0 Q1 Q2 Q3 Q4 Q5 Q6 Q7 Q8 Q9; clear hT3; have mk : True := trivial))
        exact ⟨⟨k + 1, _, by go_num, by omega, HT4.out, by have := HCD.out.2.2.2; omega, HCD.out.1, HCD.out.2.1, by rw [HCD.out.2.2.1]; exact HF.out⟩, by simp [intOf]; omega⟩
    · have hnot : ¬ (k : Int) < (L.length : Int) := by omega
      have hc2 : D.calls ≤ 1048576 := by omega
      have hA1 := arm_once harms hoff 2 done (.inr rfl)
      have HA1 := Lib.hid hA1; have HT := Lib.hid hT; have HARM := Lib.hid harms; have HOFF := Lib.hid hoff; have HOUT := Lib.hid hout
      clear hA1 hT harms hoff hout hlt
      have hpW : w.heap.size + 1 < W.heap.size := HAO.out.lt
      have z0 := (HAO.out.ext HT.out.world fun h => h).cell 0 rfl
      by_cases hK : o.K < 3 ∨ 5 < o.K
      · have hz0 := (HAO.out.ext HT.out.world fun h => h).frozen 0
        have HT2 := Lib.hid (two_set HT.out hpW 0 (.int .i64 3))
        have HAO2 := Lib.hid (HAO.out.set 0 (.int .i64 3))
        have HE2 := Lib.hid (HE.out.setCell (p := ⟨w.heap.size + 1, 0, none⟩) (fun h => absurd h (by simp)) (.int .i64 3))
        have HOK2 : Hid (OpOk (W.setCell ⟨w.heap.size + 1, 0, none⟩ (.int .i64 3)) { o with K := 3 } B ks) := Lib.hid ((opOk_kind HOW.out 3).ext0 HE2.out)
        have hK' : 1 ≤ ({ o with K := 3 } : OpD).K ∧ ({ o with K := 3 } : OpD).K ≤ 5 := ⟨by simp, by simp⟩
        rcases hK with hK1 | hK2
        · cases done
          · have hra := once_power D false { o with K := 3 } B hK'
            have hrb := does_calm HARM.out { o with K := 3 } B (by have := hK'.2; omega)
            rw [if_pos hK'] at hrb
            by_cases hr : D.asks { o with K := 3 } B = 0
            · rw [if_neg (by omega)] at hra
              have HRA := Lib.hid hra
              clear hra hrb hr hK'
              obtain ⟨N1, hN1⟩ : ∃ N1, N1 = D.calls + 1 := ⟨_, rfl⟩
              have hne : ((N1 : Int) == (D.calls : Int)) = false := by rw [beq_eq_false_iff_ne]; omega
              have hnn : (N1 == D.calls) = false := by rw [beq_eq_false_iff_ne]; omega
              have HN1 := Lib.hid hN1
              clear hN1
              go_wp2_with (first
                | (have hy := mk3; go_at_call 55; clear hy mk3; refine (two_crashed HT7.out.swap HOUT.out).mono ?_; rintro e w8 ⟨v8, l8, rfl, hp8, hO8, hn8, hT8, e8⟩; obtain ⟨p8, q8, rfl, -⟩ := hO8.see.shape; have hb8 := HT7.out.second.lt; have i8 := e8.cell i7 (fun e => by have e : w7.heap.size = b := e; have := HLB.out; omega); have HP8 := Lib.hid hp8; have HO8 := Lib.hid (hO8.ext ((Ext.refl Nil w8).alloc (.cells #[.slice p8 l8.length q8] 36 (0, 0))) fun _ _ h => h); have HX8 := Lib.hid ((HO7.out.ext e8 fun k hk e => by have e : k = b := e; have := HN7.out k hk; have := HLB.out; omega).ext ((Ext.refl Nil w8).alloc (.cells #[.slice p8 l8.length q8] 36 (0, 0))) fun _ _ h => h); have HE8 := Lib.hid (hT8.swap.world.alloc (.cells #[.slice p8 l8.length q8] 36 (0, 0))); have l8s := (cell_spot i8).2; have hne8 : ¬ w7.heap.size = w8.heap.size := (by have l8s : w7.heap.size < w8.heap.size := l8s; omega); have k8 := (At.new w8 [.slice p8 l8.length q8] 36).cell 0 rfl; clear hp8 hO8 hn8 hT8 e8 i7 hb8)
                | (have hy := HT5; go_at_call 55; clear hy; refine (two_crashed HT5.out HOUT.out).mono ?_; rintro e w7 ⟨v7, l7, rfl, hp7, hO7, hn7, hT7, e7⟩; obtain ⟨p7, q7, rfl, -⟩ := hO7.see.shape; have hlb := HT5.out.second.lt.2; have hsz7 := e7.size; have HLB := Lib.hid (Nat.lt_of_lt_of_le hlb hsz7); have HP7 := Lib.hid hp7; have HN7 := Lib.hid (fun k (hk : k ∈ ibl _ _) => Nat.lt_of_lt_of_le hlb (hn7 k hk)); have HO7 := Lib.hid (hO7.ext ((Ext.refl Nil w7).alloc (.cells #[.slice p7 l7.length q7] 36 (0, 0))) fun _ _ h => h); have HT7 := Lib.hid (hT7.ext0 ((Ext.refl Nil w7).alloc (.cells #[.slice p7 l7.length q7] 36 (0, 0)))); have i7 := (At.new w7 [.slice p7 l7.length q7] 36).cell 0 rfl; clear hp7 hO7 hn7 hT7 e7 hlb hsz7; have mk3 : True := trivial)
                | (go_at_call 35; refine (sameImage_m _ _ _ l7 l8 HX8.out.see HO8.out.see).mono ?_; rintro e w9 ⟨rfl, e9⟩; have hz : decide (l7.map FI.pair = l8.map FI.pair) = true := decide_eq_true (by rw [HP7.out, HP8.out]; first | rfl | simp); rw [hz]; have HE9 := Lib.hid (HE8.out.same e9); clear e9 hz)
                | (go_at_call 21; refine (two_on HT5.out (o := true) rfl).mono ?_; rintro e w' ⟨rfl, rfl⟩)
                | (have hy := mk0; go_at_call 22; clear hy mk0; refine (two_calls_n HT5.out (n := N1) HN1.out.symm).mono ?_; rintro e w' ⟨rfl, rfl⟩)
                | (go_at_call 22; refine (two_calls HT2.out).mono ?_; rintro e w' ⟨rfl, rfl⟩)
                | (go_at_call 19; refine (two_arm (W.setCell ⟨w.heap.size + 1, 0, none⟩ (.int .i64 3)) _ a b D D HT2.out (by omega) (by rw [HARM.out]; simp) 1 2 false).mono ?_; rintro e w4 ⟨rfl, hT4⟩; rw [HA1.out] at hT4 ⊢; have z0 := (HAO2.out.ext (hT4.world) fun h => h).cell 0 rfl; have z1 := (HAO2.out.ext (hT4.world) fun h => h).cell 1 rfl; have z2 := (HAO2.out.ext (hT4.world) fun h => h).cell 2 rfl; have z3 := (HAO2.out.ext (hT4.world) fun h => h).cell 3 rfl; have z4 := (HAO2.out.ext (hT4.world) fun h => h).cell 4 rfl; have z5 := (HAO2.out.ext (hT4.world) fun h => h).cell 5 rfl; have z6 := (HAO2.out.ext (hT4.world) fun h => h).cell 6 rfl; have z7 := (HAO2.out.ext (hT4.world) fun h => h).cell 7 rfl; have z8 := (HAO2.out.ext (hT4.world) fun h => h).cell 8 rfl; have z9 := (HAO2.out.ext (hT4.world) fun h => h).cell 9 rfl; have HT4 := Lib.hid hT4; clear hT4)
                | (go_at_call 25; refine (two_does (W.setCell ⟨w.heap.size + 1, 0, none⟩ (.int .i64 3)) _ a b (D.once 2 false) D HT4.out ⟨{ o with K := 3 }, B, ks⟩ HOK2.out (show D.calls ≤ _ by omega) (by simp [Dk.once]) (show B.length ≤ _ by omega)).mono ?_; rintro e w5 ⟨rfl, hT5⟩; rw [HRA.out] at hT5 ⊢; clear z0 z1 z2 z3 z4 z5 z6 z7 z8 z9; have z0 := (HAO2.out.ext (hT5.world) fun h => h).cell 0 rfl; have z1 := (HAO2.out.ext (hT5.world) fun h => h).cell 1 rfl; have z2 := (HAO2.out.ext (hT5.world) fun h => h).cell 2 rfl; have z3 := (HAO2.out.ext (hT5.world) fun h => h).cell 3 rfl; have z4 := (HAO2.out.ext (hT5.world) fun h => h).cell 4 rfl; have z5 := (HAO2.out.ext (hT5.world) fun h => h).cell 5 rfl; have z6 := (HAO2.out.ext (hT5.world) fun h => h).cell 6 rfl; have z7 := (HAO2.out.ext (hT5.world) fun h => h).cell 7 rfl; have z8 := (HAO2.out.ext (hT5.world) fun h => h).cell 8 rfl; have z9 := (HAO2.out.ext (hT5.world) fun h => h).cell 9 rfl; have HT5 := Lib.hid hT5; clear hT5; have mk0 : True := trivial)
                | (go_at_call 18; refine (num_any _ _).mono ?_; rintro e w' ⟨rfl, rfl⟩))
              go_ret
              exact ⟨rfl, HE2.out.same HE9.out⟩
            · rw [if_pos hr] at hra hrb
              have hr64 := (asks_on HOFF.out { o with K := 3 } B).1
              obtain ⟨r, hrr⟩ : ∃ r, r = D.asks { o with K := 3 } B := ⟨_, rfl⟩
              rw [← hrr] at hra hrb hr hr64
              have HRA := Lib.hid hra; have HRB := Lib.hid hrb
              have r0 : (r != 0) = true := by rw [bne_iff_ne]; exact hr
              have rr : (r == r) = true := by simp
              clear hra hrb hr hr64 hrr hK'
              go_wp2_with (first
                | (have hy := mk0; go_at_call 22; clear hy mk0; refine (two_calls_n HT5.out (n := D.calls) rfl).mono ?_; rintro e w' ⟨rfl, rfl⟩)
                | (go_at_call 22; refine (two_calls HT2.out).mono ?_; rintro e w' ⟨rfl, rfl⟩)
                | (go_at_call 19; refine (two_arm (W.setCell ⟨w.heap.size + 1, 0, none⟩ (.int .i64 3)) _ a b D D HT2.out (by omega) (by rw [HARM.out]; simp) 1 2 false).mono ?_; rintro e w4 ⟨rfl, hT4⟩; rw [HA1.out] at hT4 ⊢; have z0 := (HAO2.out.ext (hT4.world) fun h => h).cell 0 rfl; have z1 := (HAO2.out.ext (hT4.world) fun h => h).cell 1 rfl; have z2 := (HAO2.out.ext (hT4.world) fun h => h).cell 2 rfl; have z3 := (HAO2.out.ext (hT4.world) fun h => h).cell 3 rfl; have z4 := (HAO2.out.ext (hT4.world) fun h => h).cell 4 rfl; have z5 := (HAO2.out.ext (hT4.world) fun h => h).cell 5 rfl; have z6 := (HAO2.out.ext (hT4.world) fun h => h).cell 6 rfl; have z7 := (HAO2.out.ext (hT4.world) fun h => h).cell 7 rfl; have z8 := (HAO2.out.ext (hT4.world) fun h => h).cell 8 rfl; have z9 := (HAO2.out.ext (hT4.world) fun h => h).cell 9 rfl; have HT4 := Lib.hid hT4; clear hT4)
                | (go_at_call 25; refine (two_does (W.setCell ⟨w.heap.size + 1, 0, none⟩ (.int .i64 3)) _ a b (D.once 2 false) D HT4.out ⟨{ o with K := 3 }, B, ks⟩ HOK2.out (show D.calls ≤ _ by omega) (by simp [Dk.once]) (show B.length ≤ _ by omega)).mono ?_; rintro e w5 ⟨rfl, hT5⟩; rw [HRA.out] at hT5 ⊢; clear z0 z1 z2 z3 z4 z5 z6 z7 z8 z9; have z0 := (HAO2.out.ext (hT5.world) fun h => h).cell 0 rfl; have z1 := (HAO2.out.ext (hT5.world) fun h => h).cell 1 rfl; have z2 := (HAO2.out.ext (hT5.world) fun h => h).cell 2 rfl; have z3 := (HAO2.out.ext (hT5.world) fun h => h).cell 3 rfl; have z4 := (HAO2.out.ext (hT5.world) fun h => h).cell 4 rfl; have z5 := (HAO2.out.ext (hT5.world) fun h => h).cell 5 rfl; have z6 := (HAO2.out.ext (hT5.world) fun h => h).cell 6 rfl; have z7 := (HAO2.out.ext (hT5.world) fun h => h).cell 7 rfl; have z8 := (HAO2.out.ext (hT5.world) fun h => h).cell 8 rfl; have z9 := (HAO2.out.ext (hT5.world) fun h => h).cell 9 rfl; have HT5 := Lib.hid hT5; clear hT5; have mk0 : True := trivial)
                | (go_at_call 18; refine (num_any _ _).mono ?_; rintro e w' ⟨rfl, rfl⟩))
              have y := HAO2.out.ext HT5.out.world fun h => h
              go_region_held3 (fun w' => w'.cell? ⟨w.heap.size + 1, 0, none⟩ = some (.int .i64 3) ∧ w'.cell? ⟨w.heap.size + 1, 1, none⟩ = some (.int .i64 o.who) ∧ w'.cell? ⟨w.heap.size + 1, 2, none⟩ = some (.string o.s) ∧ w'.cell? ⟨w.heap.size + 1, 3, none⟩ = some (.slice o.dx o.dn o.dc) ∧ w'.cell? ⟨w.heap.size + 1, 4, none⟩ = some (.int .i64 o.N) ∧ w'.cell? ⟨w.heap.size + 1, 5, none⟩ = some (.int .i64 o.t0) ∧ w'.cell? ⟨w.heap.size + 1, 6, none⟩ = some (.int .i64 o.t1) ∧ w'.cell? ⟨w.heap.size + 1, 7, none⟩ = some (.bool o.t2) ∧ w'.cell? ⟨w.heap.size + 1, 8, none⟩ = some (.slice o.kx o.kn o.kc) ∧ w'.cell? ⟨w.heap.size + 1, 9, none⟩ = some (.int .u8 o.junk))
                (first
                  | exact ⟨z0, z1, z2, z3, z4, z5, z6, z7, z8, z9⟩
                  | exact ⟨((HAO2.out.ext HE6.out fun h => h)).cell 0 rfl, ((HAO2.out.ext HE6.out fun h => h)).cell 1 rfl, ((HAO2.out.ext HE6.out fun h => h)).cell 2 rfl, ((HAO2.out.ext HE6.out fun h => h)).cell 3 rfl, ((HAO2.out.ext HE6.out fun h => h)).cell 4 rfl, ((HAO2.out.ext HE6.out fun h => h)).cell 5 rfl, ((HAO2.out.ext HE6.out fun h => h)).cell 6 rfl, ((HAO2.out.ext HE6.out fun h => h)).cell 7 rfl, ((HAO2.out.ext HE6.out fun h => h)).cell 8 rfl, ((HAO2.out.ext HE6.out fun h => h)).cell 9 rfl⟩
                  | exact ⟨((HAO2.out.ext HE9.out fun h => h)).cell 0 rfl, ((HAO2.out.ext HE9.out fun h => h)).cell 1 rfl, ((HAO2.out.ext HE9.out fun h => h)).cell 2 rfl, ((HAO2.out.ext HE9.out fun h => h)).cell 3 rfl, ((HAO2.out.ext HE9.out fun h => h)).cell 4 rfl, ((HAO2.out.ext HE9.out fun h => h)).cell 5 rfl, ((HAO2.out.ext HE9.out fun h => h)).cell 6 rfl, ((HAO2.out.ext HE9.out fun h => h)).cell 7 rfl, ((HAO2.out.ext HE9.out fun h => h)).cell 8 rfl, ((HAO2.out.ext HE9.out fun h => h)).cell 9 rfl⟩)
                (first
                  | (go_at_call 18; refine (num_any _ _).mono ?_; rintro e w' ⟨rfl, rfl⟩)
                  | (go_at_call 21; refine (two_on (HT5.out.ext0 ((Ext.refl Nil w5).drew)) (o := false) HOFF.out).mono ?_; rintro e w' ⟨rfl, rfl⟩)
                  | (go_at_call 25; refine (two_does (W.setCell ⟨w.heap.size + 1, 0, none⟩ (.int .i64 3)) _ b a D _ (HT5.out.ext0 ((Ext.refl Nil w5).drew)).swap ⟨{ o with K := 3 }, B, ks⟩ HOK2.out (by omega) (by rw [HARM.out]; simp) (show B.length ≤ _ by omega)).mono ?_; rintro e w6 ⟨rfl, hT6⟩; rw [HRB.out] at hT6 ⊢; have HT6 := Lib.hid hT6.swap; have HE6 := Lib.hid hT6.world; clear hT6)
                  | (go_at_call 26; refine (alike_m (W.setCell ⟨w.heap.size + 1, 0, none⟩ (.int .i64 3)) _ a b (D.once 2 false) D HT6.out rfl rfl).mono ?_; rintro e w9 ⟨rfl, e9⟩; have HE9 := Lib.hid (HE6.out.same e9); clear e9))
              go_wp2_with fail
              go_ret
              exact ⟨rfl, HE2.out.same HE9.out⟩
          · have hra := once_power D true { o with K := 3 } B hK'
            have hrb := does_calm HARM.out { o with K := 3 } B (by have := hK'.2; omega)
            rw [if_pos hK'] at hrb
            by_cases hr : D.asks { o with K := 3 } B = 0
            · rw [if_neg (by omega)] at hra hrb
              have HRA := Lib.hid hra; have HRB := Lib.hid hrb
              clear hra hrb hr hK'
              obtain ⟨N1, hN1⟩ : ∃ N1, N1 = D.calls + 1 := ⟨_, rfl⟩
              have hne : ((N1 : Int) == (D.calls : Int)) = false := by rw [beq_eq_false_iff_ne]; omega
              have hnn : (N1 == D.calls) = false := by rw [beq_eq_false_iff_ne]; omega
              have HN1 := Lib.hid hN1
              clear hN1
              go_wp2_with (first
                | (have hy := mk3; go_at_call 55; clear hy mk3; refine (two_crashed HT7.out.swap HOUT.out).mono ?_; rintro e w8 ⟨v8, l8, rfl, hp8, hO8, hn8, hT8, e8⟩; obtain ⟨p8, q8, rfl, -⟩ := hO8.see.shape; have hb8 := HT7.out.second.lt; have i8 := e8.cell i7 (fun e => by have e : w7.heap.size = b := e; have := HLB.out; omega); have HP8 := Lib.hid hp8; have HO8 := Lib.hid (hO8.ext ((Ext.refl Nil w8).alloc (.cells #[.slice p8 l8.length q8] 36 (0, 0))) fun _ _ h => h); have HX8 := Lib.hid ((HO7.out.ext e8 fun k hk e => by have e : k = b := e; have := HN7.out k hk; have := HLB.out; omega).ext ((Ext.refl Nil w8).alloc (.cells #[.slice p8 l8.length q8] 36 (0, 0))) fun _ _ h => h); have HE8 := Lib.hid (hT8.swap.world.alloc (.cells #[.slice p8 l8.length q8] 36 (0, 0))); have l8s := (cell_spot i8).2; have hne8 : ¬ w7.heap.size = w8.heap.size := (by have l8s : w7.heap.size < w8.heap.size := l8s; omega); have k8 := (At.new w8 [.slice p8 l8.length q8] 36).cell 0 rfl; clear hp8 hO8 hn8 hT8 e8 i7 hb8)
                | (have hy := HT6; go_at_call 55; clear hy; refine (two_crashed HT6.out HOUT.out).mono ?_; rintro e w7 ⟨v7, l7, rfl, hp7, hO7, hn7, hT7, e7⟩; obtain ⟨p7, q7, rfl, -⟩ := hO7.see.shape; have hlb := HT6.out.second.lt.2; have hsz7 := e7.size; have HLB := Lib.hid (Nat.lt_of_lt_of_le hlb hsz7); have HP7 := Lib.hid hp7; have HN7 := Lib.hid (fun k (hk : k ∈ ibl _ _) => Nat.lt_of_lt_of_le hlb (hn7 k hk)); have HO7 := Lib.hid (hO7.ext ((Ext.refl Nil w7).alloc (.cells #[.slice p7 l7.length q7] 36 (0, 0))) fun _ _ h => h); have HT7 := Lib.hid (hT7.ext0 ((Ext.refl Nil w7).alloc (.cells #[.slice p7 l7.length q7] 36 (0, 0)))); have i7 := (At.new w7 [.slice p7 l7.length q7] 36).cell 0 rfl; clear hp7 hO7 hn7 hT7 e7 hlb hsz7; have mk3 : True := trivial)
                | (go_at_call 35; refine (sameImage_m _ _ _ l7 l8 HX8.out.see HO8.out.see).mono ?_; rintro e w9 ⟨rfl, e9⟩; have hz : decide (l7.map FI.pair = l8.map FI.pair) = true := decide_eq_true (by rw [HP7.out, HP8.out]; first | rfl | simp); rw [hz]; have HE9 := Lib.hid (HE8.out.same e9); clear e9 hz)
                | (go_at_call 21; refine (two_on HT5.out (o := true) rfl).mono ?_; rintro e w' ⟨rfl, rfl⟩)
                | (have hy := HT5; go_at_call 25; clear hy; refine (two_does (W.setCell ⟨w.heap.size + 1, 0, none⟩ (.int .i64 3)) _ b a D _ HT5.out.swap ⟨{ o with K := 3 }, B, ks⟩ HOK2.out (by omega) (by rw [HARM.out]; simp) (show B.length ≤ _ by omega)).mono ?_; rintro e w6 ⟨rfl, hT6⟩; rw [HRB.out] at hT6 ⊢; clear z0 z1 z2 z3 z4 z5 z6 z7 z8 z9; have HT6 := Lib.hid hT6.swap; clear hT6)
                | (have hy := mk0; go_at_call 22; clear hy mk0; refine (two_calls_n HT5.out (n := N1) HN1.out.symm).mono ?_; rintro e w' ⟨rfl, rfl⟩)
                | (go_at_call 22; refine (two_calls HT2.out).mono ?_; rintro e w' ⟨rfl, rfl⟩)
                | (go_at_call 19; refine (two_arm (W.setCell ⟨w.heap.size + 1, 0, none⟩ (.int .i64 3)) _ a b D D HT2.out (by omega) (by rw [HARM.out]; simp) 1 2 true).mono ?_; rintro e w4 ⟨rfl, hT4⟩; rw [HA1.out] at hT4 ⊢; have z0 := (HAO2.out.ext (hT4.world) fun h => h).cell 0 rfl; have z1 := (HAO2.out.ext (hT4.world) fun h => h).cell 1 rfl; have z2 := (HAO2.out.ext (hT4.world) fun h => h).cell 2 rfl; have z3 := (HAO2.out.ext (hT4.world) fun h => h).cell 3 rfl; have z4 := (HAO2.out.ext (hT4.world) fun h => h).cell 4 rfl; have z5 := (HAO2.out.ext (hT4.world) fun h => h).cell 5 rfl; have z6 := (HAO2.out.ext (hT4.world) fun h => h).cell 6 rfl; have z7 := (HAO2.out.ext (hT4.world) fun h => h).cell 7 rfl; have z8 := (HAO2.out.ext (hT4.world) fun h => h).cell 8 rfl; have z9 := (HAO2.out.ext (hT4.world) fun h => h).cell 9 rfl; have HT4 := Lib.hid hT4; clear hT4)
                | (go_at_call 25; refine (two_does (W.setCell ⟨w.heap.size + 1, 0, none⟩ (.int .i64 3)) _ a b (D.once 2 true) D HT4.out ⟨{ o with K := 3 }, B, ks⟩ HOK2.out (show D.calls ≤ _ by omega) (by simp [Dk.once]) (show B.length ≤ _ by omega)).mono ?_; rintro e w5 ⟨rfl, hT5⟩; rw [HRA.out] at hT5 ⊢; clear z0 z1 z2 z3 z4 z5 z6 z7 z8 z9; have z0 := (HAO2.out.ext (hT5.world) fun h => h).cell 0 rfl; have z1 := (HAO2.out.ext (hT5.world) fun h => h).cell 1 rfl; have z2 := (HAO2.out.ext (hT5.world) fun h => h).cell 2 rfl; have z3 := (HAO2.out.ext (hT5.world) fun h => h).cell 3 rfl; have z4 := (HAO2.out.ext (hT5.world) fun h => h).cell 4 rfl; have z5 := (HAO2.out.ext (hT5.world) fun h => h).cell 5 rfl; have z6 := (HAO2.out.ext (hT5.world) fun h => h).cell 6 rfl; have z7 := (HAO2.out.ext (hT5.world) fun h => h).cell 7 rfl; have z8 := (HAO2.out.ext (hT5.world) fun h => h).cell 8 rfl; have z9 := (HAO2.out.ext (hT5.world) fun h => h).cell 9 rfl; have HT5 := Lib.hid hT5; clear hT5; have mk0 : True := trivial)
                | (go_at_call 18; refine (num_any _ _).mono ?_; rintro e w' ⟨rfl, rfl⟩))
              go_ret
              exact ⟨rfl, HE2.out.same HE9.out⟩
            · rw [if_pos hr] at hra hrb
              have hr64 := (asks_on HOFF.out { o with K := 3 } B).1
              obtain ⟨r, hrr⟩ : ∃ r, r = D.asks { o with K := 3 } B := ⟨_, rfl⟩
              rw [← hrr] at hra hrb hr hr64
              have HRA := Lib.hid hra; have HRB := Lib.hid hrb
              have r0 : (r != 0) = true := by rw [bne_iff_ne]; exact hr
              have rr : (r == r) = true := by simp
              clear hra hrb hr hr64 hrr hK'
              go_wp2_with (first
                | (have hy := mk0; go_at_call 22; clear hy mk0; refine (two_calls_n HT5.out (n := D.calls) rfl).mono ?_; rintro e w' ⟨rfl, rfl⟩)
                | (go_at_call 22; refine (two_calls HT2.out).mono ?_; rintro e w' ⟨rfl, rfl⟩)
                | (go_at_call 19; refine (two_arm (W.setCell ⟨w.heap.size + 1, 0, none⟩ (.int .i64 3)) _ a b D D HT2.out (by omega) (by rw [HARM.out]; simp) 1 2 true).mono ?_; rintro e w4 ⟨rfl, hT4⟩; rw [HA1.out] at hT4 ⊢; have z0 := (HAO2.out.ext (hT4.world) fun h => h).cell 0 rfl; have z1 := (HAO2.out.ext (hT4.world) fun h => h).cell 1 rfl; have z2 := (HAO2.out.ext (hT4.world) fun h => h).cell 2 rfl; have z3 := (HAO2.out.ext (hT4.world) fun h => h).cell 3 rfl; have z4 := (HAO2.out.ext (hT4.world) fun h => h).cell 4 rfl; have z5 := (HAO2.out.ext (hT4.world) fun h => h).cell 5 rfl; have z6 := (HAO2.out.ext (hT4.world) fun h => h).cell 6 rfl; have z7 := (HAO2.out.ext (hT4.world) fun h => h).cell 7 rfl; have z8 := (HAO2.out.ext (hT4.world) fun h => h).cell 8 rfl; have z9 := (HAO2.out.ext (hT4.world) fun h => h).cell 9 rfl; have HT4 := Lib.hid hT4; clear hT4)
                | (go_at_call 25; refine (two_does (W.setCell ⟨w.heap.size + 1, 0, none⟩ (.int .i64 3)) _ a b (D.once 2 true) D HT4.out ⟨{ o with K := 3 }, B, ks⟩ HOK2.out (show D.calls ≤ _ by omega) (by simp [Dk.once]) (show B.length ≤ _ by omega)).mono ?_; rintro e w5 ⟨rfl, hT5⟩; rw [HRA.out] at hT5 ⊢; clear z0 z1 z2 z3 z4 z5 z6 z7 z8 z9; have z0 := (HAO2.out.ext (hT5.world) fun h => h).cell 0 rfl; have z1 := (HAO2.out.ext (hT5.world) fun h => h).cell 1 rfl; have z2 := (HAO2.out.ext (hT5.world) fun h => h).cell 2 rfl; have z3 := (HAO2.out.ext (hT5.world) fun h => h).cell 3 rfl; have z4 := (HAO2.out.ext (hT5.world) fun h => h).cell 4 rfl; have z5 := (HAO2.out.ext (hT5.world) fun h => h).cell 5 rfl; have z6 := (HAO2.out.ext (hT5.world) fun h => h).cell 6 rfl; have z7 := (HAO2.out.ext (hT5.world) fun h => h).cell 7 rfl; have z8 := (HAO2.out.ext (hT5.world) fun h => h).cell 8 rfl; have z9 := (HAO2.out.ext (hT5.world) fun h => h).cell 9 rfl; have HT5 := Lib.hid hT5; clear hT5; have mk0 : True := trivial)
                | (go_at_call 18; refine (num_any _ _).mono ?_; rintro e w' ⟨rfl, rfl⟩))
              have y := HAO2.out.ext HT5.out.world fun h => h
              go_region_held3 (fun w' => w'.cell? ⟨w.heap.size + 1, 0, none⟩ = some (.int .i64 3) ∧ w'.cell? ⟨w.heap.size + 1, 1, none⟩ = some (.int .i64 o.who) ∧ w'.cell? ⟨w.heap.size + 1, 2, none⟩ = some (.string o.s) ∧ w'.cell? ⟨w.heap.size + 1, 3, none⟩ = some (.slice o.dx o.dn o.dc) ∧ w'.cell? ⟨w.heap.size + 1, 4, none⟩ = some (.int .i64 o.N) ∧ w'.cell? ⟨w.heap.size + 1, 5, none⟩ = some (.int .i64 o.t0) ∧ w'.cell? ⟨w.heap.size + 1, 6, none⟩ = some (.int .i64 o.t1) ∧ w'.cell? ⟨w.heap.size + 1, 7, none⟩ = some (.bool o.t2) ∧ w'.cell? ⟨w.heap.size + 1, 8, none⟩ = some (.slice o.kx o.kn o.kc) ∧ w'.cell? ⟨w.heap.size + 1, 9, none⟩ = some (.int .u8 o.junk))
                (first
                  | exact ⟨z0, z1, z2, z3, z4, z5, z6, z7, z8, z9⟩
                  | exact ⟨((HAO2.out.ext HE6.out fun h => h)).cell 0 rfl, ((HAO2.out.ext HE6.out fun h => h)).cell 1 rfl, ((HAO2.out.ext HE6.out fun h => h)).cell 2 rfl, ((HAO2.out.ext HE6.out fun h => h)).cell 3 rfl, ((HAO2.out.ext HE6.out fun h => h)).cell 4 rfl, ((HAO2.out.ext HE6.out fun h => h)).cell 5 rfl, ((HAO2.out.ext HE6.out fun h => h)).cell 6 rfl, ((HAO2.out.ext HE6.out fun h => h)).cell 7 rfl, ((HAO2.out.ext HE6.out fun h => h)).cell 8 rfl, ((HAO2.out.ext HE6.out fun h => h)).cell 9 rfl⟩
                  | exact ⟨((HAO2.out.ext HE9.out fun h => h)).cell 0 rfl, ((HAO2.out.ext HE9.out fun h => h)).cell 1 rfl, ((HAO2.out.ext HE9.out fun h => h)).cell 2 rfl, ((HAO2.out.ext HE9.out fun h => h)).cell 3 rfl, ((HAO2.out.ext HE9.out fun h => h)).cell 4 rfl, ((HAO2.out.ext HE9.out fun h => h)).cell 5 rfl, ((HAO2.out.ext HE9.out fun h => h)).cell 6 rfl, ((HAO2.out.ext HE9.out fun h => h)).cell 7 rfl, ((HAO2.out.ext HE9.out fun h => h)).cell 8 rfl, ((HAO2.out.ext HE9.out fun h => h)).cell 9 rfl⟩)
                (first
                  | (go_at_call 18; refine (num_any _ _).mono ?_; rintro e w' ⟨rfl, rfl⟩)
                  | (go_at_call 21; refine (two_on (HT5.out.ext0 ((Ext.refl Nil w5).drew)) (o := false) HOFF.out).mono ?_; rintro e w' ⟨rfl, rfl⟩)
                  | (go_at_call 25; refine (two_does (W.setCell ⟨w.heap.size + 1, 0, none⟩ (.int .i64 3)) _ b a D _ (HT5.out.ext0 ((Ext.refl Nil w5).drew)).swap ⟨{ o with K := 3 }, B, ks⟩ HOK2.out (by omega) (by rw [HARM.out]; simp) (show B.length ≤ _ by omega)).mono ?_; rintro e w6 ⟨rfl, hT6⟩; rw [HRB.out] at hT6 ⊢; have HT6 := Lib.hid hT6.swap; have HE6 := Lib.hid hT6.world; clear hT6)
                  | (go_at_call 26; refine (alike_m (W.setCell ⟨w.heap.size + 1, 0, none⟩ (.int .i64 3)) _ a b (D.once 2 true) D HT6.out rfl rfl).mono ?_; rintro e w9 ⟨rfl, e9⟩; have HE9 := Lib.hid (HE6.out.same e9); clear e9))
              go_wp2_with fail
              go_ret
              exact ⟨rfl, HE2.out.same HE9.out⟩
        · have hK1 : ¬ o.K < 3 := by omega
          cases done
          · have hra := once_power D false { o with K := 3 } B hK'
            have hrb := does_calm HARM.out { o with K := 3 } B (by have := hK'.2; omega)
            rw [if_pos hK'] at hrb
            by_cases hr : D.asks { o with K := 3 } B = 0
            · rw [if_neg (by omega)] at hra
              have HRA := Lib.hid hra
              clear hra hrb hr hK'
              obtain ⟨N1, hN1⟩ : ∃ N1, N1 = D.calls + 1 := ⟨_, rfl⟩
              have hne : ((N1 : Int) == (D.calls : Int)) = false := by rw [beq_eq_false_iff_ne]; omega
              have hnn : (N1 == D.calls) = false := by rw [beq_eq_false_iff_ne]; omega
              have HN1 := Lib.hid hN1
              clear hN1
              go_wp2_with (first
                | (have hy := mk3; go_at_call 55; clear hy mk3; refine (two_crashed HT7.out.swap HOUT.out).mono ?_; rintro e w8 ⟨v8, l8, rfl, hp8, hO8, hn8, hT8, e8⟩; obtain ⟨p8, q8, rfl, -⟩ := hO8.see.shape; have hb8 := HT7.out.second.lt; have i8 := e8.cell i7 (fun e => by have e : w7.heap.size = b := e; have := HLB.out; omega); have HP8 := Lib.hid hp8; have HO8 := Lib.hid (hO8.ext ((Ext.refl Nil w8).alloc (.cells #[.slice p8 l8.length q8] 36 (0, 0))) fun _ _ h => h); have HX8 := Lib.hid ((HO7.out.ext e8 fun k hk e => by have e : k = b := e; have := HN7.out k hk; have := HLB.out; omega).ext ((Ext.refl Nil w8).alloc (.cells #[.slice p8 l8.length q8] 36 (0, 0))) fun _ _ h => h); have HE8 := Lib.hid (hT8.swap.world.alloc (.cells #[.slice p8 l8.length q8] 36 (0, 0))); have l8s := (cell_spot i8).2; have hne8 : ¬ w7.heap.size = w8.heap.size := (by have l8s : w7.heap.size < w8.heap.size := l8s; omega); have k8 := (At.new w8 [.slice p8 l8.length q8] 36).cell 0 rfl; clear hp8 hO8 hn8 hT8 e8 i7 hb8)
                | (have hy := HT5; go_at_call 55; clear hy; refine (two_crashed HT5.out HOUT.out).mono ?_; rintro e w7 ⟨v7, l7, rfl, hp7, hO7, hn7, hT7, e7⟩; obtain ⟨p7, q7, rfl, -⟩ := hO7.see.shape; have hlb := HT5.out.second.lt.2; have hsz7 := e7.size; have HLB := Lib.hid (Nat.lt_of_lt_of_le hlb hsz7); have HP7 := Lib.hid hp7; have HN7 := Lib.hid (fun k (hk : k ∈ ibl _ _) => Nat.lt_of_lt_of_le hlb (hn7 k hk)); have HO7 := Lib.hid (hO7.ext ((Ext.refl Nil w7).alloc (.cells #[.slice p7 l7.length q7] 36 (0, 0))) fun _ _ h => h); have HT7 := Lib.hid (hT7.ext0 ((Ext.refl Nil w7).alloc (.cells #[.slice p7 l7.length q7] 36 (0, 0)))); have i7 := (At.new w7 [.slice p7 l7.length q7] 36).cell 0 rfl; clear hp7 hO7 hn7 hT7 e7 hlb hsz7; have mk3 : True := trivial)
                | (go_at_call 35; refine (sameImage_m _ _ _ l7 l8 HX8.out.see HO8.out.see).mono ?_; rintro e w9 ⟨rfl, e9⟩; have hz : decide (l7.map FI.pair = l8.map FI.pair) = true := decide_eq_true (by rw [HP7.out, HP8.out]; first | rfl | simp); rw [hz]; have HE9 := Lib.hid (HE8.out.same e9); clear e9 hz)
                | (go_at_call 21; refine (two_on HT5.out (o := true) rfl).mono ?_; rintro e w' ⟨rfl, rfl⟩)
                | (have hy := mk0; go_at_call 22; clear hy mk0; refine (two_calls_n HT5.out (n := N1) HN1.out.symm).mono ?_; rintro e w' ⟨rfl, rfl⟩)
                | (go_at_call 22; refine (two_calls HT2.out).mono ?_; rintro e w' ⟨rfl, rfl⟩)
                | (go_at_call 19; refine (two_arm (W.setCell ⟨w.heap.size + 1, 0, none⟩ (.int .i64 3)) _ a b D D HT2.out (by omega) (by rw [HARM.out]; simp) 1 2 false).mono ?_; rintro e w4 ⟨rfl, hT4⟩; rw [HA1.out] at hT4 ⊢; have z0 := (HAO2.out.ext (hT4.world) fun h => h).cell 0 rfl; have z1 := (HAO2.out.ext (hT4.world) fun h => h).cell 1 rfl; have z2 := (HAO2.out.ext (hT4.world) fun h => h).cell 2 rfl; have z3 := (HAO2.out.ext (hT4.world) fun h => h).cell 3 rfl; have z4 := (HAO2.out.ext (hT4.world) fun h => h).cell 4 rfl; have z5 := (HAO2.out.ext (hT4.world) fun h => h).cell 5 rfl; have z6 := (HAO2.out.ext (hT4.world) fun h => h).cell 6 rfl; have z7 := (HAO2.out.ext (hT4.world) fun h => h).cell 7 rfl; have z8 := (HAO2.out.ext (hT4.world) fun h => h).cell 8 rfl; have z9 := (HAO2.out.ext (hT4.world) fun h => h).cell 9 rfl; have HT4 := Lib.hid hT4; clear hT4)
                | (go_at_call 25; refine (two_does (W.setCell ⟨w.heap.size + 1, 0, none⟩ (.int .i64 3)) _ a b (D.once 2 false) D HT4.out ⟨{ o with K := 3 }, B, ks⟩ HOK2.out (show D.calls ≤ _ by omega) (by simp [Dk.once]) (show B.length ≤ _ by omega)).mono ?_; rintro e w5 ⟨rfl, hT5⟩; rw [HRA.out] at hT5 ⊢; clear z0 z1 z2 z3 z4 z5 z6 z7 z8 z9; have z0 := (HAO2.out.ext (hT5.world) fun h => h).cell 0 rfl; have z1 := (HAO2.out.ext (hT5.world) fun h => h).cell 1 rfl; have z2 := (HAO2.out.ext (hT5.world) fun h => h).cell 2 rfl; have z3 := (HAO2.out.ext (hT5.world) fun h => h).cell 3 rfl; have z4 := (HAO2.out.ext (hT5.world) fun h => h).cell 4 rfl; have z5 := (HAO2.out.ext (hT5.world) fun h => h).cell 5 rfl; have z6 := (HAO2.out.ext (hT5.world) fun h => h).cell 6 rfl; have z7 := (HAO2.out.ext (hT5.world) fun h => h).cell 7 rfl; have z8 := (HAO2.out.ext (hT5.world) fun h => h).cell 8 rfl; have z9 := (HAO2.out.ext (hT5.world) fun h => h).cell 9 rfl; have HT5 := Lib.hid hT5; clear hT5; have mk0 : True := trivial)
                | (go_at_call 18; refine (num_any _ _).mono ?_; rintro e w' ⟨rfl, rfl⟩))
              go_ret
              exact ⟨rfl, HE2.out.same HE9.out⟩
            · rw [if_pos hr] at hra hrb
              have hr64 := (asks_on HOFF.out { o with K := 3 } B).1
              obtain ⟨r, hrr⟩ : ∃ r, r = D.asks { o with K := 3 } B := ⟨_, rfl⟩
              rw [← hrr] at hra hrb hr hr64
              have HRA := Lib.hid hra; have HRB := Lib.hid hrb
              have r0 : (r != 0) = true := by rw [bne_iff_ne]; exact hr
              have rr : (r == r) = true := by simp
              clear hra hrb hr hr64 hrr hK'
              go_wp2_with (first
                | (have hy := mk0; go_at_call 22; clear hy mk0; refine (two_calls_n HT5.out (n := D.calls) rfl).mono ?_; rintro e w' ⟨rfl, rfl⟩)
                | (go_at_call 22; refine (two_calls HT2.out).mono ?_; rintro e w' ⟨rfl, rfl⟩)
                | (go_at_call 19; refine (two_arm (W.setCell ⟨w.heap.size + 1, 0, none⟩ (.int .i64 3)) _ a b D D HT2.out (by omega) (by rw [HARM.out]; simp) 1 2 false).mono ?_; rintro e w4 ⟨rfl, hT4⟩; rw [HA1.out] at hT4 ⊢; have z0 := (HAO2.out.ext (hT4.world) fun h => h).cell 0 rfl; have z1 := (HAO2.out.ext (hT4.world) fun h => h).cell 1 rfl; have z2 := (HAO2.out.ext (hT4.world) fun h => h).cell 2 rfl; have z3 := (HAO2.out.ext (hT4.world) fun h => h).cell 3 rfl; have z4 := (HAO2.out.ext (hT4.world) fun h => h).cell 4 rfl; have z5 := (HAO2.out.ext (hT4.world) fun h => h).cell 5 rfl; have z6 := (HAO2.out.ext (hT4.world) fun h => h).cell 6 rfl; have z7 := (HAO2.out.ext (hT4.world) fun h => h).cell 7 rfl; have z8 := (HAO2.out.ext (hT4.world) fun h => h).cell 8 rfl; have z9 := (HAO2.out.ext (hT4.world) fun h => h).cell 9 rfl; have HT4 := Lib.hid hT4; clear hT4)
                | (go_at_call 25; refine (two_does (W.setCell ⟨w.heap.size + 1, 0, none⟩ (.int .i64 3)) _ a b (D.once 2 false) D HT4.out ⟨{ o with K := 3 }, B, ks⟩ HOK2.out (show D.calls ≤ _ by omega) (by simp [Dk.once]) (show B.length ≤ _ by omega)).mono ?_; rintro e w5 ⟨rfl, hT5⟩; rw [HRA.out] at hT5 ⊢; clear z0 z1 z2 z3 z4 z5 z6 z7 z8 z9; have z0 := (HAO2.out.ext (hT5.world) fun h => h).cell 0 rfl; have z1 := (HAO2.out.ext (hT5.world) fun h => h).cell 1 rfl; have z2 := (HAO2.out.ext (hT5.world) fun h => h).cell 2 rfl; have z3 := (HAO2.out.ext (hT5.world) fun h => h).cell 3 rfl; have z4 := (HAO2.out.ext (hT5.world) fun h => h).cell 4 rfl; have z5 := (HAO2.out.ext (hT5.world) fun h => h).cell 5 rfl; have z6 := (HAO2.out.ext (hT5.world) fun h => h).cell 6 rfl; have z7 := (HAO2.out.ext (hT5.world) fun h => h).cell 7 rfl; have z8 := (HAO2.out.ext (hT5.world) fun h => h).cell 8 rfl; have z9 := (HAO2.out.ext (hT5.world) fun h => h).cell 9 rfl; have HT5 := Lib.hid hT5; clear hT5; have mk0 : True := trivial)
                | (go_at_call 18; refine (num_any _ _).mono ?_; rintro e w' ⟨rfl, rfl⟩))
              have y := HAO2.out.ext HT5.out.world fun h => h
              go_region_held3 (fun w' => w'.cell? ⟨w.heap.size + 1, 0, none⟩ = some (.int .i64 3) ∧ w'.cell? ⟨w.heap.size + 1, 1, none⟩ = some (.int .i64 o.who) ∧ w'.cell? ⟨w.heap.size + 1, 2, none⟩ = some (.string o.s) ∧ w'.cell? ⟨w.heap.size + 1, 3, none⟩ = some (.slice o.dx o.dn o.dc) ∧ w'.cell? ⟨w.heap.size + 1, 4, none⟩ = some (.int .i64 o.N) ∧ w'.cell? ⟨w.heap.size + 1, 5, none⟩ = some (.int .i64 o.t0) ∧ w'.cell? ⟨w.heap.size + 1, 6, none⟩ = some (.int .i64 o.t1) ∧ w'.cell? ⟨w.heap.size + 1, 7, none⟩ = some (.bool o.t2) ∧ w'.cell? ⟨w.heap.size + 1, 8, none⟩ = some (.slice o.kx o.kn o.kc) ∧ w'.cell? ⟨w.heap.size + 1, 9, none⟩ = some (.int .u8 o.junk))
                (first
                  | exact ⟨z0, z1, z2, z3, z4, z5, z6, z7, z8, z9⟩
                  | exact ⟨((HAO2.out.ext HE6.out fun h => h)).cell 0 rfl, ((HAO2.out.ext HE6.out fun h => h)).cell 1 rfl, ((HAO2.out.ext HE6.out fun h => h)).cell 2 rfl, ((HAO2.out.ext HE6.out fun h => h)).cell 3 rfl, ((HAO2.out.ext HE6.out fun h => h)).cell 4 rfl, ((HAO2.out.ext HE6.out fun h => h)).cell 5 rfl, ((HAO2.out.ext HE6.out fun h => h)).cell 6 rfl, ((HAO2.out.ext HE6.out fun h => h)).cell 7 rfl, ((HAO2.out.ext HE6.out fun h => h)).cell 8 rfl, ((HAO2.out.ext HE6.out fun h => h)).cell 9 rfl⟩
                  | exact ⟨((HAO2.out.ext HE9.out fun h => h)).cell 0 rfl, ((HAO2.out.ext HE9.out fun h => h)).cell 1 rfl, ((HAO2.out.ext HE9.out fun h => h)).cell 2 rfl, ((HAO2.out.ext HE9.out fun h => h)).cell 3 rfl, ((HAO2.out.ext HE9.out fun h => h)).cell 4 rfl, ((HAO2.out.ext HE9.out fun h => h)).cell 5 rfl, ((HAO2.out.ext HE9.out fun h => h)).cell 6 rfl, ((HAO2.out.ext HE9.out fun h => h)).cell 7 rfl, ((HAO2.out.ext HE9.out fun h => h)).cell 8 rfl, ((HAO2.out.ext HE9.out fun h => h)).cell 9 rfl⟩)
                (first
                  | (go_at_call 18; refine (num_any _ _).mono ?_; rintro e w' ⟨rfl, rfl⟩)
                  | (go_at_call 21; refine (two_on (HT5.out.ext0 ((Ext.refl Nil w5).drew)) (o := false) HOFF.out).mono ?_; rintro e w' ⟨rfl, rfl⟩)
                  | (go_at_call 25; refine (two_does (W.setCell ⟨w.heap.size + 1, 0, none⟩ (.int .i64 3)) _ b a D _ (HT5.out.ext0 ((Ext.refl Nil w5).drew)).swap ⟨{ o with K := 3 }, B, ks⟩ HOK2.out (by omega) (by rw [HARM.out]; simp) (show B.length ≤ _ by omega)).mono ?_; rintro e w6 ⟨rfl, hT6⟩; rw [HRB.out] at hT6 ⊢; have HT6 := Lib.hid hT6.swap; have HE6 := Lib.hid hT6.world; clear hT6)
                  | (go_at_call 26; refine (alike_m (W.setCell ⟨w.heap.size + 1, 0, none⟩ (.int .i64 3)) _ a b (D.once 2 false) D HT6.out rfl rfl).mono ?_; rintro e w9 ⟨rfl, e9⟩; have HE9 := Lib.hid (HE6.out.same e9); clear e9))
              go_wp2_with fail
              go_ret
              exact ⟨rfl, HE2.out.same HE9.out⟩
          · have hra := once_power D true { o with K := 3 } B hK'
            have hrb := does_calm HARM.out { o with K := 3 } B (by have := hK'.2; omega)
            rw [if_pos hK'] at hrb
            by_cases hr : D.asks { o with K := 3 } B = 0
            · rw [if_neg (by omega)] at hra hrb
              have HRA := Lib.hid hra; have HRB := Lib.hid hrb
              clear hra hrb hr hK'
              obtain ⟨N1, hN1⟩ : ∃ N1, N1 = D.calls + 1 := ⟨_, rfl⟩
              have hne : ((N1 : Int) == (D.calls : Int)) = false := by rw [beq_eq_false_iff_ne]; omega
              have hnn : (N1 == D.calls) = false := by rw [beq_eq_false_iff_ne]; omega
              have HN1 := Lib.hid hN1
              clear hN1
              go_wp2_with (first
                | (have hy := mk3; go_at_call 55; clear hy mk3; refine (two_crashed HT7.out.swap HOUT.out).mono ?_; rintro e w8 ⟨v8, l8, rfl, hp8, hO8, hn8, hT8, e8⟩; obtain ⟨p8, q8, rfl, -⟩ := hO8.see.shape; have hb8 := HT7.out.second.lt; have i8 := e8.cell i7 (fun e => by have e : w7.heap.size = b := e; have := HLB.out; omega); have HP8 := Lib.hid hp8; have HO8 := Lib.hid (hO8.ext ((Ext.refl Nil w8).alloc (.cells #[.slice p8 l8.length q8] 36 (0, 0))) fun _ _ h => h); have HX8 := Lib.hid ((HO7.out.ext e8 fun k hk e => by have e : k = b := e; have := HN7.out k hk; have := HLB.out; omega).ext ((Ext.refl Nil w8).alloc (.cells #[.slice p8 l8.length q8] 36 (0, 0))) fun _ _ h => h); have HE8 := Lib.hid (hT8.swap.world.alloc (.cells #[.slice p8 l8.length q8] 36 (0, 0))); have l8s := (cell_spot i8).2; have hne8 : ¬ w7.heap.size = w8.heap.size := (by have l8s : w7.heap.size < w8.heap.size := l8s; omega); have k8 := (At.new w8 [.slice p8 l8.length q8] 36).cell 0 rfl; clear hp8 hO8 hn8 hT8 e8 i7 hb8)
                | (have hy := HT6; go_at_call 55; clear hy; refine (two_crashed HT6.out HOUT.out).mono ?_; rintro e w7 ⟨v7, l7, rfl, hp7, hO7, hn7, hT7, e7⟩; obtain ⟨p7, q7, rfl, -⟩ := hO7.see.shape; have hlb := HT6.out.second.lt.2; have hsz7 := e7.size; have HLB := Lib.hid (Nat.lt_of_lt_of_le hlb hsz7); have HP7 := Lib.hid hp7; have HN7 := Lib.hid (fun k (hk : k ∈ ibl _ _) => Nat.lt_of_lt_of_le hlb (hn7 k hk)); have HO7 := Lib.hid (hO7.ext ((Ext.refl Nil w7).alloc (.cells #[.slice p7 l7.length q7] 36 (0, 0))) fun _ _ h => h); have HT7 := Lib.hid (hT7.ext0 ((Ext.refl Nil w7).alloc (.cells #[.slice p7 l7.length q7] 36 (0, 0)))); have i7 := (At.new w7 [.slice p7 l7.length q7] 36).cell 0 rfl; clear hp7 hO7 hn7 hT7 e7 hlb hsz7; have mk3 : True := trivial)
                | (go_at_call 35; refine (sameImage_m _ _ _ l7 l8 HX8.out.see HO8.out.see).mono ?_; rintro e w9 ⟨rfl, e9⟩; have hz : decide (l7.map FI.pair = l8.map FI.pair) = true := decide_eq_true (by rw [HP7.out, HP8.out]; first | rfl | simp); rw [hz]; have HE9 := Lib.hid (HE8.out.same e9); clear e9 hz)
                | (go_at_call 21; refine (two_on HT5.out (o := true) rfl).mono ?_; rintro e w' ⟨rfl, rfl⟩)
                | (have hy := HT5; go_at_call 25; clear hy; refine (two_does (W.setCell ⟨w.heap.size + 1, 0, none⟩ (.int .i64 3)) _ b a D _ HT5.out.swap ⟨{ o with K := 3 }, B, ks⟩ HOK2.out (by omega) (by rw [HARM.out]; simp) (show B.length ≤ _ by omega)).mono ?_; rintro e w6 ⟨rfl, hT6⟩; rw [HRB.out] at hT6 ⊢; clear z0 z1 z2 z3 z4 z5 z6 z7 z8 z9; have HT6 := Lib.hid hT6.swap; clear hT6)
                | (have hy := mk0; go_at_call 22; clear hy mk0; refine (two_calls_n HT5.out (n := N1) HN1.out.symm).mono ?_; rintro e w' ⟨rfl, rfl⟩)
                | (go_at_call 22; refine (two_calls HT2.out).mono ?_; rintro e w' ⟨rfl, rfl⟩)
                | (go_at_call 19; refine (two_arm (W.setCell ⟨w.heap.size + 1, 0, none⟩ (.int .i64 3)) _ a b D D HT2.out (by omega) (by rw [HARM.out]; simp) 1 2 true).mono ?_; rintro e w4 ⟨rfl, hT4⟩; rw [HA1.out] at hT4 ⊢; have z0 := (HAO2.out.ext (hT4.world) fun h => h).cell 0 rfl; have z1 := (HAO2.out.ext (hT4.world) fun h => h).cell 1 rfl; have z2 := (HAO2.out.ext (hT4.world) fun h => h).cell 2 rfl; have z3 := (HAO2.out.ext (hT4.world) fun h => h).cell 3 rfl; have z4 := (HAO2.out.ext (hT4.world) fun h => h).cell 4 rfl; have z5 := (HAO2.out.ext (hT4.world) fun h => h).cell 5 rfl; have z6 := (HAO2.out.ext (hT4.world) fun h => h).cell 6 rfl; have z7 := (HAO2.out.ext (hT4.world) fun h => h).cell 7 rfl; have z8 := (HAO2.out.ext (hT4.world) fun h => h).cell 8 rfl; have z9 := (HAO2.out.ext (hT4.world) fun h => h).cell 9 rfl; have HT4 := Lib.hid hT4; clear hT4)
                | (go_at_call 25; refine (two_does (W.setCell ⟨w.heap.size + 1, 0, none⟩ (.int .i64 3)) _ a b (D.once 2 true) D HT4.out ⟨{ o with K := 3 }, B, ks⟩ HOK2.out (show D.calls ≤ _ by omega) (by simp [Dk.once]) (show B.length ≤ _ by omega)).mono ?_; rintro e w5 ⟨rfl, hT5⟩; rw [HRA.out] at hT5 ⊢; clear z0 z1 z2 z3 z4 z5 z6 z7 z8 z9; have z0 := (HAO2.out.ext (hT5.world) fun h => h).cell 0 rfl; have z1 := (HAO2.out.ext (hT5.world) fun h => h).cell 1 rfl; have z2 := (HAO2.out.ext (hT5.world) fun h => h).cell 2 rfl; have z3 := (HAO2.out.ext (hT5.world) fun h => h).cell 3 rfl; have z4 := (HAO2.out.ext (hT5.world) fun h => h).cell 4 rfl; have z5 := (HAO2.out.ext (hT5.world) fun h => h).cell 5 rfl; have z6 := (HAO2.out.ext (hT5.world) fun h => h).cell 6 rfl; have z7 := (HAO2.out.ext (hT5.world) fun h => h).cell 7 rfl; have z8 := (HAO2.out.ext (hT5.world) fun h => h).cell 8 rfl; have z9 := (HAO2.out.ext (hT5.world) fun h => h).cell 9 rfl; have HT5 := Lib.hid hT5; clear hT5; have mk0 : True := trivial)
                | (go_at_call 18; refine (num_any _ _).mono ?_; rintro e w' ⟨rfl, rfl⟩))
              go_ret
              exact ⟨rfl, HE2.out.same HE9.out⟩
            · rw [if_pos hr] at hra hrb
              have hr64 := (asks_on HOFF.out { o with K := 3 } B).1
              obtain ⟨r, hrr⟩ : ∃ r, r = D.asks { o with K := 3 } B := ⟨_, rfl⟩
              rw [← hrr] at hra hrb hr hr64
              have HRA := Lib.hid hra; have HRB := Lib.hid hrb
              have r0 : (r != 0) = true := by rw [bne_iff_ne]; exact hr
              have rr : (r == r) = true := by simp
              clear hra hrb hr hr64 hrr hK'
              go_wp2_with (first
                | (have hy := mk0; go_at_call 22; clear hy mk0; refine (two_calls_n HT5.out (n := D.calls) rfl).mono ?_; rintro e w' ⟨rfl, rfl⟩)
                | (go_at_call 22; refine (two_calls HT2.out).mono ?_; rintro e w' ⟨rfl, rfl⟩)
                | (go_at_call 19; refine (two_arm (W.setCell ⟨w.heap.size + 1, 0, none⟩ (.int .i64 3)) _ a b D D HT2.out (by omega) (by rw [HARM.out]; simp) 1 2 true).mono ?_; rintro e w4 ⟨rfl, hT4⟩; rw [HA1.out] at hT4 ⊢; have z0 := (HAO2.out.ext (hT4.world) fun h => h).cell 0 rfl; have z1 := (HAO2.out.ext (hT4.world) fun h => h).cell 1 rfl; have z2 := (HAO2.out.ext (hT4.world) fun h => h).cell 2 rfl; have z3 := (HAO2.out.ext (hT4.world) fun h => h).cell 3 rfl; have z4 := (HAO2.out.ext (hT4.world) fun h => h).cell 4 rfl; have z5 := (HAO2.out.ext (hT4.world) fun h => h).cell 5 rfl; have z6 := (HAO2.out.ext (hT4.world) fun h => h).cell 6 rfl; have z7 := (HAO2.out.ext (hT4.world) fun h => h).cell 7 rfl; have z8 := (HAO2.out.ext (hT4.world) fun h => h).cell 8 rfl; have z9 := (HAO2.out.ext (hT4.world) fun h => h).cell 9 rfl; have HT4 := Lib.hid hT4; clear hT4)
                | (go_at_call 25; refine (two_does (W.setCell ⟨w.heap.size + 1, 0, none⟩ (.int .i64 3)) _ a b (D.once 2 true) D HT4.out ⟨{ o with K := 3 }, B, ks⟩ HOK2.out (show D.calls ≤ _ by omega) (by simp [Dk.once]) (show B.length ≤ _ by omega)).mono ?_; rintro e w5 ⟨rfl, hT5⟩; rw [HRA.out] at hT5 ⊢; clear z0 z1 z2 z3 z4 z5 z6 z7 z8 z9; have z0 := (HAO2.out.ext (hT5.world) fun h => h).cell 0 rfl; have z1 := (HAO2.out.ext (hT5.world) fun h => h).cell 1 rfl; have z2 := (HAO2.out.ext (hT5.world) fun h => h).cell 2 rfl; have z3 := (HAO2.out.ext (hT5.world) fun h => h).cell 3 rfl; have z4 := (HAO2.out.ext (hT5.world) fun h => h).cell 4 rfl; have z5 := (HAO2.out.ext (hT5.world) fun h => h).cell 5 rfl; have z6 := (HAO2.out.ext (hT5.world) fun h => h).cell 6 rfl; have z7 := (HAO2.out.ext (hT5.world) fun h => h).cell 7 rfl; have z8 := (HAO2.out.ext (hT5.world) fun h => h).cell 8 rfl; have z9 := (HAO2.out.ext (hT5.world) fun h => h).cell 9 rfl; have HT5 := Lib.hid hT5; clear hT5; have mk0 : True := trivial)
                | (go_at_call 18; refine (num_any _ _).mono ?_; rintro e w' ⟨rfl, rfl⟩))
              have y := HAO2.out.ext HT5.out.world fun h => h
              go_region_held3 (fun w' => w'.cell? ⟨w.heap.size + 1, 0, none⟩ = some (.int .i64 3) ∧ w'.cell? ⟨w.heap.size + 1, 1, none⟩ = some (.int .i64 o.who) ∧ w'.cell? ⟨w.heap.size + 1, 2, none⟩ = some (.string o.s) ∧ w'.cell? ⟨w.heap.size + 1, 3, none⟩ = some (.slice o.dx o.dn o.dc) ∧ w'.cell? ⟨w.heap.size + 1, 4, none⟩ = some (.int .i64 o.N) ∧ w'.cell? ⟨w.heap.size + 1, 5, none⟩ = some (.int .i64 o.t0) ∧ w'.cell? ⟨w.heap.size + 1, 6, none⟩ = some (.int .i64 o.t1) ∧ w'.cell? ⟨w.heap.size + 1, 7, none⟩ = some (.bool o.t2) ∧ w'.cell? ⟨w.heap.size + 1, 8, none⟩ = some (.slice o.kx o.kn o.kc) ∧ w'.cell? ⟨w.heap.size + 1, 9, none⟩ = some (.int .u8 o.junk))
                (first
                  | exact ⟨z0, z1, z2, z3, z4, z5, z6, z7, z8, z9⟩
                  | exact ⟨((HAO2.out.ext HE6.out fun h => h)).cell 0 rfl, ((HAO2.out.ext HE6.out fun h => h)).cell 1 rfl, ((HAO2.out.ext HE6.out fun h => h)).cell 2 rfl, ((HAO2.out.ext HE6.out fun h => h)).cell 3 rfl, ((HAO2.out.ext HE6.out fun h => h)).cell 4 rfl, ((HAO2.out.ext HE6.out fun h => h)).cell 5 rfl, ((HAO2.out.ext HE6.out fun h => h)).cell 6 rfl, ((HAO2.out.ext HE6.out fun h => h)).cell 7 rfl, ((HAO2.out.ext HE6.out fun h => h)).cell 8 rfl, ((HAO2.out.ext HE6.out fun h => h)).cell 9 rfl⟩
                  | exact ⟨((HAO2.out.ext HE9.out fun h => h)).cell 0 rfl, ((HAO2.out.ext HE9.out fun h => h)).cell 1 rfl, ((HAO2.out.ext HE9.out fun h => h)).cell 2 rfl, ((HAO2.out.ext HE9.out fun h => h)).cell 3 rfl, ((HAO2.out.ext HE9.out fun h => h)).cell 4 rfl, ((HAO2.out.ext HE9.out fun h => h)).cell 5 rfl, ((HAO2.out.ext HE9.out fun h => h)).cell 6 rfl, ((HAO2.out.ext HE9.out fun h => h)).cell 7 rfl, ((HAO2.out.ext HE9.out fun h => h)).cell 8 rfl, ((HAO2.out.ext HE9.out fun h => h)).cell 9 rfl⟩)
                (first
                  | (go_at_call 18; refine (num_any _ _).mono ?_; rintro e w' ⟨rfl, rfl⟩)
                  | (go_at_call 21; refine (two_on (HT5.out.ext0 ((Ext.refl Nil w5).drew)) (o := false) HOFF.out).mono ?_; rintro e w' ⟨rfl, rfl⟩)
                  | (go_at_call 25; refine (two_does (W.setCell ⟨w.heap.size + 1, 0, none⟩ (.int .i64 3)) _ b a D _ (HT5.out.ext0 ((Ext.refl Nil w5).drew)).swap ⟨{ o with K := 3 }, B, ks⟩ HOK2.out (by omega) (by rw [HARM.out]; simp) (show B.length ≤ _ by omega)).mono ?_; rintro e w6 ⟨rfl, hT6⟩; rw [HRB.out] at hT6 ⊢; have HT6 := Lib.hid hT6.swap; have HE6 := Lib.hid hT6.world; clear hT6)
                  | (go_at_call 26; refine (alike_m (W.setCell ⟨w.heap.size + 1, 0, none⟩ (.int .i64 3)) _ a b (D.once 2 true) D HT6.out rfl rfl).mono ?_; rintro e w9 ⟨rfl, e9⟩; have HE9 := Lib.hid (HE6.out.same e9); clear e9))
              go_wp2_with fail
              go_ret
              exact ⟨rfl, HE2.out.same HE9.out⟩
      · have hK1 : ¬ o.K < 3 := fun h => hK (.inl h)
        have hK2 : ¬ 5 < o.K := fun h => hK (.inr h)
        have hK' : 1 ≤ o.K ∧ o.K ≤ 5 := by omega
        clear hK
        cases done
        · have hra := once_power D false o B hK'
          have hrb := does_calm HARM.out o B (by have := hK'.2; omega)
          rw [if_pos hK'] at hrb
          by_cases hr : D.asks o B = 0
          · rw [if_neg (by omega)] at hra
            have HRA := Lib.hid hra
            clear hra hrb hr hK'
            obtain ⟨N1, hN1⟩ : ∃ N1, N1 = D.calls + 1 := ⟨_, rfl⟩
            have hne : ((N1 : Int) == (D.calls : Int)) = false := by rw [beq_eq_false_iff_ne]; omega
            have hnn : (N1 == D.calls) = false := by rw [beq_eq_false_iff_ne]; omega
            have HN1 := Lib.hid hN1
            clear hN1
            go_wp2_with (first
              | (have hy := mk3; go_at_call 55; clear hy mk3; refine (two_crashed HT7.out.swap HOUT.out).mono ?_; rintro e w8 ⟨v8, l8, rfl, hp8, hO8, hn8, hT8, e8⟩; obtain ⟨p8, q8, rfl, -⟩ := hO8.see.shape; have hb8 := HT7.out.second.lt; have i8 := e8.cell i7 (fun e => by have e : w7.heap.size = b := e; have := HLB.out; omega); have HP8 := Lib.hid hp8; have HO8 := Lib.hid (hO8.ext ((Ext.refl Nil w8).alloc (.cells #[.slice p8 l8.length q8] 36 (0, 0))) fun _ _ h => h); have HX8 := Lib.hid ((HO7.out.ext e8 fun k hk e => by have e : k = b := e; have := HN7.out k hk; have := HLB.out; omega).ext ((Ext.refl Nil w8).alloc (.cells #[.slice p8 l8.length q8] 36 (0, 0))) fun _ _ h => h); have HE8 := Lib.hid (hT8.swap.world.alloc (.cells #[.slice p8 l8.length q8] 36 (0, 0))); have l8s := (cell_spot i8).2; have hne8 : ¬ w7.heap.size = w8.heap.size := (by have l8s : w7.heap.size < w8.heap.size := l8s; omega); have k8 := (At.new w8 [.slice p8 l8.length q8] 36).cell 0 rfl; clear hp8 hO8 hn8 hT8 e8 i7 hb8)
              | (have hy := HT5; go_at_call 55; clear hy; refine (two_crashed HT5.out HOUT.out).mono ?_; rintro e w7 ⟨v7, l7, rfl, hp7, hO7, hn7, hT7, e7⟩; obtain ⟨p7, q7, rfl, -⟩ := hO7.see.shape; have hlb := HT5.out.second.lt.2; have hsz7 := e7.size; have HLB := Lib.hid (Nat.lt_of_lt_of_le hlb hsz7); have HP7 := Lib.hid hp7; have HN7 := Lib.hid (fun k (hk : k ∈ ibl _ _) => Nat.lt_of_lt_of_le hlb (hn7 k hk)); have HO7 := Lib.hid (hO7.ext ((Ext.refl Nil w7).alloc (.cells #[.slice p7 l7.length q7] 36 (0, 0))) fun _ _ h => h); have HT7 := Lib.hid (hT7.ext0 ((Ext.refl Nil w7).alloc (.cells #[.slice p7 l7.length q7] 36 (0, 0)))); have i7 := (At.new w7 [.slice p7 l7.length q7] 36).cell 0 rfl; clear hp7 hO7 hn7 hT7 e7 hlb hsz7; have mk3 : True := trivial)
              | (go_at_call 35; refine (sameImage_m _ _ _ l7 l8 HX8.out.see HO8.out.see).mono ?_; rintro e w9 ⟨rfl, e9⟩; have hz : decide (l7.map FI.pair = l8.map FI.pair) = true := decide_eq_true (by rw [HP7.out, HP8.out]; first | rfl | simp); rw [hz]; have HE9 := Lib.hid (HE8.out.same e9); clear e9 hz)
              | (go_at_call 21; refine (two_on HT5.out (o := true) rfl).mono ?_; rintro e w' ⟨rfl, rfl⟩)
              | (have hy := mk0; go_at_call 22; clear hy mk0; refine (two_calls_n HT5.out (n := N1) HN1.out.symm).mono ?_; rintro e w' ⟨rfl, rfl⟩)
              | (go_at_call 22; refine (two_calls HT.out).mono ?_; rintro e w' ⟨rfl, rfl⟩)
              | (go_at_call 19; refine (two_arm W _ a b D D HT.out (by omega) (by rw [HARM.out]; simp) 1 2 false).mono ?_; rintro e w4 ⟨rfl, hT4⟩; rw [HA1.out] at hT4 ⊢; have z0 := (HAO.out.ext (hT4.world) fun h => h).cell 0 rfl; have z1 := (HAO.out.ext (hT4.world) fun h => h).cell 1 rfl; have z2 := (HAO.out.ext (hT4.world) fun h => h).cell 2 rfl; have z3 := (HAO.out.ext (hT4.world) fun h => h).cell 3 rfl; have z4 := (HAO.out.ext (hT4.world) fun h => h).cell 4 rfl; have z5 := (HAO.out.ext (hT4.world) fun h => h).cell 5 rfl; have z6 := (HAO.out.ext (hT4.world) fun h => h).cell 6 rfl; have z7 := (HAO.out.ext (hT4.world) fun h => h).cell 7 rfl; have z8 := (HAO.out.ext (hT4.world) fun h => h).cell 8 rfl; have z9 := (HAO.out.ext (hT4.world) fun h => h).cell 9 rfl; have HT4 := Lib.hid hT4; clear hT4)
              | (go_at_call 25; refine (two_does W _ a b (D.once 2 false) D HT4.out ⟨o, B, ks⟩ HOK.out (show D.calls ≤ _ by omega) (by simp [Dk.once]) (show B.length ≤ _ by omega)).mono ?_; rintro e w5 ⟨rfl, hT5⟩; rw [HRA.out] at hT5 ⊢; clear z0 z1 z2 z3 z4 z5 z6 z7 z8 z9; have z0 := (HAO.out.ext (hT5.world) fun h => h).cell 0 rfl; have z1 := (HAO.out.ext (hT5.world) fun h => h).cell 1 rfl; have z2 := (HAO.out.ext (hT5.world) fun h => h).cell 2 rfl; have z3 := (HAO.out.ext (hT5.world) fun h => h).cell 3 rfl; have z4 := (HAO.out.ext (hT5.world) fun h => h).cell 4 rfl; have z5 := (HAO.out.ext (hT5.world) fun h => h).cell 5 rfl; have z6 := (HAO.out.ext (hT5.world) fun h => h).cell 6 rfl; have z7 := (HAO.out.ext (hT5.world) fun h => h).cell 7 rfl; have z8 := (HAO.out.ext (hT5.world) fun h => h).cell 8 rfl; have z9 := (HAO.out.ext (hT5.world) fun h => h).cell 9 rfl; have HT5 := Lib.hid hT5; clear hT5; have mk0 : True := trivial)
              | (go_at_call 18; refine (num_any _ _).mono ?_; rintro e w' ⟨rfl, rfl⟩))
            go_ret
            exact ⟨rfl, HE.out.same HE9.out⟩
          · rw [if_pos hr] at hra hrb
            have hr64 := (asks_on HOFF.out o B).1
            obtain ⟨r, hrr⟩ : ∃ r, r = D.asks o B := ⟨_, rfl⟩
            rw [← hrr] at hra hrb hr hr64
            have HRA := Lib.hid hra; have HRB := Lib.hid hrb
            have r0 : (r != 0) = true := by rw [bne_iff_ne]; exact hr
            have rr : (r == r) = true := by simp
            clear hra hrb hr hr64 hrr hK'
            go_wp2_with (first
              | (have hy := mk0; go_at_call 22; clear hy mk0; refine (two_calls_n HT5.out (n := D.calls) rfl).mono ?_; rintro e w' ⟨rfl, rfl⟩)
              | (go_at_call 22; refine (two_calls HT.out).mono ?_; rintro e w' ⟨rfl, rfl⟩)
              | (go_at_call 19; refine (two_arm W _ a b D D HT.out (by omega) (by rw [HARM.out]; simp) 1 2 false).mono ?_; rintro e w4 ⟨rfl, hT4⟩; rw [HA1.out] at hT4 ⊢; have z0 := (HAO.out.ext (hT4.world) fun h => h).cell 0 rfl; have z1 := (HAO.out.ext (hT4.world) fun h => h).cell 1 rfl; have z2 := (HAO.out.ext (hT4.world) fun h => h).cell 2 rfl; have z3 := (HAO.out.ext (hT4.world) fun h => h).cell 3 rfl; have z4 := (HAO.out.ext (hT4.world) fun h => h).cell 4 rfl; have z5 := (HAO.out.ext (hT4.world) fun h => h).cell 5 rfl; have z6 := (HAO.out.ext (hT4.world) fun h => h).cell 6 rfl; have z7 := (HAO.out.ext (hT4.world) fun h => h).cell 7 rfl; have z8 := (HAO.out.ext (hT4.world) fun h => h).cell 8 rfl; have z9 := (HAO.out.ext (hT4.world) fun h => h).cell 9 rfl; have HT4 := Lib.hid hT4; clear hT4)
              | (go_at_call 25; refine (two_does W _ a b (D.once 2 false) D HT4.out ⟨o, B, ks⟩ HOK.out (show D.calls ≤ _ by omega) (by simp [Dk.once]) (show B.length ≤ _ by omega)).mono ?_; rintro e w5 ⟨rfl, hT5⟩; rw [HRA.out] at hT5 ⊢; clear z0 z1 z2 z3 z4 z5 z6 z7 z8 z9; have z0 := (HAO.out.ext (hT5.world) fun h => h).cell 0 rfl; have z1 := (HAO.out.ext (hT5.world) fun h => h).cell 1 rfl; have z2 := (HAO.out.ext (hT5.world) fun h => h).cell 2 rfl; have z3 := (HAO.out.ext (hT5.world) fun h => h).cell 3 rfl; have z4 := (HAO.out.ext (hT5.world) fun h => h).cell 4 rfl; have z5 := (HAO.out.ext (hT5.world) fun h => h).cell 5 rfl; have z6 := (HAO.out.ext (hT5.world) fun h => h).cell 6 rfl; have z7 := (HAO.out.ext (hT5.world) fun h => h).cell 7 rfl; have z8 := (HAO.out.ext (hT5.world) fun h => h).cell 8 rfl; have z9 := (HAO.out.ext (hT5.world) fun h => h).cell 9 rfl; have HT5 := Lib.hid hT5; clear hT5; have mk0 : True := trivial)
              | (go_at_call 18; refine (num_any _ _).mono ?_; rintro e w' ⟨rfl, rfl⟩))
            have y := HAO.out.ext HT5.out.world fun h => h
            go_region_held3 (fun w' => w'.cell? ⟨w.heap.size + 1, 0, none⟩ = some (.int .i64 o.K) ∧ w'.cell? ⟨w.heap.size + 1, 1, none⟩ = some (.int .i64 o.who) ∧ w'.cell? ⟨w.heap.size + 1, 2, none⟩ = some (.string o.s) ∧ w'.cell? ⟨w.heap.size + 1, 3, none⟩ = some (.slice o.dx o.dn o.dc) ∧ w'.cell? ⟨w.heap.size + 1, 4, none⟩ = some (.int .i64 o.N) ∧ w'.cell? ⟨w.heap.size + 1, 5, none⟩ = some (.int .i64 o.t0) ∧ w'.cell? ⟨w.heap.size + 1, 6, none⟩ = some (.int .i64 o.t1) ∧ w'.cell? ⟨w.heap.size + 1, 7, none⟩ = some (.bool o.t2) ∧ w'.cell? ⟨w.heap.size + 1, 8, none⟩ = some (.slice o.kx o.kn o.kc) ∧ w'.cell? ⟨w.heap.size + 1, 9, none⟩ = some (.int .u8 o.junk))
              (first
                | exact ⟨z0, z1, z2, z3, z4, z5, z6, z7, z8, z9⟩
                | exact ⟨((HAO.out.ext HE6.out fun h => h)).cell 0 rfl, ((HAO.out.ext HE6.out fun h => h)).cell 1 rfl, ((HAO.out.ext HE6.out fun h => h)).cell 2 rfl, ((HAO.out.ext HE6.out fun h => h)).cell 3 rfl, ((HAO.out.ext HE6.out fun h => h)).cell 4 rfl, ((HAO.out.ext HE6.out fun h => h)).cell 5 rfl, ((HAO.out.ext HE6.out fun h => h)).cell 6 rfl, ((HAO.out.ext HE6.out fun h => h)).cell 7 rfl, ((HAO.out.ext HE6.out fun h => h)).cell 8 rfl, ((HAO.out.ext HE6.out fun h => h)).cell 9 rfl⟩
                | exact ⟨((HAO.out.ext HE9.out fun h => h)).cell 0 rfl, ((HAO.out.ext HE9.out fun h => h)).cell 1 rfl, ((HAO.out.ext HE9.out fun h => h)).cell 2 rfl, ((HAO.out.ext HE9.out fun h => h)).cell 3 rfl, ((HAO.out.ext HE9.out fun h => h)).cell 4 rfl, ((HAO.out.ext HE9.out fun h => h)).cell 5 rfl, ((HAO.out.ext HE9.out fun h => h)).cell 6 rfl, ((HAO.out.ext HE9.out fun h => h)).cell 7 rfl, ((HAO.out.ext HE9.out fun h => h)).cell 8 rfl, ((HAO.out.ext HE9.out fun h => h)).cell 9 rfl⟩)
              (first
                | (go_at_call 18; refine (num_any _ _).mono ?_; rintro e w' ⟨rfl, rfl⟩)
                | (go_at_call 21; refine (two_on (HT5.out.ext0 ((Ext.refl Nil w5).drew)) (o := false) HOFF.out).mono ?_; rintro e w' ⟨rfl, rfl⟩)
                | (go_at_call 25; refine (two_does W _ b a D _ (HT5.out.ext0 ((Ext.refl Nil w5).drew)).swap ⟨o, B, ks⟩ HOK.out (by omega) (by rw [HARM.out]; simp) (show B.length ≤ _ by omega)).mono ?_; rintro e w6 ⟨rfl, hT6⟩; rw [HRB.out] at hT6 ⊢; have HT6 := Lib.hid hT6.swap; have HE6 := Lib.hid hT6.world; clear hT6)
                | (go_at_call 26; refine (alike_m W _ a b (D.once 2 false) D HT6.out rfl rfl).mono ?_; rintro e w9 ⟨rfl, e9⟩; have HE9 := Lib.hid (HE6.out.same e9); clear e9))
            go_wp2_with fail
            go_ret
            exact ⟨rfl, HE.out.same HE9.out⟩
        · have hra := once_power D true o B hK'
          have hrb := does_calm HARM.out o B (by have := hK'.2; omega)
          rw [if_pos hK'] at hrb
          by_cases hr : D.asks o B = 0
          · rw [if_neg (by omega)] at hra hrb
            have HRA := Lib.hid hra; have HRB := Lib.hid hrb
            clear hra hrb hr hK'
            obtain ⟨N1, hN1⟩ : ∃ N1, N1 = D.calls + 1 := ⟨_, rfl⟩
            have hne : ((N1 : Int) == (D.calls : Int)) = false := by rw [beq_eq_false_iff_ne]; omega
            have hnn : (N1 == D.calls) = false := by rw [beq_eq_false_iff_ne]; omega
            have HN1 := Lib.hid hN1
            clear hN1
            go_wp2_with (first
              | (have hy := mk3; go_at_call 55; clear hy mk3; refine (two_crashed HT7.out.swap HOUT.out).mono ?_; rintro e w8 ⟨v8, l8, rfl, hp8, hO8, hn8, hT8, e8⟩; obtain ⟨p8, q8, rfl, -⟩ := hO8.see.shape; have hb8 := HT7.out.second.lt; have i8 := e8.cell i7 (fun e => by have e : w7.heap.size = b := e; have := HLB.out; omega); have HP8 := Lib.hid hp8; have HO8 := Lib.hid (hO8.ext ((Ext.refl Nil w8).alloc (.cells #[.slice p8 l8.length q8] 36 (0, 0))) fun _ _ h => h); have HX8 := Lib.hid ((HO7.out.ext e8 fun k hk e => by have e : k = b := e; have := HN7.out k hk; have := HLB.out; omega).ext ((Ext.refl Nil w8).alloc (.cells #[.slice p8 l8.length q8] 36 (0, 0))) fun _ _ h => h); have HE8 := Lib.hid (hT8.swap.world.alloc (.cells #[.slice p8 l8.length q8] 36 (0, 0))); have l8s := (cell_spot i8).2; have hne8 : ¬ w7.heap.size = w8.heap.size := (by have l8s : w7.heap.size < w8.heap.size := l8s; omega); have k8 := (At.new w8 [.slice p8 l8.length q8] 36).cell 0 rfl; clear hp8 hO8 hn8 hT8 e8 i7 hb8)
              | (have hy := HT6; go_at_call 55; clear hy; refine (two_crashed HT6.out HOUT.out).mono ?_; rintro e w7 ⟨v7, l7, rfl, hp7, hO7, hn7, hT7, e7⟩; obtain ⟨p7, q7, rfl, -⟩ := hO7.see.shape; have hlb := HT6.out.second.lt.2; have hsz7 := e7.size; have HLB := Lib.hid (Nat.lt_of_lt_of_le hlb hsz7); have HP7 := Lib.hid hp7; have HN7 := Lib.hid (fun k (hk : k ∈ ibl _ _) => Nat.lt_of_lt_of_le hlb (hn7 k hk)); have HO7 := Lib.hid (hO7.ext ((Ext.refl Nil w7).alloc (.cells #[.slice p7 l7.length q7] 36 (0, 0))) fun _ _ h => h); have HT7 := Lib.hid (hT7.ext0 ((Ext.refl Nil w7).alloc (.cells #[.slice p7 l7.length q7] 36 (0, 0)))); have i7 := (At.new w7 [.slice p7 l7.length q7] 36).cell 0 rfl; clear hp7 hO7 hn7 hT7 e7 hlb hsz7; have mk3 : True := trivial)
              | (go_at_call 35; refine (sameImage_m _ _ _ l7 l8 HX8.out.see HO8.out.see).mono ?_; rintro e w9 ⟨rfl, e9⟩; have hz : decide (l7.map FI.pair = l8.map FI.pair) = true := decide_eq_true (by rw [HP7.out, HP8.out]; first | rfl | simp); rw [hz]; have HE9 := Lib.hid (HE8.out.same e9); clear e9 hz)
              | (go_at_call 21; refine (two_on HT5.out (o := true) rfl).mono ?_; rintro e w' ⟨rfl, rfl⟩)
              | (have hy := HT5; go_at_call 25; clear hy; refine (two_does W _ b a D _ HT5.out.swap ⟨o, B, ks⟩ HOK.out (by omega) (by rw [HARM.out]; simp) (show B.length ≤ _ by omega)).mono ?_; rintro e w6 ⟨rfl, hT6⟩; rw [HRB.out] at hT6 ⊢; clear z0 z1 z2 z3 z4 z5 z6 z7 z8 z9; have HT6 := Lib.hid hT6.swap; clear hT6)
              | (have hy := mk0; go_at_call 22; clear hy mk0; refine (two_calls_n HT5.out (n := N1) HN1.out.symm).mono ?_; rintro e w' ⟨rfl, rfl⟩)
              | (go_at_call 22; refine (two_calls HT.out).mono ?_; rintro e w' ⟨rfl, rfl⟩)
              | (go_at_call 19; refine (two_arm W _ a b D D HT.out (by omega) (by rw [HARM.out]; simp) 1 2 true).mono ?_; rintro e w4 ⟨rfl, hT4⟩; rw [HA1.out] at hT4 ⊢; have z0 := (HAO.out.ext (hT4.world) fun h => h).cell 0 rfl; have z1 := (HAO.out.ext (hT4.world) fun h => h).cell 1 rfl; have z2 := (HAO.out.ext (hT4.world) fun h => h).cell 2 rfl; have z3 := (HAO.out.ext (hT4.world) fun h => h).cell 3 rfl; have z4 := (HAO.out.ext (hT4.world) fun h => h).cell 4 rfl; have z5 := (HAO.out.ext (hT4.world) fun h => h).cell 5 rfl; have z6 := (HAO.out.ext (hT4.world) fun h => h).cell 6 rfl; have z7 := (HAO.out.ext (hT4.world) fun h => h).cell 7 rfl; have z8 := (HAO.out.ext (hT4.world) fun h => h).cell 8 rfl; have z9 := (HAO.out.ext (hT4.world) fun h => h).cell 9 rfl; have HT4 := Lib.hid hT4; clear hT4)
              | (go_at_call 25; refine (two_does W _ a b (D.once 2 true) D HT4.out ⟨o, B, ks⟩ HOK.out (show D.calls ≤ _ by omega) (by simp [Dk.once]) (show B.length ≤ _ by omega)).mono ?_; rintro e w5 ⟨rfl, hT5⟩; rw [HRA.out] at hT5 ⊢; clear z0 z1 z2 z3 z4 z5 z6 z7 z8 z9; have z0 := (HAO.out.ext (hT5.world) fun h => h).cell 0 rfl; have z1 := (HAO.out.ext (hT5.world) fun h => h).cell 1 rfl; have z2 := (HAO.out.ext (hT5.world) fun h => h).cell 2 rfl; have z3 := (HAO.out.ext (hT5.world) fun h => h).cell 3 rfl; have z4 := (HAO.out.ext (hT5.world) fun h => h).cell 4 rfl; have z5 := (HAO.out.ext (hT5.world) fun h => h).cell 5 rfl; have z6 := (HAO.out.ext (hT5.world) fun h => h).cell 6 rfl; have z7 := (HAO.out.ext (hT5.world) fun h => h).cell 7 rfl; have z8 := (HAO.out.ext (hT5.world) fun h => h).cell 8 rfl; have z9 := (HAO.out.ext (hT5.world) fun h => h).cell 9 rfl; have HT5 := Lib.hid hT5; clear hT5; have mk0 : True := trivial)
              | (go_at_call 18; refine (num_any _ _).mono ?_; rintro e w' ⟨rfl, rfl⟩))
            go_ret
            exact ⟨rfl, HE.out.same HE9.out⟩
          · rw [if_pos hr] at hra hrb
            have hr64 := (asks_on HOFF.out o B).1
            obtain ⟨r, hrr⟩ : ∃ r, r = D.asks o B := ⟨_, rfl⟩
            rw [← hrr] at hra hrb hr hr64
            have HRA := Lib.hid hra; have HRB := Lib.hid hrb
            have r0 : (r != 0) = true := by rw [bne_iff_ne]; exact hr
            have rr : (r == r) = true := by simp
            clear hra hrb hr hr64 hrr hK'
            go_wp2_with (first
              | (have hy := mk0; go_at_call 22; clear hy mk0; refine (two_calls_n HT5.out (n := D.calls) rfl).mono ?_; rintro e w' ⟨rfl, rfl⟩)
              | (go_at_call 22; refine (two_calls HT.out).mono ?_; rintro e w' ⟨rfl, rfl⟩)
              | (go_at_call 19; refine (two_arm W _ a b D D HT.out (by omega) (by rw [HARM.out]; simp) 1 2 true).mono ?_; rintro e w4 ⟨rfl, hT4⟩; rw [HA1.out] at hT4 ⊢; have z0 := (HAO.out.ext (hT4.world) fun h => h).cell 0 rfl; have z1 := (HAO.out.ext (hT4.world) fun h => h).cell 1 rfl; have z2 := (HAO.out.ext (hT4.world) fun h => h).cell 2 rfl; have z3 := (HAO.out.ext (hT4.world) fun h => h).cell 3 rfl; have z4 := (HAO.out.ext (hT4.world) fun h => h).cell 4 rfl; have z5 := (HAO.out.ext (hT4.world) fun h => h).cell 5 rfl; have z6 := (HAO.out.ext (hT4.world) fun h => h).cell 6 rfl; have z7 := (HAO.out.ext (hT4.world) fun h => h).cell 7 rfl; have z8 := (HAO.out.ext (hT4.world) fun h => h).cell 8 rfl; have z9 := (HAO.out.ext (hT4.world) fun h => h).cell 9 rfl; have HT4 := Lib.hid hT4; clear hT4)
              | (go_at_call 25; refine (two_does W _ a b (D.once 2 true) D HT4.out ⟨o, B, ks⟩ HOK.out (show D.calls ≤ _ by omega) (by simp [Dk.once]) (show B.length ≤ _ by omega)).mono ?_; rintro e w5 ⟨rfl, hT5⟩; rw [HRA.out] at hT5 ⊢; clear z0 z1 z2 z3 z4 z5 z6 z7 z8 z9; have z0 := (HAO.out.ext (hT5.world) fun h => h).cell 0 rfl; have z1 := (HAO.out.ext (hT5.world) fun h => h).cell 1 rfl; have z2 := (HAO.out.ext (hT5.world) fun h => h).cell 2 rfl; have z3 := (HAO.out.ext (hT5.world) fun h => h).cell 3 rfl; have z4 := (HAO.out.ext (hT5.world) fun h => h).cell 4 rfl; have z5 := (HAO.out.ext (hT5.world) fun h => h).cell 5 rfl; have z6 := (HAO.out.ext (hT5.world) fun h => h).cell 6 rfl; have z7 := (HAO.out.ext (hT5.world) fun h => h).cell 7 rfl; have z8 := (HAO.out.ext (hT5.world) fun h => h).cell 8 rfl; have z9 := (HAO.out.ext (hT5.world) fun h => h).cell 9 rfl; have HT5 := Lib.hid hT5; clear hT5; have mk0 : True := trivial)
              | (go_at_call 18; refine (num_any _ _).mono ?_; rintro e w' ⟨rfl, rfl⟩))
            have y := HAO.out.ext HT5.out.world fun h => h
            go_region_held3 (fun w' => w'.cell? ⟨w.heap.size + 1, 0, none⟩ = some (.int .i64 o.K) ∧ w'.cell? ⟨w.heap.size + 1, 1, none⟩ = some (.int .i64 o.who) ∧ w'.cell? ⟨w.heap.size + 1, 2, none⟩ = some (.string o.s) ∧ w'.cell? ⟨w.heap.size + 1, 3, none⟩ = some (.slice o.dx o.dn o.dc) ∧ w'.cell? ⟨w.heap.size + 1, 4, none⟩ = some (.int .i64 o.N) ∧ w'.cell? ⟨w.heap.size + 1, 5, none⟩ = some (.int .i64 o.t0) ∧ w'.cell? ⟨w.heap.size + 1, 6, none⟩ = some (.int .i64 o.t1) ∧ w'.cell? ⟨w.heap.size + 1, 7, none⟩ = some (.bool o.t2) ∧ w'.cell? ⟨w.heap.size + 1, 8, none⟩ = some (.slice o.kx o.kn o.kc) ∧ w'.cell? ⟨w.heap.size + 1, 9, none⟩ = some (.int .u8 o.junk))
              (first
                | exact ⟨z0, z1, z2, z3, z4, z5, z6, z7, z8, z9⟩
                | exact ⟨((HAO.out.ext HE6.out fun h => h)).cell 0 rfl, ((HAO.out.ext HE6.out fun h => h)).cell 1 rfl, ((HAO.out.ext HE6.out fun h => h)).cell 2 rfl, ((HAO.out.ext HE6.out fun h => h)).cell 3 rfl, ((HAO.out.ext HE6.out fun h => h)).cell 4 rfl, ((HAO.out.ext HE6.out fun h => h)).cell 5 rfl, ((HAO.out.ext HE6.out fun h => h)).cell 6 rfl, ((HAO.out.ext HE6.out fun h => h)).cell 7 rfl, ((HAO.out.ext HE6.out fun h => h)).cell 8 rfl, ((HAO.out.ext HE6.out fun h => h)).cell 9 rfl⟩
                | exact ⟨((HAO.out.ext HE9.out fun h => h)).cell 0 rfl, ((HAO.out.ext HE9.out fun h => h)).cell 1 rfl, ((HAO.out.ext HE9.out fun h => h)).cell 2 rfl, ((HAO.out.ext HE9.out fun h => h)).cell 3 rfl, ((HAO.out.ext HE9.out fun h => h)).cell 4 rfl, ((HAO.out.ext HE9.out fun h => h)).cell 5 rfl, ((HAO.out.ext HE9.out fun h => h)).cell 6 rfl, ((HAO.out.ext HE9.out fun h => h)).cell 7 rfl, ((HAO.out.ext HE9.out fun h => h)).cell 8 rfl, ((HAO.out.ext HE9.out fun h => h)).cell 9 rfl⟩)
              (first
                | (go_at_call 18; refine (num_any _ _).mono ?_; rintro e w' ⟨rfl, rfl⟩)
                | (go_at_call 21; refine (two_on (HT5.out.ext0 ((Ext.refl Nil w5).drew)) (o := false) HOFF.out).mono ?_; rintro e w' ⟨rfl, rfl⟩)
                | (go_at_call 25; refine (two_does W _ b a D _ (HT5.out.ext0 ((Ext.refl Nil w5).drew)).swap ⟨o, B, ks⟩ HOK.out (by omega) (by rw [HARM.out]; simp) (show B.length ≤ _ by omega)).mono ?_; rintro e w6 ⟨rfl, hT6⟩; rw [HRB.out] at hT6 ⊢; have HT6 := Lib.hid hT6.swap; have HE6 := Lib.hid hT6.world; clear hT6)
                | (go_at_call 26; refine (alike_m W _ a b (D.once 2 true) D HT6.out rfl rfl).mono ?_; rintro e w9 ⟨rfl, e9⟩; have HE9 := Lib.hid (HE6.out.same e9); clear e9))
            go_wp2_with fail
            go_ret
            exact ⟨rfl, HE.out.same HE9.out⟩
end Go.Proofs.Ytnppneilbkmnfaa
