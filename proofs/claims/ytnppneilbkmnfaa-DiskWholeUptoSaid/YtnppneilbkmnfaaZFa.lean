/- The walk of the law DiskFaults: it returns true, and no older memory turns. Condition: the arguments can be read. -/
import Derived.Test.YtnppneilbkmnfaaZAk
namespace Go.Proofs.Ytnppneilbkmnfaa
open Go.RowKit

theorem calm_does {D : Dk} (h : D.arms = []) (ho : D.off = false) (o : OpD) (B : List UInt8) (hK : o.K ≠ 11) : (D.does o B).1.arms = [] ∧ (D.does o B).1.off = false ∧ (D.does o B).1.out = D.out ∧ (D.does o B).1.calls ≤ D.calls + 1 := by
  rw [does_calm h o B hK]
  split
  · split
    · exact ⟨h, ho, rfl, by simp⟩
    · exact ⟨h, ho, rfl, Nat.le_refl _⟩
  · exact ⟨h, ho, rfl, by simp⟩
/-- two disks that differ in their calls alone -/
structure Alike (A D : Dk) : Prop where
  fs : A.fs = D.fs
  off : A.off = D.off
  lim : A.lim = D.lim
  on : D.off = false
  armsA : A.arms = []
  armsD : D.arms = []
theorem alike_does {A D : Dk} (h : Alike A D) (o : OpD) (B : List UInt8) (hK : o.K ≠ 11) : (A.does o B).2 = (D.does o B).2 ∧ Alike (A.does o B).1 (D.does o B).1 ∧ (A.does o B).1.calls ≤ A.calls + 1 ∧ (D.does o B).1.calls ≤ D.calls + 1 := by
  have ha := asks_same h.off h.fs h.lim o B
  rw [does_calm h.armsA o B hK, does_calm h.armsD o B hK, ha]
  split
  · split
    · exact ⟨rfl, h, by simp, by simp⟩
    · exact ⟨rfl, ⟨by show o.act B A.fs = o.act B D.fs; rw [h.fs], h.off, h.lim, h.on, h.armsA, h.armsD⟩, Nat.le_refl _, Nat.le_refl _⟩
  · exact ⟨rfl, h, by simp, by simp⟩
/-- a trouble for the next call -/
def Dk.once (D : Dk) (k : Int) (f : Bool) : Dk := { D with arms := [⟨D.calls + 1, 1, k, f⟩] }
theorem arm_once {D : Dk} (h : D.arms = []) (ho : D.off = false) (k : Int) (f : Bool) (hk : (k = 1 ∧ f = false) ∨ k = 2) : D.arm 1 k f = (D.once k f, 0) := by
  unfold Dk.arm Dk.once
  rw [ho, if_neg (by simp), if_neg (by
    rintro (h | h | h | ⟨h1, h2⟩)
    · omega
    · omega
    · rcases hk with ⟨h3, -⟩ | h3
      · exact h.1 h3
      · exact h.2 h3
    · rcases hk with ⟨-, h3⟩ | h3
      · rw [h1] at h3; cases h3
      · omega), h]
  rfl
theorem once_tick (D : Dk) (k : Int) (f : Bool) : (D.once k f).tick = { D with arms := [], calls := D.calls + 1 } := by
  unfold Dk.once Dk.tick
  simp
theorem once_hit (D : Dk) (k : Int) (f : Bool) : (D.once k f).hit = some ⟨D.calls + 1, 1, k, f⟩ := by
  unfold Dk.once Dk.hit
  simp
theorem once_asks (D : Dk) (k : Int) (f : Bool) (o : OpD) (B : List UInt8) : (D.once k f).asks o B = D.asks o B := asks_same rfl rfl rfl o B
theorem once_fault (D : Dk) (o : OpD) (B : List UInt8) (h : 1 ≤ o.K ∧ o.K ≤ 5) : (D.once 1 false).does o B = if D.asks o B ≠ 0 then (D.once 1 false, D.asks o B) else ({ D with arms := [], calls := D.calls + 1 }, 64) := by
  rw [does_num _ o B h, once_asks]
  unfold Dk.num
  rw [once_hit, once_tick]
  simp
theorem once_power (D : Dk) (f : Bool) (o : OpD) (B : List UInt8) (h : 1 ≤ o.K ∧ o.K ≤ 5) : (D.once 2 f).does o B = if D.asks o B ≠ 0 then (D.once 2 f, D.asks o B) else ({ D with fs := if f then o.act B D.fs else D.fs, arms := [], calls := D.calls + 1, off := true }, 63) := by
  rw [does_num _ o B h, once_asks]
  unfold Dk.num
  rw [once_hit, once_tick]
  cases f <;> simp
theorem two_on {W w : World} {a b : Nat} {A B : Dk} (h : Two W w a A b B) {o : Bool} (ho : A.off = o) : Calls Try.prog 21 #[.pointer (some ⟨a, 0, none⟩)] w fun e w' => e = .returned (.bool (!o)) ∧ w = w' := life_on_b h.first ho
theorem two_calls {W w : World} {a b : Nat} {A B : Dk} (h : Two W w a A b B) : Calls Try.prog 22 #[.pointer (some ⟨a, 0, none⟩)] w fun e w' => e = .returned (.int .i64 A.calls) ∧ w = w' := life_calls h.first
theorem two_calls_n {W w : World} {a b : Nat} {A B : Dk} (h : Two W w a A b B) {n : Nat} (hn : A.calls = n) : Calls Try.prog 22 #[.pointer (some ⟨a, 0, none⟩)] w fun e w' => e = .returned (.int .i64 n) ∧ w = w' := by
  rw [← hn]
  exact two_calls h
theorem Two.world {W w : World} {a b : Nat} {A B : Dk} (h : Two W w a A b B) : Ext Nil W w := h.first.world

set_option maxRecDepth 20000 in
set_option maxHeartbeats 4000000 in
theorem faults_any (w : World) (lim : Int) (m : Bool) (v : Value) (I : List FI) (hI : ImgR w v I) (sv : Value) (L : List OpI) (hS : ScrR w sv L) (o : OpD) (B : List UInt8) (ks : List Int) (ho : OpOk w o B ks) (hB : B.length ≤ 1048576) (lv : Value) (L2 : List OpI) (hS2 : ScrR w lv L2) :
    Calls Try.prog 4 #[.agg #[.int .i64 lim, .bool m, v], sv, .agg #[.int .i64 o.K, .int .i64 o.who, .string o.s, .slice o.dx o.dn o.dc, .int .i64 o.N, .int .i64 o.t0, .int .i64 o.t1, .bool o.t2, .slice o.kx o.kn o.kc, .int .u8 o.junk], lv] w fun e w' => e = .returned (.bool true) ∧ Ext Nil w w' := by
  obtain ⟨al, cl, rfl, hl1, hl2⟩ := hS2.shape
  unfold maxLen at hl2
  obtain ⟨-, ao, cap, rfl, -, -, -⟩ := hI.row
  obtain ⟨as_, cs, rfl, hs1, hs2⟩ := hS.shape
  have e1 : Ext Nil w (w.alloc (.cells #[.int .i64 lim, .bool m, .slice ao I.length cap] 44 (0, 0))) := (Ext.refl _ _).alloc _
  have a1 := At.new w [.int .i64 lim, .bool m, .slice ao I.length cap] 44
  have s1 : (w.alloc (.cells #[.int .i64 lim, .bool m, .slice ao I.length cap] 44 (0, 0))).heap.size = w.heap.size + 1 := by simp
  have a2 := At.new (w.alloc (.cells #[.int .i64 lim, .bool m, .slice ao I.length cap] 44 (0, 0))) [.int .i64 o.K, .int .i64 o.who, .string o.s, .slice o.dx o.dn o.dc, .int .i64 o.N, .int .i64 o.t0, .int .i64 o.t1, .bool o.t2, .slice o.kx o.kn o.kc, .int .u8 o.junk] 47
  rw [s1] at a2
  obtain ⟨W, hW⟩ : ∃ W, W = (w.alloc (.cells #[.int .i64 lim, .bool m, .slice ao I.length cap] 44 (0, 0))).alloc (.cells #[.int .i64 o.K, .int .i64 o.who, .string o.s, .slice o.dx o.dn o.dc, .int .i64 o.N, .int .i64 o.t0, .int .i64 o.t1, .bool o.t2, .slice o.kx o.kn o.kc, .int .u8 o.junk] 47 (0, 0)) := ⟨_, rfl⟩
  have eW : Ext Nil w W := by rw [hW]; exact e1.alloc _
  have AM : At W w.heap.size 44 [.int .i64 lim, .bool m, .slice ao I.length cap] := by rw [hW]; exact a1.alloc _
  have AO : At W (w.heap.size + 1) 47 [.int .i64 o.K, .int .i64 o.who, .string o.s, .slice o.dx o.dn o.dc, .int .i64 o.N, .int .i64 o.t0, .int .i64 o.t1, .bool o.t2, .slice o.kx o.kn o.kc, .int .u8 o.junk] := by rw [hW]; exact a2
  have hfew := hS.few
  unfold maxLen at hs2
  have HI := Lib.hid (hI.ext eW fun _ _ h => h); have HE := Lib.hid eW; have HS := Lib.hid (hS.ext0 eW); have HAM := Lib.hid AM; have HAO := Lib.hid AO; have HOK := Lib.hid (ho.ext0 eW); have HS2 := Lib.hid (hS2.ext0 eW); have hfew2 := hS2.few
  have m0 := AM.cell 0 rfl
  have m1 := AM.cell 1 rfl
  have m2 := AM.cell 2 rfl
  clear eW AM AO hS hI ho e1 a1 s1 a2 hS2
  go_enter Try.func4, Try.ntmps4
  go_wp2_with fail
  rw [← hW]
  clear hW
  go_wp2_with (first
    | (have hy := mk; go_at_call 24; clear hy mk; refine (lives_m _ lim m _ I (HI.out.ext HL1.out.world fun _ _ h => h)).mono ?_; rintro e w2 ⟨b, rfl, hL2⟩; have HT0 := Lib.hid (Two.make HL1.out hL2); clear hL2 n0 n1 n2)
    | (go_at_call 24; refine (lives_m W lim m _ I HI.out).mono ?_; rintro e w1 ⟨a, rfl, hL1⟩; have n0 := hL1.world.cell m0 fun h => h; have n1 := hL1.world.cell m1 fun h => h; have n2 := hL1.world.cell m2 fun h => h; have HL1 := Lib.hid hL1; clear hL1 m0 m1 m2; have mk : True := trivial))
  have hcalm := livesD_calm lim m I
  generalize livesD lim m I = D0 at *
  have HC := Lib.hid hcalm
  clear HL1 hcalm
  go_loopw [13] (fun i wr => ∃ (k : Nat) (D : Dk), i = .int .i64 (k : Int) ∧ k ≤ L.length ∧ Two W wr a D b D ∧ D.calls ≤ k ∧ D.arms = [] ∧ D.off = false ∧ D.out = false) (fun i _ => L.length - (intOf i).toNat)
  case atStart => exact ⟨0, D0, rfl, Nat.zero_le _, HT0.out, by rw [HC.out.2.2.1]; exact Nat.le_refl _, HC.out.2.2.2, HC.out.1, HC.out.2.1⟩
  case round =>
    obtain ⟨k, D, rfl, hk, hT, hc, harms, hoff, hout⟩ := hrel
    by_cases hlt : k < L.length
    · obtain ⟨x, hx⟩ : ∃ x, L[k]? = some x := ⟨_, List.getElem?_eq_getElem hlt⟩
      have hxm := List.mem_of_getElem? hx
      obtain ⟨bs, os, rfl, hbl, Q0, Q1, Q2, Q3, Q4, Q5, Q6, Q7, Q8, Q9⟩ := HS.out.cells hx
      have HQ := Lib.hid (show _ ∧ _ ∧ _ ∧ _ ∧ _ ∧ _ ∧ _ ∧ _ ∧ _ ∧ _ from ⟨Q0, Q1, Q2, Q3, Q4, Q5, Q6, Q7, Q8, Q9⟩)
      have q0 := hT.world.cell Q0 fun h => h
      by_cases hK : x.o.K = 11
      · rw [hK] at q0
        have HT := Lib.hid hT; have HF := Lib.hid (And.intro harms (And.intro hoff hout))
        clear hT harms hoff hout hK hx hxm Q0 Q1 Q2 Q3 Q4 Q5 Q6 Q7 Q8 Q9
        go_wp2_with fail
        exact ⟨⟨k + 1, D, by go_num, by omega, HT.out, by omega, HF.out.1, HF.out.2.1, HF.out.2.2⟩, by simp [intOf]; omega⟩
      · have hkb : (x.o.K != 11) = true := by rw [bne_iff_ne]; exact hK
        have q1 := hT.world.cell Q1 fun h => h
        have q2 := hT.world.cell Q2 fun h => h
        have q3 := hT.world.cell Q3 fun h => h
        have q4 := hT.world.cell Q4 fun h => h
        have q5 := hT.world.cell Q5 fun h => h
        have q6 := hT.world.cell Q6 fun h => h
        have q7 := hT.world.cell Q7 fun h => h
        have q8 := hT.world.cell Q8 fun h => h
        have q9 := hT.world.cell Q9 fun h => h
        have hok := HS.out.ok x hxm
        have hsm := (HS.out.small x hxm).1
        have hcd := calm_does harms hoff x.o x.B hK
        have hd1 := two_does W wr a b D D hT x hok (by omega) (by rw [harms]; simp) (by omega)
        have HD1 := Lib.hid hd1; have HCD := Lib.hid hcd; have HOKX := Lib.hid hok; have HA := Lib.hid (show D.arms.length ≤ 1099511627776 by rw [harms]; simp)
        have HF := Lib.hid hout
        clear hd1 hcd hok hT harms hoff hout hK hx hxm Q0 Q1 Q2 Q3 Q4 Q5 Q6 Q7 Q8 Q9
        go_wp2_with (first
          | (have hy := mk; go_at_call 25; clear hy mk; refine (two_does W w3 b a D _ HT3.out.swap x HOKX.out (by omega) HA.out (by omega)).mono ?_; rintro e w4 ⟨rfl, hT4⟩; have HT4 := Lib.hid hT4.swap; clear hT4)
          | (go_at_call 25; refine (HD1.out).mono ?_; rintro e w3 ⟨rfl, hT3⟩; have HT3 := Lib.hid hT3; clear q0 q1 q2 q3 q4 q5 q6 q7 q8 q9; obtain ⟨Q0, Q1, Q2, Q3, Q4, Q5, Q6, Q7, Q8, Q9⟩ := HQ.out; have q0 := hT3.world.cell Q0 fun h => h; have q1 := hT3.world.cell Q1 fun h => h; have q2 := hT3.world.cell Q2 fun h => h; have q3 := hT3.world.cell Q3 fun h => h; have q4 := hT3.world.cell Q4 fun h => h; have q5 := hT3.world.cell Q5 fun h => h; have q6 := hT3.world.cell Q6 fun h => h; have q7 := hT3.world.cell Q7 fun h => h; have q8 := hT3.world.cell Q8 fun h => h; have q9 := hT3.world.cell Q9 fun h => h; clear Q0 Q1 Q2 Q3 Q4 Q5 Q6 Q7 Q8 Q9; clear hT3; have mk : True := trivial))
        exact ⟨⟨k + 1, _, by go_num, by omega, HT4.out, by have := HCD.out.2.2.2; omega, HCD.out.1, HCD.out.2.1, by rw [HCD.out.2.2.1]; exact HF.out⟩, by simp [intOf]; omega⟩
    · have hnot : ¬ (k : Int) < (L.length : Int) := by omega
      have hc2 : D.calls ≤ 1048576 := by omega
      have hA1 := arm_once harms hoff 1 false (.inl ⟨rfl, rfl⟩)
      have HA1 := Lib.hid hA1; have HT := Lib.hid hT; have HARM := Lib.hid harms; have HOFF := Lib.hid hoff; have HOUT := Lib.hid hout
      clear hA1 hT harms hoff hout hlt

      have z0 := (HAO.out.ext HT.out.world fun h => h).cell 0 rfl
      have z0 := (HAO.out.ext HT.out.world fun h => h).cell 0 rfl
      by_cases hK1 : 1 ≤ o.K
      · by_cases hK2 : o.K ≤ 5
        · have hra := once_fault D o B ⟨hK1, hK2⟩
          have hrb := does_calm HARM.out o B (by omega)
          rw [if_pos ⟨hK1, hK2⟩] at hrb
          by_cases hr : D.asks o B = 0
          · rw [if_neg (by omega)] at hra
            have HRA := Lib.hid hra
            clear hra hrb hr
            obtain ⟨N1, hN1⟩ : ∃ N1, N1 = D.calls + 1 := ⟨_, rfl⟩
            have hw1 : IntKind.i64.wrap ((D.calls : Int) + 1) = (N1 : Int) := by rw [IntWalk.i64_in _ (by omega)]; omega
            have hne : ((N1 : Int) == (D.calls : Int)) = false := by rw [beq_eq_false_iff_ne]; omega
            have hnn : (N1 == D.calls) = false := by rw [beq_eq_false_iff_ne]; omega
            have HN1 := Lib.hid hN1
            clear hN1
            go_wp2_with (first
              | (have hy := mk2; go_at_call 22; clear hy mk2; refine (two_calls_n HT5.out.swap (n := D.calls) rfl).mono ?_; rintro e w' ⟨rfl, rfl⟩)
              | (have hy := mk1; go_at_call 22; clear hy mk1; refine (two_calls_n HT5.out (n := N1) HN1.out.symm).mono ?_; rintro e w' ⟨rfl, rfl⟩; have mk2 : True := trivial)
              | (have hy := mk0; go_at_call 22; clear hy mk0; refine (two_calls_n HT5.out (n := N1) HN1.out.symm).mono ?_; rintro e w' ⟨rfl, rfl⟩; have mk1 : True := trivial)
              | (go_at_call 25; refine (two_does W _ a b (D.once 1 false) D HT4.out ⟨o, B, ks⟩ HOK.out (show D.calls ≤ _ by omega) (by simp [Dk.once]) (show B.length ≤ _ by omega)).mono ?_; rintro e w5 ⟨rfl, hT5⟩; rw [HRA.out] at hT5 ⊢; clear z0 z1 z2 z3 z4 z5 z6 z7 z8 z9; have z0 := (HAO.out.ext (hT5.world) fun h => h).cell 0 rfl; have z1 := (HAO.out.ext (hT5.world) fun h => h).cell 1 rfl; have z2 := (HAO.out.ext (hT5.world) fun h => h).cell 2 rfl; have z3 := (HAO.out.ext (hT5.world) fun h => h).cell 3 rfl; have z4 := (HAO.out.ext (hT5.world) fun h => h).cell 4 rfl; have z5 := (HAO.out.ext (hT5.world) fun h => h).cell 5 rfl; have z6 := (HAO.out.ext (hT5.world) fun h => h).cell 6 rfl; have z7 := (HAO.out.ext (hT5.world) fun h => h).cell 7 rfl; have z8 := (HAO.out.ext (hT5.world) fun h => h).cell 8 rfl; have z9 := (HAO.out.ext (hT5.world) fun h => h).cell 9 rfl; have HT5 := Lib.hid hT5; clear hT5; have mk0 : True := trivial)
              | (go_at_call 22; refine (two_calls HT.out).mono ?_; rintro e w' ⟨rfl, rfl⟩)
              | (go_at_call 26; refine (alike_m W _ a b D D HT.out rfl rfl).mono ?_; rintro e w3 ⟨rfl, e3⟩; have HT3 := Lib.hid (HT.out.ext0 e3); clear e3 z0)
              | (go_at_call 19; refine (two_arm W _ a b D D HT3.out (by omega) (by rw [HARM.out]; simp) 1 1 false).mono ?_; rintro e w4 ⟨rfl, hT4⟩; rw [HA1.out] at hT4 ⊢; have z0 := (HAO.out.ext (hT4.world) fun h => h).cell 0 rfl; have z1 := (HAO.out.ext (hT4.world) fun h => h).cell 1 rfl; have z2 := (HAO.out.ext (hT4.world) fun h => h).cell 2 rfl; have z3 := (HAO.out.ext (hT4.world) fun h => h).cell 3 rfl; have z4 := (HAO.out.ext (hT4.world) fun h => h).cell 4 rfl; have z5 := (HAO.out.ext (hT4.world) fun h => h).cell 5 rfl; have z6 := (HAO.out.ext (hT4.world) fun h => h).cell 6 rfl; have z7 := (HAO.out.ext (hT4.world) fun h => h).cell 7 rfl; have z8 := (HAO.out.ext (hT4.world) fun h => h).cell 8 rfl; have z9 := (HAO.out.ext (hT4.world) fun h => h).cell 9 rfl; have HT4 := Lib.hid hT4; clear hT4)
              | (go_at_call 18; refine (num_any _ _).mono ?_; rintro e w' ⟨rfl, rfl⟩))
            have hAl : Alike ({ D with arms := [], calls := D.calls + 1 } : Dk) D := ⟨rfl, rfl, rfl, HOFF.out, rfl, HARM.out⟩
            have HAL := Lib.hid hAl
            clear hAl hw1 hne hnn z0 z1 z2 z3 z4 z5 z6 z7 z8 z9
            go_loopw [17] (fun i wq => ∃ (q : Nat) (A E : Dk), i = .int .i64 (q : Int) ∧ q ≤ L2.length ∧ Two W wq a A b E ∧ Alike A E ∧ A.calls ≤ 1048577 + q ∧ E.calls ≤ 1048577 + q) (fun i _ => L2.length - (intOf i).toNat)
            case atStart => exact ⟨0, _, _, rfl, Nat.zero_le _, HT5.out, HAL.out, (show D.calls + 1 ≤ _ by omega), by omega⟩
            case round =>
              obtain ⟨q, A, E, rfl, hq, hT, hal, hcA, hcE⟩ := hrel
              by_cases hql : q < L2.length
              · obtain ⟨x, hx⟩ : ∃ x, L2[q]? = some x := ⟨_, List.getElem?_eq_getElem hql⟩
                have hxm := List.mem_of_getElem? hx
                obtain ⟨bs, os, rfl, hbl, Q0, Q1, Q2, Q3, Q4, Q5, Q6, Q7, Q8, Q9⟩ := HS2.out.cells hx
                have HQ := Lib.hid (show _ ∧ _ ∧ _ ∧ _ ∧ _ ∧ _ ∧ _ ∧ _ ∧ _ ∧ _ from ⟨Q0, Q1, Q2, Q3, Q4, Q5, Q6, Q7, Q8, Q9⟩)
                have q0 := hT.world.cell Q0 fun h => h
                by_cases hK : x.o.K = 11
                · rw [hK] at q0
                  have HTT := Lib.hid hT; have HALL := Lib.hid hal
                  clear hT hal hK hx hxm Q0 Q1 Q2 Q3 Q4 Q5 Q6 Q7 Q8 Q9
                  go_wp2_with fail
                  exact ⟨⟨q + 1, A, E, by go_num, by omega, HTT.out, HALL.out, by omega, by omega⟩, by simp [intOf]; omega⟩
                · have hkb : (x.o.K == 11) = false := by rw [beq_eq_false_iff_ne]; exact hK
                  have q1 := hT.world.cell Q1 fun h => h
                  have q2 := hT.world.cell Q2 fun h => h
                  have q3 := hT.world.cell Q3 fun h => h
                  have q4 := hT.world.cell Q4 fun h => h
                  have q5 := hT.world.cell Q5 fun h => h
                  have q6 := hT.world.cell Q6 fun h => h
                  have q7 := hT.world.cell Q7 fun h => h
                  have q8 := hT.world.cell Q8 fun h => h
                  have q9 := hT.world.cell Q9 fun h => h
                  have hok := HS2.out.ok x hxm
                  have hsm := (HS2.out.small x hxm).1
                  have hcd := alike_does hal x.o x.B hK
                  have hd1 := two_does W wr a b A E hT x hok (by omega) (by rw [hal.armsA]; simp) (by omega)
                  have HD1 := Lib.hid hd1; have HCD := Lib.hid hcd; have HOKX := Lib.hid hok; have HA := Lib.hid (show E.arms.length ≤ 1099511627776 by rw [hal.armsD]; simp)
                  clear hd1 hcd hok hT hal hK hx hxm Q0 Q1 Q2 Q3 Q4 Q5 Q6 Q7 Q8 Q9
                  go_wp2_with (first
                    | (have hy := mk; go_at_call 25; clear hy mk; refine (two_does W w7 b a E _ HT7.out.swap x HOKX.out (by omega) HA.out (by omega)).mono ?_; rintro e w8 ⟨rfl, hT8⟩; have HT8 := Lib.hid hT8.swap; clear hT8; have hEq := HCD.out.1; have hb1 : ((A.does x.o x.B).2 != (E.does x.o x.B).2) = false := (by rw [hEq]; simp); clear hEq)
                    | (go_at_call 25; refine (HD1.out).mono ?_; rintro e w7 ⟨rfl, hT7⟩; have HT7 := Lib.hid hT7; clear q0 q1 q2 q3 q4 q5 q6 q7 q8 q9; obtain ⟨Q0, Q1, Q2, Q3, Q4, Q5, Q6, Q7, Q8, Q9⟩ := HQ.out; have q0 := hT7.world.cell Q0 fun h => h; have q1 := hT7.world.cell Q1 fun h => h; have q2 := hT7.world.cell Q2 fun h => h; have q3 := hT7.world.cell Q3 fun h => h; have q4 := hT7.world.cell Q4 fun h => h; have q5 := hT7.world.cell Q5 fun h => h; have q6 := hT7.world.cell Q6 fun h => h; have q7 := hT7.world.cell Q7 fun h => h; have q8 := hT7.world.cell Q8 fun h => h; have q9 := hT7.world.cell Q9 fun h => h; clear Q0 Q1 Q2 Q3 Q4 Q5 Q6 Q7 Q8 Q9; clear hT7; have mk : True := trivial)
                    | (go_at_call 18; refine (num_any _ _).mono ?_; rintro e w' ⟨rfl, rfl⟩))
                  exact ⟨⟨q + 1, _, _, by go_num, by omega, HT8.out, HCD.out.2.1, by have := HCD.out.2.2.1; omega, by have := HCD.out.2.2.2; omega⟩, by simp [intOf]; omega⟩
              · have hnot2 : ¬ (q : Int) < (L2.length : Int) := by omega
                have HTT := Lib.hid hT; have HALL := Lib.hid hal
                clear hT hal hql
                go_wp2_with (go_at_call 26; refine (alike_m W _ a b A E HTT.out HALL.out.fs HALL.out.off).mono ?_; rintro e w9 ⟨rfl, e9⟩; have HE9 := Lib.hid (HTT.out.world.same e9); clear e9)
                go_ret
                exact ⟨rfl, HE.out.same HE9.out⟩
          · rw [if_pos hr] at hra hrb
            have hr64 := (asks_on HOFF.out o B).2
            obtain ⟨r, hrr⟩ : ∃ r, r = D.asks o B := ⟨_, rfl⟩
            rw [← hrr] at hra hrb hr hr64
            have HRA := Lib.hid hra; have HRB := Lib.hid hrb
            have r0 : (r != 0) = true := by rw [bne_iff_ne]; exact hr
            have r64 : (r != 64) = true := by rw [bne_iff_ne]; exact hr64
            clear hra hrb hr hr64 hrr
            go_wp2_with (first
              | (go_at_call 26; refine (alike_m W _ a b (D.once 1 false) D HT6.out rfl rfl).mono ?_; rintro e w7 ⟨rfl, e7⟩; have HE7 := Lib.hid (HT6.out.world.same e7); clear e7)
              | (have hy := mk0; go_at_call 22; clear hy mk0; refine (two_calls_n HT5.out (n := D.calls) rfl).mono ?_; rintro e w' ⟨rfl, rfl⟩)
              | (go_at_call 25; refine (two_does W _ b a D (D.once 1 false) HT5.out.swap ⟨o, B, ks⟩ HOK.out (by omega) (by rw [HARM.out]; simp) (show B.length ≤ _ by omega)).mono ?_; rintro e w6 ⟨rfl, hT6⟩; rw [HRB.out] at hT6 ⊢; clear z0 z1 z2 z3 z4 z5 z6 z7 z8 z9; have HT6 := Lib.hid hT6.swap; clear hT6)
              | (go_at_call 25; refine (two_does W _ a b (D.once 1 false) D HT4.out ⟨o, B, ks⟩ HOK.out (show D.calls ≤ _ by omega) (by simp [Dk.once]) (show B.length ≤ _ by omega)).mono ?_; rintro e w5 ⟨rfl, hT5⟩; rw [HRA.out] at hT5 ⊢; clear z0 z1 z2 z3 z4 z5 z6 z7 z8 z9; have z0 := (HAO.out.ext (hT5.world) fun h => h).cell 0 rfl; have z1 := (HAO.out.ext (hT5.world) fun h => h).cell 1 rfl; have z2 := (HAO.out.ext (hT5.world) fun h => h).cell 2 rfl; have z3 := (HAO.out.ext (hT5.world) fun h => h).cell 3 rfl; have z4 := (HAO.out.ext (hT5.world) fun h => h).cell 4 rfl; have z5 := (HAO.out.ext (hT5.world) fun h => h).cell 5 rfl; have z6 := (HAO.out.ext (hT5.world) fun h => h).cell 6 rfl; have z7 := (HAO.out.ext (hT5.world) fun h => h).cell 7 rfl; have z8 := (HAO.out.ext (hT5.world) fun h => h).cell 8 rfl; have z9 := (HAO.out.ext (hT5.world) fun h => h).cell 9 rfl; have HT5 := Lib.hid hT5; clear hT5; have mk0 : True := trivial)
              | (go_at_call 22; refine (two_calls HT.out).mono ?_; rintro e w' ⟨rfl, rfl⟩)
              | (go_at_call 26; refine (alike_m W _ a b D D HT.out rfl rfl).mono ?_; rintro e w3 ⟨rfl, e3⟩; have HT3 := Lib.hid (HT.out.ext0 e3); clear e3 z0)
              | (go_at_call 19; refine (two_arm W _ a b D D HT3.out (by omega) (by rw [HARM.out]; simp) 1 1 false).mono ?_; rintro e w4 ⟨rfl, hT4⟩; rw [HA1.out] at hT4 ⊢; have z0 := (HAO.out.ext (hT4.world) fun h => h).cell 0 rfl; have z1 := (HAO.out.ext (hT4.world) fun h => h).cell 1 rfl; have z2 := (HAO.out.ext (hT4.world) fun h => h).cell 2 rfl; have z3 := (HAO.out.ext (hT4.world) fun h => h).cell 3 rfl; have z4 := (HAO.out.ext (hT4.world) fun h => h).cell 4 rfl; have z5 := (HAO.out.ext (hT4.world) fun h => h).cell 5 rfl; have z6 := (HAO.out.ext (hT4.world) fun h => h).cell 6 rfl; have z7 := (HAO.out.ext (hT4.world) fun h => h).cell 7 rfl; have z8 := (HAO.out.ext (hT4.world) fun h => h).cell 8 rfl; have z9 := (HAO.out.ext (hT4.world) fun h => h).cell 9 rfl; have HT4 := Lib.hid hT4; clear hT4)
              | (go_at_call 18; refine (num_any _ _).mono ?_; rintro e w' ⟨rfl, rfl⟩))
            go_ret
            exact ⟨rfl, HE.out.same HE7.out⟩
        · go_wp2_with (first
          | (go_at_call 26; refine (alike_m W _ a b (D.once 1 false) D HT4.out rfl rfl).mono ?_; rintro e w7 ⟨rfl, e7⟩; have HE7 := Lib.hid (HT4.out.world.same e7); clear e7)
          | (go_at_call 22; refine (two_calls HT.out).mono ?_; rintro e w' ⟨rfl, rfl⟩)
          | (go_at_call 26; refine (alike_m W _ a b D D HT.out rfl rfl).mono ?_; rintro e w3 ⟨rfl, e3⟩; have HT3 := Lib.hid (HT.out.ext0 e3); clear e3 z0)
          | (go_at_call 19; refine (two_arm W _ a b D D HT3.out (by omega) (by rw [HARM.out]; simp) 1 1 false).mono ?_; rintro e w4 ⟨rfl, hT4⟩; rw [HA1.out] at hT4 ⊢; have z0 := (HAO.out.ext (hT4.world) fun h => h).cell 0 rfl; have z1 := (HAO.out.ext (hT4.world) fun h => h).cell 1 rfl; have z2 := (HAO.out.ext (hT4.world) fun h => h).cell 2 rfl; have z3 := (HAO.out.ext (hT4.world) fun h => h).cell 3 rfl; have z4 := (HAO.out.ext (hT4.world) fun h => h).cell 4 rfl; have z5 := (HAO.out.ext (hT4.world) fun h => h).cell 5 rfl; have z6 := (HAO.out.ext (hT4.world) fun h => h).cell 6 rfl; have z7 := (HAO.out.ext (hT4.world) fun h => h).cell 7 rfl; have z8 := (HAO.out.ext (hT4.world) fun h => h).cell 8 rfl; have z9 := (HAO.out.ext (hT4.world) fun h => h).cell 9 rfl; have HT4 := Lib.hid hT4; clear hT4)
          | (go_at_call 18; refine (num_any _ _).mono ?_; rintro e w' ⟨rfl, rfl⟩))
          go_ret
          exact ⟨rfl, HE.out.same HE7.out⟩
      · go_wp2_with (first
        | (go_at_call 26; refine (alike_m W _ a b (D.once 1 false) D HT4.out rfl rfl).mono ?_; rintro e w7 ⟨rfl, e7⟩; have HE7 := Lib.hid (HT4.out.world.same e7); clear e7)
        | (go_at_call 22; refine (two_calls HT.out).mono ?_; rintro e w' ⟨rfl, rfl⟩)
        | (go_at_call 26; refine (alike_m W _ a b D D HT.out rfl rfl).mono ?_; rintro e w3 ⟨rfl, e3⟩; have HT3 := Lib.hid (HT.out.ext0 e3); clear e3 z0)
        | (go_at_call 19; refine (two_arm W _ a b D D HT3.out (by omega) (by rw [HARM.out]; simp) 1 1 false).mono ?_; rintro e w4 ⟨rfl, hT4⟩; rw [HA1.out] at hT4 ⊢; have z0 := (HAO.out.ext (hT4.world) fun h => h).cell 0 rfl; have z1 := (HAO.out.ext (hT4.world) fun h => h).cell 1 rfl; have z2 := (HAO.out.ext (hT4.world) fun h => h).cell 2 rfl; have z3 := (HAO.out.ext (hT4.world) fun h => h).cell 3 rfl; have z4 := (HAO.out.ext (hT4.world) fun h => h).cell 4 rfl; have z5 := (HAO.out.ext (hT4.world) fun h => h).cell 5 rfl; have z6 := (HAO.out.ext (hT4.world) fun h => h).cell 6 rfl; have z7 := (HAO.out.ext (hT4.world) fun h => h).cell 7 rfl; have z8 := (HAO.out.ext (hT4.world) fun h => h).cell 8 rfl; have z9 := (HAO.out.ext (hT4.world) fun h => h).cell 9 rfl; have HT4 := Lib.hid hT4; clear hT4)
        | (go_at_call 18; refine (num_any _ _).mono ?_; rintro e w' ⟨rfl, rfl⟩))
        go_ret
        exact ⟨rfl, HE.out.same HE7.out⟩
end Go.Proofs.Ytnppneilbkmnfaa
