/- The walk of the law DiskSynced: it returns true, and no older memory turns. Condition: the arguments can be read. -/
import Derived.Test.YtnppneilbkmnfaaZTw
import Derived.Test.YtnppneilbkmnfaaZBk
namespace Go.Proofs.Ytnppneilbkmnfaa
open Go.RowKit

theorem ls_crash (W w : World) (d : Nat) (D : Dk) (u : Value) (l : List SI) (h : LS W w d D u l) {kv : Value} {keep : List Int} (hk : Reads w 1 kv keep.length (keep.map (.int .i64 ·))) (hlt : ∀ k, inFoot kv k → k < W.heap.size) (junk : UInt8) :
    Calls Try.prog 23 #[.pointer (some ⟨d, 0, none⟩), kv, .int .u8 junk.toNat] w fun e w' => ∃ v il, e = .returned (.tuple #[.agg #[v], .int .i64 D.crash.2]) ∧ il.map FI.pair = D.told keep junk ∧ ImgO w' v il ∧ Row kSafe w' u l ∧ Ext Nil W w' := by
  obtain ⟨F, h1, h2, h3, h4, h5⟩ := h
  refine (crash_m w d D F h1 kv keep hk (fun k hk hf => by have := h2 k hf; have := hlt k hk; omega) junk).mono ?_
  rintro e w' ⟨v, il, rfl, h⟩
  exact ⟨v, il, rfl, h.pairs, h.own, h4.extF h.ext fun k hk e => h5 k hk (by have e : k = d := e; rw [e]; exact h1.self), h3.trans h.ext fun i hi e => by have e : i = d := e; have := h2 d h1.self; omega⟩
theorem begins_f (w : World) (a b : Value) (A B : List UInt8) (ha : Bytes w a A) (hb : Bytes w b B) (h : ¬ A <+: B) :
    Calls Try.prog 31 #[a, b] w fun e w' => e = .returned (.bool false) ∧ ∃ n, w' = w.drewN n :=
  (begins_m w a b A B ha hb).mono fun e w' hq => ⟨by rw [hq.1, decide_eq_false h], hq.2⟩
/-- what the law has found of an item among the first files -/
def fndL (x : SI) (il : List FI) (j : Nat) : Bool := x.op || (il.take j).any fun y => y.nm == x.nm && decide (x.b <+: y.b)
theorem fndL_next {x : SI} {il : List FI} {j : Nat} {y : FI} (hy : il[j]? = some y) : fndL x il (j + 1) = (fndL x il j || (y.nm == x.nm && decide (x.b <+: y.b))) := by
  unfold fndL
  rw [List.take_add_one, hy, List.any_append]
  simp [Bool.or_assoc]
theorem fndL_end {D : Dk} (hout : D.out = false) {l : List SI} (h : SafeOk D l) {keep : List Int} {junk : UInt8} {il : List FI} (hp : il.map FI.pair = D.told keep junk) {x : SI} (hx : x ∈ l) : fndL x il il.length = true := by
  unfold fndL
  cases ho : x.op
  · obtain ⟨j, p, hj, hn, hb⟩ := safe_end hout h keep junk hx ho
    rw [← hp, List.getElem?_map] at hj
    cases hy : il[j]? with
    | none => rw [hy] at hj; simp at hj
    | some y =>
      rw [hy] at hj
      simp only [Option.map_some, Option.some.injEq] at hj
      subst hj
      simp only [Bool.false_or, List.take_length]
      rw [List.any_eq_true]
      exact ⟨y, List.mem_of_getElem? hy, by rw [Bool.and_eq_true]; exact ⟨by have hn : y.nm = x.nm := hn; simpa using hn, decide_eq_true hb⟩⟩
  · rfl
theorem noteL_len (l : List SI) (y : SI) : (noteL l y).length ≤ l.length + 1 := by
  have := offL_len l y.nm
  unfold noteL
  rw [List.length_append, List.length_singleton]
  omega
theorem openL_len (l : List SI) (s : Nm) : (openL l s).length = l.length := by unfold openL; rw [List.length_map]

set_option maxRecDepth 20000 in
set_option maxHeartbeats 4000000 in
theorem synced_any (w : World) (lim : Int) (m : Bool) (v : Value) (I : List FI) (hI : ImgR w v I) (sv : Value) (L : List OpI) (hS : ScrR w sv L) (kv : Value) (keep : List Int) (hk : Reads w 1 kv keep.length (keep.map (.int .i64 ·))) (hkl : ∀ k, inFoot kv k → k < w.heap.size) (junk : UInt8) :
    Calls Try.prog 6 #[.agg #[.int .i64 lim, .bool m, v], sv, kv, .int .u8 junk.toNat] w fun e w' => e = .returned (.bool true) ∧ Ext Nil w w' := by
  obtain ⟨-, ao, cap, rfl, -, -, -⟩ := hI.row
  obtain ⟨as_, cs, rfl, hs1, hs2⟩ := hS.shape
  obtain ⟨W, hW⟩ : ∃ W, W = w.alloc (.cells #[.int .i64 lim, .bool m, .slice ao I.length cap] 44 (0, 0)) := ⟨_, rfl⟩
  have eW : Ext Nil w W := by rw [hW]; exact (Ext.refl _ _).alloc _
  have hLv := lives_m W lim m _ I (hI.ext eW fun _ _ h => h)
  rw [hW] at hLv
  have HLV := Lib.hid hLv; have HE := Lib.hid eW; have HS := Lib.hid (hS.ext0 eW); have HKE := Lib.hid (hk.ext eW fun _ _ h => h); have HKL := Lib.hid (fun k h => Nat.lt_of_lt_of_le (hkl k h) eW.size)
  have hfew := hS.few
  unfold maxLen at hs2
  clear hLv eW hS hk hkl hI
  go_enter Try.func6, Try.ntmps6
  go_wp2_with (go_at_call 24; refine (HLV.out).mono ?_; rintro e w1 ⟨d, rfl, hL1⟩)
  rw [← hW] at hL1
  have hcalm := livesD_calm lim m I
  generalize livesD lim m I = D0 at *
  have HL1 := Lib.hid hL1; have HC := Lib.hid hcalm
  clear hW HLV hL1 hcalm
  go_loopw [11, 12] (fun u i wr => ∃ (k : Nat) (D : Dk) (l : List SI), i = .int .i64 (k : Int) ∧ k ≤ L.length ∧ LS W wr d D u l ∧ D.calls ≤ k ∧ D.arms.length ≤ k ∧ D.out = false ∧ SafeOk D l ∧ l.length ≤ k) (fun _ i _ => L.length - (intOf i).toNat)
  case atStart => exact ⟨0, D0, [], rfl, Nat.zero_le _, LS.begin HL1.out, by rw [HC.out.2.2.1]; exact Nat.le_refl _, by rw [HC.out.2.2.2]; exact Nat.le_refl _, HC.out.2.1, (fun x hx => by cases hx), Nat.le_refl _⟩
  case round =>
    obtain ⟨k, D, l, rfl, hk, hLS, hc, ha, hout, hsafe, hll⟩ := hrel
    obtain ⟨ua, uc, rfl, -⟩ := hLS.shape
    by_cases hlt : k < L.length
    · obtain ⟨x, hx⟩ : ∃ x, L[k]? = some x := ⟨_, List.getElem?_eq_getElem hlt⟩
      have hxm := List.mem_of_getElem? hx
      obtain ⟨bs, os, rfl, hbl, q0, q1, q2, q3, q4, q5, q6, q7, q8, q9⟩ := (HS.out.ext0 hLS.life.world).cells hx
      have eY : Ext Nil wr (wr.alloc (.cells #[.int .i64 x.o.K, .int .i64 x.o.who, .string x.o.s, .slice x.o.dx x.o.dn x.o.dc, .int .i64 x.o.N, .int .i64 x.o.t0, .int .i64 x.o.t1, .bool x.o.t2, .slice x.o.kx x.o.kn x.o.kc, .int .u8 x.o.junk] 47 (0, 0))) := (Ext.refl _ _).alloc _
      have AY := At.new wr [.int .i64 x.o.K, .int .i64 x.o.who, .string x.o.s, .slice x.o.dx x.o.dn x.o.dc, .int .i64 x.o.N, .int .i64 x.o.t0, .int .i64 x.o.t1, .bool x.o.t2, .slice x.o.kx x.o.kn x.o.kc, .int .u8 x.o.junk] 47
      have z0 := AY.cell 0 rfl
      have z1 := AY.cell 1 rfl
      have z2 := AY.cell 2 rfl
      have z3 := AY.cell 3 rfl
      have z4 := AY.cell 4 rfl
      have z5 := AY.cell 5 rfl
      have z6 := AY.cell 6 rfl
      have z7 := AY.cell 7 rfl
      have z8 := AY.cell 8 rfl
      have z9 := AY.cell 9 rfl
      have hok := HS.out.ok x hxm
      have hdo := ls_does W wr d D _ l hLS (.cells #[.int .i64 x.o.K, .int .i64 x.o.who, .string x.o.s, .slice x.o.dx x.o.dn x.o.dc, .int .i64 x.o.N, .int .i64 x.o.t0, .int .i64 x.o.t1, .bool x.o.t2, .slice x.o.kx x.o.kn x.o.kc, .int .u8 x.o.junk] 47 (0, 0)) x hok (by omega) (by omega) (by have := (HS.out.small x hxm).1; omega)
      have hgr := does_grows D x.o x.B
      have hns := hok.name
      have hLY := hLS.life.ext eY
      have hLSY := hLS.ext0 eY
      have hwf := life_wf hLS.life
      have HLY := Lib.hid hLY; have HLSY := Lib.hid hLSY; have HNS := Lib.hid hns; have HOUT := Lib.hid hout; have HSAFE := Lib.hid hsafe
      clear hLS hLY hLSY hns AY eY hok hxm hx
      by_cases hK1 : x.o.K < 1
      · clear hdo hgr hsafe hout hwf
        go_wp2_with fail
        exact ⟨⟨k + 1, D, l, by go_num, by omega, HLSY.out, by omega, by omega, HOUT.out, HSAFE.out, by omega⟩, by simp [intOf]; omega⟩
      by_cases hK2 : 11 < x.o.K
      · clear hdo hgr hsafe hout hwf
        go_wp2_with fail
        exact ⟨⟨k + 1, D, l, by go_num, by omega, HLSY.out, by omega, by omega, HOUT.out, HSAFE.out, by omega⟩, by simp [intOf]; omega⟩
      cases hoff : D.off
      · have HST := Lib.hid (safe_step hwf hoff x.o x.B hsafe)
        have HOFF := Lib.hid hoff
        generalize D.does x.o x.B = R at hdo hgr HST
        obtain ⟨E, r⟩ := R
        have HDO := Lib.hid hdo; have HGR := Lib.hid hgr
        clear hdo hgr hsafe hout hwf hoff
        by_cases hr0 : r = 0
        · subst hr0
          by_cases hKn : x.o.K = 5
          · have hKL := hKn
            rw [hKL] at HDO q0 z0 z1 z2 z3 z4 z5 z6 z7 z8 z9 HLY
            have HKL := Lib.hid hKL
            clear hKL hKn hK1 hK2
            go_wp2_with (first
              | (go_at_call 21; refine (life_on_b HLY.out HOFF.out).mono ?_; rintro e w' ⟨rfl, rfl⟩)
              | (go_at_call 25; refine (HDO.out).mono ?_; rintro e w3 ⟨rfl, hL3, hs3, hz3⟩; have c0 := hz3 0 _ z0; have c2 := hz3 2 _ z2; have HL3 := Lib.hid hL3; have HZ3 := Lib.hid hs3; clear hL3 hz3 z0 z1 z2 z3 z4 z5 z6 z7 z8 z9 q0 q1 q2 q3 q4 q5 q6 q7 q8 q9)
              | (go_at_call 28; refine (ls_gone _ _ _ _ _ _ HL3.out x.o.s (by omega)).mono ?_; rintro e w4 ⟨v4, rfl, hL4⟩; have HL4 := Lib.hid hL4; clear hL4)
              | (go_at_call 18; refine (num_any _ _).mono ?_; rintro e w' ⟨rfl, rfl⟩))
            exact ⟨⟨k + 1, E, _, by go_num, by omega, HL4.out, by have := HGR.out.1; first | omega | (simp only [] at this; omega), by have := HGR.out.2.1; first | omega | (simp only [] at this; omega), by have := HGR.out.2.2.1; first | (rw [this]; exact HOUT.out) | (simp only [] at this; rw [this]; exact HOUT.out), HST.out.gone rfl HKL.out, by have := offL_len l x.o.s.data.toList; omega⟩, by simp [intOf]; omega⟩
          by_cases hKn2 : x.o.K = 2
          · have hKL := hKn2
            rw [hKL] at HDO q0 z0 z1 z2 z3 z4 z5 z6 z7 z8 z9 HLY
            have HKL := Lib.hid hKL
            clear hKL hKn2 hK1 hK2
            go_wp2_with (first
              | (go_at_call 21; refine (life_on_b HLY.out HOFF.out).mono ?_; rintro e w' ⟨rfl, rfl⟩)
              | (go_at_call 25; refine (HDO.out).mono ?_; rintro e w3 ⟨rfl, hL3, hs3, hz3⟩; have c0 := hz3 0 _ z0; have c2 := hz3 2 _ z2; have HL3 := Lib.hid hL3; have HZ3 := Lib.hid hs3; clear hL3 hz3 z0 z1 z2 z3 z4 z5 z6 z7 z8 z9 q0 q1 q2 q3 q4 q5 q6 q7 q8 q9)
              | (go_at_call 29; refine (ls_read _ _ _ _ _ _ HL3.out x.o.s HNS.out).mono ?_; rintro e w4 ⟨ba, bc, rfl, hL4, e4⟩; have hsk : E.seek x.o.s.data.toList = 0 := (HST.out.kept rfl (by have := HKL.out; omega)).1; rw [hsk]; have c2b := e4.cell c2 fun h => h; have c0b := e4.cell c0 fun h => h; have HL4 := Lib.hid hL4; have HE4 := Lib.hid (Nat.lt_of_lt_of_le HZ3.out e4.size); clear hL4 c0 c2 e4)
              | (go_at_call 30; refine (ls_note _ _ _ _ _ _ _ _ HL4.out x.o.s (by omega)).mono ?_; rintro e w5 ⟨v5, rfl, hL5⟩; have HL5 := Lib.hid hL5; clear hL5)
              | (go_at_call 18; refine (num_any _ _).mono ?_; rintro e w' ⟨rfl, rfl⟩))
            exact ⟨⟨k + 1, E, _, by go_num, by omega, HL5.out, by have := HGR.out.1; first | omega | (simp only [] at this; omega), by have := HGR.out.2.1; first | omega | (simp only [] at this; omega), by have := HGR.out.2.2.1; first | (rw [this]; exact HOUT.out) | (simp only [] at this; rw [this]; exact HOUT.out), (HST.out.kept rfl (by have := HKL.out; omega)).2 _, by have := noteL_len l (⟨x.o.s.data.toList, E.bytes x.o.s.data.toList, false, .slice ba (E.bytes x.o.s.data.toList).length bc⟩ : SI); omega⟩, by simp [intOf]; omega⟩
          by_cases hKn3 : x.o.K = 3
          · have hKL := hKn3
            rw [hKL] at HDO q0 z0 z1 z2 z3 z4 z5 z6 z7 z8 z9 HLY
            have HKL := Lib.hid hKL
            clear hKL hKn3 hK1 hK2
            go_wp2_with (first
              | (go_at_call 21; refine (life_on_b HLY.out HOFF.out).mono ?_; rintro e w' ⟨rfl, rfl⟩)
              | (go_at_call 25; refine (HDO.out).mono ?_; rintro e w3 ⟨rfl, hL3, hs3, hz3⟩; have c0 := hz3 0 _ z0; have c2 := hz3 2 _ z2; have HL3 := Lib.hid hL3; have HZ3 := Lib.hid hs3; clear hL3 hz3 z0 z1 z2 z3 z4 z5 z6 z7 z8 z9 q0 q1 q2 q3 q4 q5 q6 q7 q8 q9)
              | (go_at_call 29; refine (ls_read _ _ _ _ _ _ HL3.out x.o.s HNS.out).mono ?_; rintro e w4 ⟨ba, bc, rfl, hL4, e4⟩; have hsk : E.seek x.o.s.data.toList = 0 := (HST.out.kept rfl (by have := HKL.out; omega)).1; rw [hsk]; have c2b := e4.cell c2 fun h => h; have c0b := e4.cell c0 fun h => h; have HL4 := Lib.hid hL4; have HE4 := Lib.hid (Nat.lt_of_lt_of_le HZ3.out e4.size); clear hL4 c0 c2 e4)
              | (go_at_call 30; refine (ls_note _ _ _ _ _ _ _ _ HL4.out x.o.s (by omega)).mono ?_; rintro e w5 ⟨v5, rfl, hL5⟩; have HL5 := Lib.hid hL5; clear hL5)
              | (go_at_call 18; refine (num_any _ _).mono ?_; rintro e w' ⟨rfl, rfl⟩))
            exact ⟨⟨k + 1, E, _, by go_num, by omega, HL5.out, by have := HGR.out.1; first | omega | (simp only [] at this; omega), by have := HGR.out.2.1; first | omega | (simp only [] at this; omega), by have := HGR.out.2.2.1; first | (rw [this]; exact HOUT.out) | (simp only [] at this; rw [this]; exact HOUT.out), (HST.out.kept rfl (by have := HKL.out; omega)).2 _, by have := noteL_len l (⟨x.o.s.data.toList, E.bytes x.o.s.data.toList, false, .slice ba (E.bytes x.o.s.data.toList).length bc⟩ : SI); omega⟩, by simp [intOf]; omega⟩
          by_cases hKn4 : x.o.K = 4
          · have hKL := hKn4
            rw [hKL] at HDO q0 z0 z1 z2 z3 z4 z5 z6 z7 z8 z9 HLY
            have HKL := Lib.hid hKL
            clear hKL hKn4 hK1 hK2
            go_wp2_with (first
              | (go_at_call 21; refine (life_on_b HLY.out HOFF.out).mono ?_; rintro e w' ⟨rfl, rfl⟩)
              | (go_at_call 25; refine (HDO.out).mono ?_; rintro e w3 ⟨rfl, hL3, hs3, hz3⟩; have c0 := hz3 0 _ z0; have c2 := hz3 2 _ z2; have HL3 := Lib.hid hL3; have HZ3 := Lib.hid hs3; clear hL3 hz3 z0 z1 z2 z3 z4 z5 z6 z7 z8 z9 q0 q1 q2 q3 q4 q5 q6 q7 q8 q9)
              | (go_at_call 29; refine (ls_read _ _ _ _ _ _ HL3.out x.o.s HNS.out).mono ?_; rintro e w4 ⟨ba, bc, rfl, hL4, e4⟩; have hsk : E.seek x.o.s.data.toList = 0 := (HST.out.kept rfl (by have := HKL.out; omega)).1; rw [hsk]; have c2b := e4.cell c2 fun h => h; have c0b := e4.cell c0 fun h => h; have HL4 := Lib.hid hL4; have HE4 := Lib.hid (Nat.lt_of_lt_of_le HZ3.out e4.size); clear hL4 c0 c2 e4)
              | (go_at_call 30; refine (ls_note _ _ _ _ _ _ _ _ HL4.out x.o.s (by omega)).mono ?_; rintro e w5 ⟨v5, rfl, hL5⟩; have HL5 := Lib.hid hL5; clear hL5)
              | (go_at_call 18; refine (num_any _ _).mono ?_; rintro e w' ⟨rfl, rfl⟩))
            exact ⟨⟨k + 1, E, _, by go_num, by omega, HL5.out, by have := HGR.out.1; first | omega | (simp only [] at this; omega), by have := HGR.out.2.1; first | omega | (simp only [] at this; omega), by have := HGR.out.2.2.1; first | (rw [this]; exact HOUT.out) | (simp only [] at this; rw [this]; exact HOUT.out), (HST.out.kept rfl (by have := HKL.out; omega)).2 _, by have := noteL_len l (⟨x.o.s.data.toList, E.bytes x.o.s.data.toList, false, .slice ba (E.bytes x.o.s.data.toList).length bc⟩ : SI); omega⟩, by simp [intOf]; omega⟩
          have e2 : (x.o.K == 2) = false := by rw [beq_eq_false_iff_ne]; exact hKn2
          have e3 : (x.o.K == 3) = false := by rw [beq_eq_false_iff_ne]; exact hKn3
          have e4 : (x.o.K == 4) = false := by rw [beq_eq_false_iff_ne]; exact hKn4
          have e5 : (x.o.K == 5) = false := by rw [beq_eq_false_iff_ne]; exact hKn
          have HSF := Lib.hid (HST.out.done rfl ⟨hKn2, hKn3, hKn4, hKn⟩)
          clear hKn hKn2 hKn3 hKn4
          go_wp2_with (first
            | (go_at_call 21; refine (life_on_b HLY.out HOFF.out).mono ?_; rintro e w' ⟨rfl, rfl⟩)
            | (go_at_call 25; refine (HDO.out).mono ?_; rintro e w3 ⟨rfl, hL3, hs3, hz3⟩; have c0 := hz3 0 _ z0; have c2 := hz3 2 _ z2; have HL3 := Lib.hid hL3; have HZ3 := Lib.hid hs3; clear hL3 hz3 z0 z1 z2 z3 z4 z5 z6 z7 z8 z9 q0 q1 q2 q3 q4 q5 q6 q7 q8 q9)
            | (go_at_call 18; refine (num_any _ _).mono ?_; rintro e w' ⟨rfl, rfl⟩))
          exact ⟨⟨k + 1, E, l, by go_num, by omega, HL3.out, by have := HGR.out.1; first | omega | (simp only [] at this; omega), by have := HGR.out.2.1; first | omega | (simp only [] at this; omega), by have := HGR.out.2.2.1; first | (rw [this]; exact HOUT.out) | (simp only [] at this; rw [this]; exact HOUT.out), HSF.out, by omega⟩, by simp [intOf]; omega⟩
        by_cases hr63 : r = 63
        · subst hr63
          by_cases hKn3 : x.o.K = 3
          · have hKL := hKn3
            rw [hKL] at HDO q0 z0 z1 z2 z3 z4 z5 z6 z7 z8 z9 HLY
            have HKL := Lib.hid hKL
            clear hKL hKn3 hK1 hK2
            go_wp2_with (first
              | (go_at_call 21; refine (life_on_b HLY.out HOFF.out).mono ?_; rintro e w' ⟨rfl, rfl⟩)
              | (go_at_call 25; refine (HDO.out).mono ?_; rintro e w3 ⟨rfl, hL3, hs3, hz3⟩; have c0 := hz3 0 _ z0; have c2 := hz3 2 _ z2; have HL3 := Lib.hid hL3; have HZ3 := Lib.hid hs3; clear hL3 hz3 z0 z1 z2 z3 z4 z5 z6 z7 z8 z9 q0 q1 q2 q3 q4 q5 q6 q7 q8 q9)
              | (go_at_call 28; refine (ls_open _ _ _ _ _ _ HL3.out x.o.s (by omega)).mono ?_; rintro e w4 ⟨v4, rfl, hL4⟩; have HL4 := Lib.hid hL4; clear hL4)
              | (go_at_call 18; refine (num_any _ _).mono ?_; rintro e w' ⟨rfl, rfl⟩))
            exact ⟨⟨k + 1, E, _, by go_num, by omega, HL4.out, by have := HGR.out.1; first | omega | (simp only [] at this; omega), by have := HGR.out.2.1; first | omega | (simp only [] at this; omega), by have := HGR.out.2.2.1; first | (rw [this]; exact HOUT.out) | (simp only [] at this; rw [this]; exact HOUT.out), (HST.out.lost rfl).1, by rw [openL_len]; omega⟩, by simp [intOf]; omega⟩
          by_cases hKn4 : x.o.K = 4
          · have hKL := hKn4
            rw [hKL] at HDO q0 z0 z1 z2 z3 z4 z5 z6 z7 z8 z9 HLY
            have HKL := Lib.hid hKL
            clear hKL hKn4 hK1 hK2
            go_wp2_with (first
              | (go_at_call 21; refine (life_on_b HLY.out HOFF.out).mono ?_; rintro e w' ⟨rfl, rfl⟩)
              | (go_at_call 25; refine (HDO.out).mono ?_; rintro e w3 ⟨rfl, hL3, hs3, hz3⟩; have c0 := hz3 0 _ z0; have c2 := hz3 2 _ z2; have HL3 := Lib.hid hL3; have HZ3 := Lib.hid hs3; clear hL3 hz3 z0 z1 z2 z3 z4 z5 z6 z7 z8 z9 q0 q1 q2 q3 q4 q5 q6 q7 q8 q9)
              | (go_at_call 28; refine (ls_open _ _ _ _ _ _ HL3.out x.o.s (by omega)).mono ?_; rintro e w4 ⟨v4, rfl, hL4⟩; have HL4 := Lib.hid hL4; clear hL4)
              | (go_at_call 18; refine (num_any _ _).mono ?_; rintro e w' ⟨rfl, rfl⟩))
            exact ⟨⟨k + 1, E, _, by go_num, by omega, HL4.out, by have := HGR.out.1; first | omega | (simp only [] at this; omega), by have := HGR.out.2.1; first | omega | (simp only [] at this; omega), by have := HGR.out.2.2.1; first | (rw [this]; exact HOUT.out) | (simp only [] at this; rw [this]; exact HOUT.out), (HST.out.lost rfl).1, by rw [openL_len]; omega⟩, by simp [intOf]; omega⟩
          by_cases hKn : x.o.K = 5
          · have hKL := hKn
            rw [hKL] at HDO q0 z0 z1 z2 z3 z4 z5 z6 z7 z8 z9 HLY
            have HKL := Lib.hid hKL
            clear hKL hKn hK1 hK2
            go_wp2_with (first
              | (go_at_call 21; refine (life_on_b HLY.out HOFF.out).mono ?_; rintro e w' ⟨rfl, rfl⟩)
              | (go_at_call 25; refine (HDO.out).mono ?_; rintro e w3 ⟨rfl, hL3, hs3, hz3⟩; have c0 := hz3 0 _ z0; have c2 := hz3 2 _ z2; have HL3 := Lib.hid hL3; have HZ3 := Lib.hid hs3; clear hL3 hz3 z0 z1 z2 z3 z4 z5 z6 z7 z8 z9 q0 q1 q2 q3 q4 q5 q6 q7 q8 q9)
              | (go_at_call 28; refine (ls_open _ _ _ _ _ _ HL3.out x.o.s (by omega)).mono ?_; rintro e w4 ⟨v4, rfl, hL4⟩; have HL4 := Lib.hid hL4; clear hL4)
              | (go_at_call 18; refine (num_any _ _).mono ?_; rintro e w' ⟨rfl, rfl⟩))
            exact ⟨⟨k + 1, E, _, by go_num, by omega, HL4.out, by have := HGR.out.1; first | omega | (simp only [] at this; omega), by have := HGR.out.2.1; first | omega | (simp only [] at this; omega), by have := HGR.out.2.2.1; first | (rw [this]; exact HOUT.out) | (simp only [] at this; rw [this]; exact HOUT.out), (HST.out.lost rfl).1, by rw [openL_len]; omega⟩, by simp [intOf]; omega⟩
          have e3 : (x.o.K == 3) = false := by rw [beq_eq_false_iff_ne]; exact hKn3
          have e4 : (x.o.K == 4) = false := by rw [beq_eq_false_iff_ne]; exact hKn4
          have e5 : (x.o.K == 5) = false := by rw [beq_eq_false_iff_ne]; exact hKn
          have HSF := Lib.hid ((HST.out.lost rfl).2 ⟨hKn3, hKn4, hKn⟩)
          clear hKn hKn3 hKn4
          go_wp2_with (first
            | (go_at_call 21; refine (life_on_b HLY.out HOFF.out).mono ?_; rintro e w' ⟨rfl, rfl⟩)
            | (go_at_call 25; refine (HDO.out).mono ?_; rintro e w3 ⟨rfl, hL3, hs3, hz3⟩; have c0 := hz3 0 _ z0; have c2 := hz3 2 _ z2; have HL3 := Lib.hid hL3; have HZ3 := Lib.hid hs3; clear hL3 hz3 z0 z1 z2 z3 z4 z5 z6 z7 z8 z9 q0 q1 q2 q3 q4 q5 q6 q7 q8 q9)
            | (go_at_call 18; refine (num_any _ _).mono ?_; rintro e w' ⟨rfl, rfl⟩))
          exact ⟨⟨k + 1, E, l, by go_num, by omega, HL3.out, by have := HGR.out.1; first | omega | (simp only [] at this; omega), by have := HGR.out.2.1; first | omega | (simp only [] at this; omega), by have := HGR.out.2.2.1; first | (rw [this]; exact HOUT.out) | (simp only [] at this; rw [this]; exact HOUT.out), HSF.out, by omega⟩, by simp [intOf]; omega⟩
        have b0 : (r != 0) = true := by rw [bne_iff_ne]; exact hr0
        have b63 : (r != 63) = true := by rw [bne_iff_ne]; exact hr63
        have HSF := Lib.hid (HST.out.other hr0 hr63)
        clear hr0 hr63
        go_wp2_with (first
          | (go_at_call 21; refine (life_on_b HLY.out HOFF.out).mono ?_; rintro e w' ⟨rfl, rfl⟩)
          | (go_at_call 25; refine (HDO.out).mono ?_; rintro e w3 ⟨rfl, hL3, hs3, hz3⟩; have c0 := hz3 0 _ z0; have c2 := hz3 2 _ z2; have HL3 := Lib.hid hL3; have HZ3 := Lib.hid hs3; clear hL3 hz3 z0 z1 z2 z3 z4 z5 z6 z7 z8 z9 q0 q1 q2 q3 q4 q5 q6 q7 q8 q9)
          | (go_at_call 18; refine (num_any _ _).mono ?_; rintro e w' ⟨rfl, rfl⟩))
        exact ⟨⟨k + 1, E, l, by go_num, by omega, HL3.out, by have := HGR.out.1; first | omega | (simp only [] at this; omega), by have := HGR.out.2.1; first | omega | (simp only [] at this; omega), by have := HGR.out.2.2.1; first | (rw [this]; exact HOUT.out) | (simp only [] at this; rw [this]; exact HOUT.out), HSF.out, by omega⟩, by simp [intOf]; omega⟩
      · have HOFF := Lib.hid hoff
        clear hdo hgr hsafe hout hwf hoff
        go_wp2_with (go_at_call 21; refine (life_on_b HLY.out HOFF.out).mono ?_; rintro e w' ⟨rfl, rfl⟩)
        exact ⟨⟨k + 1, D, l, by go_num, by omega, HLSY.out, by omega, by omega, HOUT.out, HSAFE.out, by omega⟩, by simp [intOf]; omega⟩
    · have hnot : ¬ (k : Int) < (L.length : Int) := by omega
      have HLS := Lib.hid hLS; have HOUT := Lib.hid hout; have HSAFE := Lib.hid hsafe
      clear hLS hout hsafe hc ha hlt
      go_wp2_with (first
        | (go_at_call 23; refine (ls_crash _ _ _ _ _ _ HLS.out (HKE.out.ext HLS.out.life.world fun _ _ h => h) HKL.out junk).mono ?_; rintro e w3 ⟨iv, il, rfl, hp, hO, hRw, e3⟩; rw [crash_in HOUT.out]; obtain ⟨ia, ic, rfl, hi1, hi2⟩ := hO.see.shape; have hil : il.length ≤ 65536 := (by rw [told_in HOUT.out] at hp; rw [pair_len hp]; exact (life_wf HLS.out.life).count); have HP := Lib.hid hp; have HO := Lib.hid (hO.ext ((Ext.refl Nil w3).alloc (.cells #[.slice ia il.length ic] 36 (0, 0))) fun _ _ h => h); have HRW := Lib.hid (hRw.ext0 ((Ext.refl Nil w3).alloc (.cells #[.slice ia il.length ic] 36 (0, 0)))); have HE3 := Lib.hid (e3.alloc (.cells #[.slice ia il.length ic] 36 (0, 0))); have HB3 := Lib.hid ((At.new w3 [.slice ia il.length ic] 36).cell 0 rfl); clear hp hO hRw e3)
        | (go_at_call 18; refine (num_any _ _).mono ?_; rintro e w' ⟨rfl, rfl⟩))
      generalize hWN : w3.alloc (.cells #[.slice ia il.length ic] 36 (0, 0)) = wn at *
      clear hWN
      go_loopw [19] (fun i wq => ∃ (j : Nat), i = .int .i64 (j : Int) ∧ j ≤ l.length ∧ ∃ n, wq = wn.drewN n) (fun i _ => l.length - (intOf i).toNat)
      case atStart => exact ⟨0, rfl, Nat.zero_le _, 0, rfl⟩
      case round =>
        obtain ⟨j, rfl, hj, n, rfl⟩ := hrel
        by_cases hjl : j < l.length
        · obtain ⟨x, hx⟩ : ∃ x, l[j]? = some x := ⟨_, List.getElem?_eq_getElem hjl⟩
          have hfin := fndL_end HOUT.out HSAFE.out HP.out (List.mem_of_getElem? hx)
          obtain ⟨g, c, hg, -⟩ := HRW.out.open (fun x _ => rfl) (by omega) (show 0 < 3 by omega)
          simp only [Value.slice.injEq, true_and] at hg
          obtain ⟨rfl, rfl⟩ := hg
          obtain ⟨bx, cx, -, x0, x1, x2, hgl, hxB, -⟩ := HRW.out.cellS hx
          have HXB := Lib.hid hxB; have HFIN := Lib.hid hfin
          clear hxB hfin hx
          go_wp2_with fail
          go_loopw [20, 21] (fun f i wq => ∃ (q : Nat), f = .bool (fndL x il q) ∧ i = .int .i64 (q : Int) ∧ q ≤ il.length ∧ ∃ n, wq = wn.drewN n) (fun _ i _ => il.length - (intOf i).toNat)
          case atStart => exact ⟨0, by simp [fndL], rfl, Nat.zero_le _, n, rfl⟩
          case round =>
            obtain ⟨q, rfl, rfl, hq, n2, rfl⟩ := hrel
            have k3 := HB3.out
            by_cases hql : q < il.length
            · obtain ⟨y, hy⟩ : ∃ y, il[q]? = some y := ⟨_, List.getElem?_eq_getElem hql⟩
              obtain ⟨bi, oi, by_, cy, rfl, -, y0, y1, hil2, hyB⟩ := HO.out.see.at hy
              have hnx := fndL_next (x := x) hy
              have HYB := Lib.hid hyB; have HNX := Lib.hid hnx
              clear hyB hnx hy
              by_cases hnm : y.nm = x.nm
              · have hnb : (y.nm == x.nm) = true := by rw [hnm]; simp
                have HNB := Lib.hid hnb
                clear hnm
                by_cases hpre : x.b <+: y.b
                · have HPRE := Lib.hid hpre
                  clear hpre
                  go_wp2_with fail
                  go_quiet ((go_at_call 31; exact quiet_behind (begins_t _ _ _ _ _ (HXB.out.drewN _) (HYB.out.drewN _) HPRE.out)))
                  go_wp2_with fail
                  exact ⟨⟨q + 1, by rw [HNX.out, HNB.out, decide_eq_true HPRE.out]; simp, by go_num, by omega, _, rfl⟩, by simp [intOf]; omega⟩
                · have HPRE := Lib.hid hpre
                  clear hpre
                  go_wp2_with fail
                  go_quiet ((go_at_call 31; exact quiet_behind (begins_f _ _ _ _ _ (HXB.out.drewN _) (HYB.out.drewN _) HPRE.out)))
                  go_wp2_with fail
                  exact ⟨⟨q + 1, by rw [HNX.out, decide_eq_false HPRE.out]; simp, by go_num, by omega, _, rfl⟩, by simp [intOf]; omega⟩
              · have hnb : (y.nm == x.nm) = false := by rw [beq_eq_false_iff_ne]; exact hnm
                have HNB := Lib.hid hnb
                clear hnm
                go_wp2_with fail
                go_quiet (fail)
                go_wp2_with fail
                exact ⟨⟨q + 1, by rw [HNX.out, HNB.out]; simp, by go_num, by omega, _, rfl⟩, by simp [intOf]; omega⟩
            · obtain rfl : q = il.length := by omega
              rw [HFIN.out]
              have hnot2 : ¬ ((il.length : Nat) : Int) < (il.length : Int) := by omega
              clear hql
              go_wp2_with fail
              exact ⟨⟨j + 1, by go_num, by omega, _, rfl⟩, by simp [intOf]; omega⟩
        · have hnot3 : ¬ (j : Int) < (l.length : Int) := by omega
          clear hjl
          go_wp2_with fail
          go_ret
          exact ⟨rfl, HE.out.same (HE3.out.drewN _)⟩
end Go.Proofs.Ytnppneilbkmnfaa
