/- Contracts of codec.Writer's methods, at a writer that NewWriter made. Condition: what is laid down fits into memory. -/
import Derived.Test.YtgabmidkonphdaaDoorSame
namespace Go.Proofs.YtgabmidkonphdaaDoor
open Go.RowKit

/-- From the blocks F to the blocks F': what was there and is not of F stays; F' has only blocks of F and new ones. -/
def Step (F : Nat → Prop) (w : World) (F' : Nat → Prop) (w' : World) : Prop := Ext F w w' ∧ ∀ k, F' k → F k ∨ w.heap.size ≤ k

theorem Step.refl (F : Nat → Prop) (w : World) : Step F w F w := ⟨Ext.refl _ _, fun _ h => .inl h⟩
theorem Step.trans {F F' F'' : Nat → Prop} {a b c : World} (h : Step F a F' b) (k : Step F' b F'' c) : Step F a F'' c :=
  ⟨h.1.trans k.1 fun i hi hF => (h.2 i hF).resolve_right (by omega), fun i hi => by
    rcases k.2 i hi with h1 | h1
    · exact h.2 i h1
    · exact .inr (Nat.le_trans h.1.size h1)⟩

/-- a bound below all that memory bears -/
def Fits (n : Nat) : Prop := n ≤ 1099511627776

/-- The blocks of a struct at p with one slice v. -/
def PF (p : Nat) (v : Value) : Nat → Prop := fun k => k = p ∨ inFoot v k

theorem Bytes.ext {F : Nat → Prop} {w w' : World} {v : Value} {l : List UInt8} (h : Bytes w v l) (e : Ext F w w') (hf : ∀ k, inFoot v k → ¬ F k) : Bytes w' v l := Reads.ext h e hf
theorem Bytes.alloc {w : World} {v : Value} {l : List UInt8} (h : Bytes w v l) (o : Obj) : Bytes (w.alloc o) v l := Reads.alloc h o

/-- a slice of bytes with a row of its own -/
def OwnB (w : World) (v : Value) (l : List UInt8) : Prop := Own w 5 1 v l.length (bvs l)
theorem OwnB.bytes {w : World} {v : Value} {l : List UInt8} (h : OwnB w v l) : Bytes w v l := Own.reads h
theorem OwnB.ext {F : Nat → Prop} {w w' : World} {v : Value} {l : List UInt8} (h : OwnB w v l) (e : Ext F w w') (hf : ∀ k, inFoot v k → ¬ F k) : OwnB w' v l := Own.ext h e hf
theorem OwnB.lt {w : World} {v : Value} {l : List UInt8} (h : OwnB w v l) : ∀ k, inFoot v k → k < w.heap.size := Own.lt h

theorem bvs_one (l : List UInt8) : ∀ u ∈ bvs l, u.oneCell' = true := by
  intro u hu
  simp only [bvs, List.mem_map] at hu
  obtain ⟨b, _, rfl⟩ := hu
  rfl
theorem bvs_append (l m : List UInt8) : bvs (l ++ m) = bvs l ++ bvs m := by simp [bvs]
theorem bvs_length (l : List UInt8) : (bvs l).length = l.length := by simp [bvs]

theorem info_u8 : (Tryd.prog.info? 5).map (fun i => (i.zero, i.size, i.bytes)) = some (some (.int .u8 0), 1, 1) := by kernel_rfl

theorem Own.shape {w : World} {e : TypeId} {size : Nat} {v : Value} {n : Nat} {xs : List Value} (h : Own w e size v n xs) : ∃ ao cap, v = .slice ao n cap ∧ n ≤ cap ∧ cap ≤ maxLen := by
  rcases h.2 with ⟨ao, rfl, rfl⟩ | ⟨g, cap, cs, rfl, _, h1, h2, _⟩
  · exact ⟨_, _, rfl, Nat.le_refl _, by simp [maxLen]⟩
  · exact ⟨_, _, rfl, h1, h2⟩

/-- append of bytes onto a row of bytes -/
theorem wpList_append_bytes {ops : Array Oper} {rest : List Oper} {o : Oper} {a : Act} {Q : Exit → Act → World → Prop} {w : World} {v : Value} {l m : List UInt8} (hown : OwnB w v l) {tx : TypeId} {vx : Value}
    (hsrc : Src Tryd.prog 1 tx vx m.length (bvs m) w) (hfit : Fits (l.length + m.length)) (hgd : o.guard = none) (s x : Operand)
    (ho : o.op = .call { callee := .builtin .append, args := #[s, x], argTypes := #[22, tx] }) (hs : a.eval s = v) (hx : a.eval x = vx)
    (h : ∀ ao cap w', l.length + m.length ≤ cap → cap ≤ maxLen → OwnB w' (.slice ao (l.length + m.length) cap) (l ++ m) → Step (inFoot v) w (inFoot (.slice ao (l.length + m.length) cap)) w' →
      wpList Tryd.prog ops Q rest (a.put o.dst (.slice ao (l.length + m.length) cap)) w') : wpList Tryd.prog ops Q (o :: rest) a w := by
  obtain ⟨i, hi, hz, h1, h2⟩ := info_parts info_u8
  have hf : l.length + m.length ≤ 1099511627776 := hfit
  obtain ⟨v', w', hr, h3, h4, h5⟩ := run_append (P := Tryd.prog) w 22 tx o.type 5 i (.int .u8 0) 1 1 Tryd.underlying22 hi hz h1 h2 rfl v l.length (bvs l) hown vx m.length (bvs m) hsrc
    (by unfold maxLen; omega) (by omega)
  obtain ⟨ao, cap, rfl, h6, h7⟩ := h3.shape
  refine wpList_plain hgd fun K hK => ?_
  unfold Oper.wp execOp
  simp only [ho, resolve, invoke, builtin, Sem.run_bind, Sem.run_pure, Result.andThen_ok, List.map_toArray, List.map_cons, List.map_nil, hs, hx, hr]
  refine hK _ _ (h ao cap w' h6 h7 ?_ ⟨h4, h5⟩)
  unfold OwnB
  rw [bvs_append, List.length_append]
  exact h3

/-- behind an append onto the slice in a struct's field, stored back -/
theorem stored {w w1 : World} {p : Nat} {t : TypeId} {cs : List Value} {v v' : Value} {l : List UInt8} (i : Nat) (hA : At w p t cs) (hap : ¬ inFoot v p) (hown : OwnB w1 v' l) (hst : Step (inFoot v) w (inFoot v') w1) :
    At (w1.setCell ⟨p, i, none⟩ v') p t (cs.set i v') ∧ OwnB (w1.setCell ⟨p, i, none⟩ v') v' l ∧ ¬ inFoot v' p ∧ Step (PF p v) w (PF p v') (w1.setCell ⟨p, i, none⟩ v') := by
  have hap' : ¬ inFoot v' p := fun h => by
    rcases hst.2 p h with h1 | h1
    · exact hap h1
    · have := hA.lt; omega
  refine ⟨(hA.ext hst.1 hap).set i v', hown.ext (F := One p) ((Ext.refl (One p) _).setCell (p := ⟨p, i, none⟩) (fun _ => (rfl : p = p)) v') (fun k hk e => hap' (by have e : k = p := e; rwa [e] at hk)), hap', ?_, ?_⟩
  · exact (hst.1.mono fun _ _ h => .inr h).setCell (p := ⟨p, i, none⟩) (fun _ => .inl rfl) v'
  · intro k hk
    rcases hk with hk | hk
    · exact .inl (.inl hk)
    · exact (hst.2 k hk).imp .inr id

/-! ### the writer -/

/-- At p stands a writer that New made: what it has, in the slice v, and its error. -/
structure WAt (w : World) (p : Nat) (v : Value) (bs : List UInt8) (err : Int) : Prop where
  cells : At w p 41 [.bool true, v, .int .i64 err]
  own : OwnB w v bs
  apart : ¬ inFoot v p

theorem WAt.ext {F : Nat → Prop} {w w' : World} {p : Nat} {v : Value} {bs : List UInt8} {err : Int} (h : WAt w p v bs err) (e : Ext F w w') (hf : ∀ k, PF p v k → ¬ F k) : WAt w' p v bs err :=
  ⟨h.cells.ext e (hf p (.inl rfl)), h.own.ext e fun k hk => hf k (.inr hk), h.apart⟩
theorem WAt.alloc {w : World} {p : Nat} {v : Value} {bs : List UInt8} {err : Int} (h : WAt w p v bs err) (o : Obj) : WAt (w.alloc o) p v bs err :=
  h.ext (F := Nil) ((Ext.refl _ _).alloc o) fun _ _ h => h
theorem WAt.lt {w : World} {p : Nat} {v : Value} {bs : List UInt8} {err : Int} (h : WAt w p v bs err) : ∀ k, PF p v k → k < w.heap.size := by
  intro k hk
  rcases hk with rfl | hk
  · exact h.cells.lt
  · exact h.own.lt k hk

theorem live_any (w : World) (p : Nat) (v : Value) (bs : List UInt8) (err : Int) (h : WAt w p v bs err) :
    Calls Tryd.prog 23 #[.pointer (some ⟨p, 0, none⟩)] w fun e w' => e = .returned (.bool (err == 0)) ∧ w = w' := by
  have c0 := h.cells.cell 0 rfl
  have c2 := h.cells.cell 2 rfl
  go_enter Tryd.func23, Tryd.ntmps23
  go_wp2
  go_ret
  exact ⟨rfl, rfl⟩

/-- what is had behind laying ys down -/
def app (err : Int) (bs ys : List UInt8) : List UInt8 := if err = 0 then bs ++ ys else bs

/-- The end of a call that lays down: the writer has bs', err'. -/
def Wrote (w : World) (p : Nat) (v : Value) (bs' : List UInt8) (err' : Int) (e : Ending) (w' : World) : Prop :=
  e = .returned (.tuple #[]) ∧ ∃ v', WAt w' p v' bs' err' ∧ Step (PF p v) w (PF p v') w'

theorem put_any (w : World) (p : Nat) (v : Value) (bs : List UInt8) (err : Int) (h : WAt w p v bs err) (x : Value) (ys : List UInt8) (hx : Bytes w x ys) (hfit : Fits (bs.length + ys.length)) :
    Calls Tryd.prog 19 #[.pointer (some ⟨p, 0, none⟩), x] w (Wrote w p v (app err bs ys) err) := by
  have hsrc := Reads.src (P := Tryd.prog) hx Tryd.underlying22 (bvs_one ys)
  have c1 := h.cells.cell 1 rfl
  by_cases he : err = 0
  · subst he
    go_enter Tryd.func19, Tryd.ntmps19
    go_wp2_with (first
      | (go_at_call 23; refine (live_any w p v bs 0 h).mono ?_; rintro e w' ⟨rfl, rfl⟩)
      | (at_builtin; refine wpList_append_bytes h.own hsrc hfit rfl _ _ rfl rfl rfl ?_; intro ao cap w1 _ _ hown hst; have hA := h.cells.ext hst.1 h.apart; have d1 := hA.cell 1 rfl; have f1 := hA.frozen 1))
    go_end0
    obtain ⟨h1, h2, h3, h4⟩ := stored 1 h.cells h.apart hown hst
    exact ⟨rfl, _, ⟨h1, by simpa [app] using h2, h3⟩, h4⟩
  · have hb : (err == 0) = false := by rw [beq_eq_false_iff_ne]; exact he
    have happ : app err bs ys = bs := if_neg he
    rw [happ]
    clear happ
    have HE := Lib.hid he
    clear he hsrc c1
    go_enter Tryd.func19, Tryd.ntmps19
    go_wp2_with (first
      | (go_at_call 23; refine (live_any w p v bs err h).mono ?_; rintro e w' ⟨rfl, rfl⟩))
    go_end0
    exact ⟨rfl, v, h, Step.refl _ _⟩
theorem Wrote.of {w w1 w2 : World} {p : Nat} {v v1 : Value} {bs : List UInt8} {err : Int} {e : Ending} (hs : Step (PF p v) w (PF p v1) w1) (h : Wrote w1 p v1 bs err e w2) : Wrote w p v bs err e w2 := by
  obtain ⟨he, v2, h1, h2⟩ := h
  exact ⟨he, v2, h1, hs.trans h2⟩
theorem step_alloc (F : Nat → Prop) (w : World) (o : Obj) : Step F w F (w.alloc o) := ⟨(Ext.refl _ _).alloc o, fun _ h => .inl h⟩

/-- a byte out of a number -/
def toB (n : Int) : UInt8 := UInt8.ofNat n.toNat
theorem bv_toB {n : Int} (h0 : 0 ≤ n) (h1 : n < 256) : bv (toB n) = .int .u8 n := by
  unfold bv toB
  congr 1
  rw [UInt8.toNat_ofNat']
  omega
/-- the slice that a literal of one byte lays -/
theorem Bytes.one (w : World) {n : Int} (h0 : 0 ≤ n) (h1 : n < 256) (t : TypeId) : Bytes (w.alloc (.cells #[.int .u8 n] t (0, 0))) (.slice (some ⟨w.heap.size, 0, none⟩) 1 1) [toB n] := by
  refine ⟨rfl, _, _, rfl, Nat.le_refl _, by simp [maxLen], fun _ => ⟨_, _, rfl, fun j u hj => ?_⟩⟩
  match j, hj with
  | 0, hj =>
    have e : u = .int .u8 n := by
      simp only [bvs, List.map_cons, List.map_nil, List.getElem?_cons_zero, Option.some.injEq] at hj
      rw [← hj, bv_toB h0 h1]
    subst e
    exact (At.new w [.int .u8 n] t).cell 0 rfl

theorem app_nil (err : Int) (bs : List UInt8) : app err bs [] = bs := by unfold app; split <;> simp
theorem app_app (err : Int) (bs xs ys : List UInt8) : app err (app err bs xs) ys = app err bs (xs ++ ys) := by unfold app; split <;> simp

/-- what a uint64 holds -/
def IsU64 (n : Nat) : Prop := n < 18446744073709551616

/-- a number in groups of seven bits, the lowest first -/
def varB (n : Nat) : List UInt8 := if _h : n < 128 then [UInt8.ofNat n] else UInt8.ofNat (n % 128 + 128) :: varB (n / 128)
termination_by n
decreasing_by omega
theorem varB_lt {n : Nat} (h : n < 128) : varB n = [UInt8.ofNat n] := by rw [varB, dif_pos h]
theorem varB_ge {n : Nat} (h : 128 ≤ n) : varB n = UInt8.ofNat (n % 128 + 128) :: varB (n / 128) := by rw [varB, dif_neg (by omega)]

theorem varB_pos (n : Nat) : 1 ≤ (varB n).length := by
  by_cases h : n < 128
  · rw [varB_lt h]; simp
  · rw [varB_ge (by omega)]; simp
theorem varB_length_le : ∀ (k n : Nat), n < 128 ^ (k + 1) → (varB n).length ≤ k + 1 := by
  intro k
  induction k with
  | zero =>
    intro n h
    rw [varB_lt (by omega)]; simp
  | succ k ih =>
    intro n h
    by_cases hl : n < 128
    · rw [varB_lt hl]; simp
    · rw [varB_ge (by omega)]
      have := ih (n / 128) (by rw [Nat.div_lt_iff_lt_mul (by omega)]; rw [Nat.pow_succ] at h; exact h)
      simp; omega
theorem varB_length {n : Nat} (h : IsU64 n) : (varB n).length ≤ 10 := varB_length_le 9 n (by unfold IsU64 at h; omega)
theorem app_length (err : Int) (bs xs : List UInt8) : (app err bs xs).length ≤ bs.length + xs.length := by unfold app; split <;> simp
theorem or_128_all : ∀ m : Fin 256, bits BinOp.or IntKind.u8 (m.val : Int) 128 = ((m.val % 128 + 128 : Nat) : Int) := by decide +kernel
theorem or_128 (z : Nat) : bits BinOp.or IntKind.u8 ((z : Int) % 256) 128 = ((z % 128 + 128 : Nat) : Int) := by
  have h := or_128_all ⟨z % 256, Nat.mod_lt _ (by omega)⟩
  simp only at h
  rw [show ((z : Int) % 256) = ((z % 256 : Nat) : Int) from by omega, h]
  omega

theorem byte_any (w : World) (p : Nat) (v : Value) (bs : List UInt8) (err : Int) (h : WAt w p v bs err) (n : Int) (h0 : 0 ≤ n) (h1 : n < 256) (hfit : Fits (bs.length + 1)) :
    Calls Tryd.prog 12 #[.pointer (some ⟨p, 0, none⟩), .int .u8 n] w (Wrote w p v (app err bs [toB n]) err) := by
  go_enter Tryd.func12, Tryd.ntmps12
  go_wp2_with fail
  refine (put_any _ p v bs err (h.alloc _) _ _ (Bytes.one w h0 h1 _) hfit).mono ?_
  rintro e w' ⟨rfl, v1, h2, h3⟩
  go_wp2_with fail
  go_end0
  exact ⟨rfl, v1, h2, (step_alloc _ _ _).trans h3⟩

theorem raw_any (w : World) (p : Nat) (v : Value) (bs : List UInt8) (err : Int) (h : WAt w p v bs err) (x : Value) (ys : List UInt8) (hx : Bytes w x ys) (hfit : Fits (bs.length + ys.length)) :
    Calls Tryd.prog 16 #[.pointer (some ⟨p, 0, none⟩), x] w (Wrote w p v (app err bs ys) err) := by
  go_enter Tryd.func16, Tryd.ntmps16
  go_wp2_with fail
  refine (put_any _ p v bs err h _ _ hx hfit).mono ?_
  rintro e w' ⟨rfl, v1, h2, h3⟩
  go_wp2_with fail
  go_end0
  exact ⟨rfl, v1, h2, h3⟩

/-- the n lowest bytes of a number, the lowest first -/
def le (n : Nat) (v : Nat) : List UInt8 := (List.range n).map fun i => UInt8.ofNat (v / 256 ^ i % 256)

theorem le_length (n v : Nat) : (le n v).length = n := by simp [le]
theorem le_succ (k v : Nat) : le (k + 1) v = le k v ++ [UInt8.ofNat (v / 256 ^ k % 256)] := by simp [le, List.range_succ]

theorem shr_byte (x k : Nat) : (x : Int) / 2 ^ (8 * k) % 256 = ((x / 256 ^ k % 256 : Nat) : Int) := by
  have h : (256 : Nat) ^ k = 2 ^ (8 * k) := by rw [Nat.pow_mul]
  rw [h]
  simp

theorem fixed_any (w : World) (p : Nat) (v : Value) (bs : List UInt8) (err : Int) (h : WAt w p v bs err) (x : Nat) (_hx : IsU64 x) (n : Nat) (hn : n ≤ 8) (hfit : Fits (bs.length + 8)) :
    Calls Tryd.prog 20 #[.pointer (some ⟨p, 0, none⟩), .int .u64 x, .int .i64 n] w (Wrote w p v (app err bs (le n x)) err) := by
  go_enter Tryd.func20, Tryd.ntmps20
  go_wp2_with fail
  go_loopw [8] (fun c wr => ∃ k : Nat, k ≤ n ∧ c = .int .i64 k ∧ ∃ v1, WAt wr p v1 (app err bs (le k x)) err ∧ Step (PF p v) w (PF p v1) wr) (fun c _ => n - (intOf c).toNat)
  case atStart => exact ⟨0, Nat.zero_le _, rfl, v, by rw [show le 0 x = [] from rfl, app_nil]; exact h, Step.refl _ _⟩
  case round =>
    obtain ⟨k, hk, rfl, v1, hW, hS⟩ := hrel
    by_cases hlt : k < n
    · have hf1 : Fits ((app err bs (le k x)).length + 1) := by
        have := app_length err bs (le k x)
        rw [le_length] at this
        have hfit : bs.length + 8 ≤ 1099511627776 := hfit
        unfold Fits; omega
      go_wp2_with fail
      rw [shr_byte]
      refine (put_any _ p v1 _ err (hW.alloc _) _ _ (Bytes.one wr (n := ((x / 256 ^ k % 256 : Nat) : Int)) (by omega) (by omega) _) hf1).mono ?_
      rintro e w1 ⟨rfl, v2, h2, h3⟩
      go_wp2_with fail
      refine ⟨⟨k + 1, by omega, by go_num, v2, ?_, hS.trans ((step_alloc _ _ _).trans h3)⟩, by simp [intOf]; omega⟩
      have e1 : toB ((x / 256 ^ k % 256 : Nat) : Int) = UInt8.ofNat (x / 256 ^ k % 256) := by unfold toB; rw [Int.toNat_natCast]
      rw [app_app, e1, ← le_succ] at h2
      exact h2
    · go_wp2_with fail
      go_end0
      obtain rfl : k = n := by omega
      exact ⟨rfl, v1, hW, hS⟩

theorem u32_any (w : World) (p : Nat) (v : Value) (bs : List UInt8) (err : Int) (h : WAt w p v bs err) (x : Nat) (hx : x < 4294967296) (hfit : Fits (bs.length + 8)) :
    Calls Tryd.prog 13 #[.pointer (some ⟨p, 0, none⟩), .int .u32 x] w (Wrote w p v (app err bs (le 4 x)) err) := by
  go_enter Tryd.func13, Tryd.ntmps13
  go_wp2_with fail
  refine (fixed_any _ p v bs err h x (by unfold IsU64; omega) 4 (by omega) hfit).mono ?_
  rintro e w1 ⟨rfl, v2, h2, h3⟩
  go_wp2_with fail
  go_end0
  exact ⟨rfl, v2, h2, h3⟩
theorem byteCells_bvs (s : ByteArray) : byteCells s = bvs s.data.toList := rfl

/-- the error behind Count -/
def cntE (err n : Int) : Int := if err = 0 ∧ n < 0 then 2 else err
def cntB (err : Int) (bs : List UInt8) (n : Int) : List UInt8 := if n < 0 then bs else app err bs (varB n.toNat)

end Go.Proofs.YtgabmidkonphdaaDoor
