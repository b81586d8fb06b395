/- Contracts of codec.Writer's methods, at a writer that NewWriter made. Condition: what is laid down fits into memory. -/
import Derived.Test.YtnppneilbkmnfaaSame
namespace Go.Proofs.Ytnppneilbkmnfaa
open Go.RowKit

/-- From the blocks F to the blocks F': what was there and is not of F stays; F' has only blocks of F and new ones. -/
def Step (F : Nat → Prop) (w : World) (F' : Nat → Prop) (w' : World) : Prop := Ext F w w' ∧ ∀ k, F' k → F k ∨ w.heap.size ≤ k

theorem Step.refl (F : Nat → Prop) (w : World) : Step F w F w := ⟨Ext.refl _ _, fun _ h => .inl h⟩
theorem Step.trans {F F' F'' : Nat → Prop} {a b c : World} (h : Step F a F' b) (k : Step F' b F'' c) : Step F a F'' c :=
  ⟨h.1.trans k.1 fun i hi hF => (h.2 i hF).resolve_right (by omega), fun i hi => by
    rcases k.2 i hi with h1 | h1
    · exact h.2 i h1
    · exact .inr (Nat.le_trans h.1.size h1)⟩

/-- a bound below all that memory bears -/
def Fits (n : Nat) : Prop := n ≤ 1099511627776

/-- The blocks of a struct at p with one slice v. -/
def PF (p : Nat) (v : Value) : Nat → Prop := fun k => k = p ∨ inFoot v k

theorem Bytes.ext {F : Nat → Prop} {w w' : World} {v : Value} {l : List UInt8} (h : Bytes w v l) (e : Ext F w w') (hf : ∀ k, inFoot v k → ¬ F k) : Bytes w' v l := Reads.ext h e hf
theorem Bytes.alloc {w : World} {v : Value} {l : List UInt8} (h : Bytes w v l) (o : Obj) : Bytes (w.alloc o) v l := Reads.alloc h o

/-- a slice of bytes with a row of its own -/
def OwnB (w : World) (v : Value) (l : List UInt8) : Prop := Own w 5 1 v l.length (bvs l)
theorem OwnB.bytes {w : World} {v : Value} {l : List UInt8} (h : OwnB w v l) : Bytes w v l := Own.reads h
theorem OwnB.ext {F : Nat → Prop} {w w' : World} {v : Value} {l : List UInt8} (h : OwnB w v l) (e : Ext F w w') (hf : ∀ k, inFoot v k → ¬ F k) : OwnB w' v l := Own.ext h e hf
theorem OwnB.lt {w : World} {v : Value} {l : List UInt8} (h : OwnB w v l) : ∀ k, inFoot v k → k < w.heap.size := Own.lt h

theorem bvs_one (l : List UInt8) : ∀ u ∈ bvs l, u.oneCell' = true := by
  intro u hu
  simp only [bvs, List.mem_map] at hu
  obtain ⟨b, _, rfl⟩ := hu
  rfl
theorem bvs_append (l m : List UInt8) : bvs (l ++ m) = bvs l ++ bvs m := by simp [bvs]
theorem bvs_length (l : List UInt8) : (bvs l).length = l.length := by simp [bvs]

theorem info_u8 : (Try.prog.info? 5).map (fun i => (i.zero, i.size, i.bytes)) = some (some (.int .u8 0), 1, 1) := by kernel_rfl

theorem Own.shape {w : World} {e : TypeId} {size : Nat} {v : Value} {n : Nat} {xs : List Value} (h : Own w e size v n xs) : ∃ ao cap, v = .slice ao n cap ∧ n ≤ cap ∧ cap ≤ maxLen := by
  rcases h.2 with ⟨ao, rfl, rfl⟩ | ⟨g, cap, cs, rfl, _, h1, h2, _⟩
  · exact ⟨_, _, rfl, Nat.le_refl _, by simp [maxLen]⟩
  · exact ⟨_, _, rfl, h1, h2⟩

/-- append of bytes onto a row of bytes -/
theorem wpList_append_bytes {ops : Array Oper} {rest : List Oper} {o : Oper} {a : Act} {Q : Exit → Act → World → Prop} {w : World} {v : Value} {l m : List UInt8} (hown : OwnB w v l) {tx : TypeId} {vx : Value}
    (hsrc : Src Try.prog 1 tx vx m.length (bvs m) w) (hfit : Fits (l.length + m.length)) (hgd : o.guard = none) (s x : Operand)
    (ho : o.op = .call { callee := .builtin .append, args := #[s, x], argTypes := #[31, tx] }) (hs : a.eval s = v) (hx : a.eval x = vx)
    (h : ∀ ao cap w', l.length + m.length ≤ cap → cap ≤ maxLen → OwnB w' (.slice ao (l.length + m.length) cap) (l ++ m) → Step (inFoot v) w (inFoot (.slice ao (l.length + m.length) cap)) w' →
      wpList Try.prog ops Q rest (a.put o.dst (.slice ao (l.length + m.length) cap)) w') : wpList Try.prog ops Q (o :: rest) a w := by
  obtain ⟨i, hi, hz, h1, h2⟩ := info_parts info_u8
  have hf : l.length + m.length ≤ 1099511627776 := hfit
  obtain ⟨v', w', hr, h3, h4, h5⟩ := run_append (P := Try.prog) w 31 tx o.type 5 i (.int .u8 0) 1 1 Try.underlying31 hi hz h1 h2 rfl v l.length (bvs l) hown vx m.length (bvs m) hsrc
    (by unfold maxLen; omega) (by omega)
  obtain ⟨ao, cap, rfl, h6, h7⟩ := h3.shape
  refine wpList_plain hgd fun K hK => ?_
  unfold Oper.wp execOp
  simp only [ho, resolve, invoke, builtin, Sem.run_bind, Sem.run_pure, Result.andThen_ok, List.map_toArray, List.map_cons, List.map_nil, hs, hx, hr]
  refine hK _ _ (h ao cap w' h6 h7 ?_ ⟨h4, h5⟩)
  unfold OwnB
  rw [bvs_append, List.length_append]
  exact h3

/-- behind an append onto the slice in a struct's field, stored back -/
theorem stored {w w1 : World} {p : Nat} {t : TypeId} {cs : List Value} {v v' : Value} {l : List UInt8} (i : Nat) (hA : At w p t cs) (hap : ¬ inFoot v p) (hown : OwnB w1 v' l) (hst : Step (inFoot v) w (inFoot v') w1) :
    At (w1.setCell ⟨p, i, none⟩ v') p t (cs.set i v') ∧ OwnB (w1.setCell ⟨p, i, none⟩ v') v' l ∧ ¬ inFoot v' p ∧ Step (PF p v) w (PF p v') (w1.setCell ⟨p, i, none⟩ v') := by
  have hap' : ¬ inFoot v' p := fun h => by
    rcases hst.2 p h with h1 | h1
    · exact hap h1
    · have := hA.lt; omega
  refine ⟨(hA.ext hst.1 hap).set i v', hown.ext (F := One p) ((Ext.refl (One p) _).setCell (p := ⟨p, i, none⟩) (fun _ => (rfl : p = p)) v') (fun k hk e => hap' (by have e : k = p := e; rwa [e] at hk)), hap', ?_, ?_⟩
  · exact (hst.1.mono fun _ _ h => .inr h).setCell (p := ⟨p, i, none⟩) (fun _ => .inl rfl) v'
  · intro k hk
    rcases hk with hk | hk
    · exact .inl (.inl hk)
    · exact (hst.2 k hk).imp .inr id

/-- what is had behind laying ys down -/
def app (err : Int) (bs ys : List UInt8) : List UInt8 := if err = 0 then bs ++ ys else bs

theorem step_alloc (F : Nat → Prop) (w : World) (o : Obj) : Step F w F (w.alloc o) := ⟨(Ext.refl _ _).alloc o, fun _ h => .inl h⟩

/-- a byte out of a number -/
def toB (n : Int) : UInt8 := UInt8.ofNat n.toNat
theorem bv_toB {n : Int} (h0 : 0 ≤ n) (h1 : n < 256) : bv (toB n) = .int .u8 n := by
  unfold bv toB
  congr 1
  rw [UInt8.toNat_ofNat']
  omega
/-- the slice that a literal of one byte lays -/
theorem Bytes.one (w : World) {n : Int} (h0 : 0 ≤ n) (h1 : n < 256) (t : TypeId) : Bytes (w.alloc (.cells #[.int .u8 n] t (0, 0))) (.slice (some ⟨w.heap.size, 0, none⟩) 1 1) [toB n] := by
  refine ⟨rfl, _, _, rfl, Nat.le_refl _, by simp [maxLen], fun _ => ⟨_, _, rfl, fun j u hj => ?_⟩⟩
  match j, hj with
  | 0, hj =>
    have e : u = .int .u8 n := by
      simp only [bvs, List.map_cons, List.map_nil, List.getElem?_cons_zero, Option.some.injEq] at hj
      rw [← hj, bv_toB h0 h1]
    subst e
    exact (At.new w [.int .u8 n] t).cell 0 rfl

theorem app_nil (err : Int) (bs : List UInt8) : app err bs [] = bs := by unfold app; split <;> simp
theorem app_app (err : Int) (bs xs ys : List UInt8) : app err (app err bs xs) ys = app err bs (xs ++ ys) := by unfold app; split <;> simp

/-- what a uint64 holds -/
def IsU64 (n : Nat) : Prop := n < 18446744073709551616

/-- a number in groups of seven bits, the lowest first -/
def varB (n : Nat) : List UInt8 := if _h : n < 128 then [UInt8.ofNat n] else UInt8.ofNat (n % 128 + 128) :: varB (n / 128)
termination_by n
decreasing_by omega
theorem varB_lt {n : Nat} (h : n < 128) : varB n = [UInt8.ofNat n] := by rw [varB, dif_pos h]
theorem varB_ge {n : Nat} (h : 128 ≤ n) : varB n = UInt8.ofNat (n % 128 + 128) :: varB (n / 128) := by rw [varB, dif_neg (by omega)]

theorem varB_pos (n : Nat) : 1 ≤ (varB n).length := by
  by_cases h : n < 128
  · rw [varB_lt h]; simp
  · rw [varB_ge (by omega)]; simp
theorem varB_length_le : ∀ (k n : Nat), n < 128 ^ (k + 1) → (varB n).length ≤ k + 1 := by
  intro k
  induction k with
  | zero =>
    intro n h
    rw [varB_lt (by omega)]; simp
  | succ k ih =>
    intro n h
    by_cases hl : n < 128
    · rw [varB_lt hl]; simp
    · rw [varB_ge (by omega)]
      have := ih (n / 128) (by rw [Nat.div_lt_iff_lt_mul (by omega)]; rw [Nat.pow_succ] at h; exact h)
      simp; omega
theorem varB_length {n : Nat} (h : IsU64 n) : (varB n).length ≤ 10 := varB_length_le 9 n (by unfold IsU64 at h; omega)
theorem app_length (err : Int) (bs xs : List UInt8) : (app err bs xs).length ≤ bs.length + xs.length := by unfold app; split <;> simp
theorem or_128_all : ∀ m : Fin 256, bits BinOp.or IntKind.u8 (m.val : Int) 128 = ((m.val % 128 + 128 : Nat) : Int) := by decide +kernel
theorem or_128 (z : Nat) : bits BinOp.or IntKind.u8 ((z : Int) % 256) 128 = ((z % 128 + 128 : Nat) : Int) := by
  have h := or_128_all ⟨z % 256, Nat.mod_lt _ (by omega)⟩
  simp only at h
  rw [show ((z : Int) % 256) = ((z % 256 : Nat) : Int) from by omega, h]
  omega

/-- the n lowest bytes of a number, the lowest first -/
def le (n : Nat) (v : Nat) : List UInt8 := (List.range n).map fun i => UInt8.ofNat (v / 256 ^ i % 256)

theorem le_length (n v : Nat) : (le n v).length = n := by simp [le]
theorem le_succ (k v : Nat) : le (k + 1) v = le k v ++ [UInt8.ofNat (v / 256 ^ k % 256)] := by simp [le, List.range_succ]

theorem shr_byte (x k : Nat) : (x : Int) / 2 ^ (8 * k) % 256 = ((x / 256 ^ k % 256 : Nat) : Int) := by
  have h : (256 : Nat) ^ k = 2 ^ (8 * k) := by rw [Nat.pow_mul]
  rw [h]
  simp

theorem byteCells_bvs (s : ByteArray) : byteCells s = bvs s.data.toList := rfl

/-- the error behind Count -/
def cntE (err n : Int) : Int := if err = 0 ∧ n < 0 then 2 else err
def cntB (err : Int) (bs : List UInt8) (n : Int) : List UInt8 := if n < 0 then bs else app err bs (varB n.toNat)

end Go.Proofs.Ytnppneilbkmnfaa
