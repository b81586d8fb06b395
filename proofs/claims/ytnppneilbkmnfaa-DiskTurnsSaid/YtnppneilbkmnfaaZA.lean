/- Plain laws: lists that rise by a name; the disk of chapter 6 as such a list of files (no program in sight). | Auxiliary: what it is that a disk of the program stands at a block (its map of files, the files, the troubles), and what may be turned beside it. No condition. | Contracts of the disk's small functions: missing, isName, refuses, size, find, New, On, Calls. Conditions: names fit into memory. | Contracts: the closure that looks for a call's trouble, slices.IndexFunc and slices.DeleteFunc over it. Condition: the disk stands, the boxes too. | The contract of slices.DeleteFunc over the closure that looks for a call's trouble. Condition: the row is one's own, the boxes stand. | The contract of the disk's numbered call (number). Condition: what it does (one of five closures) has a contract at the disk that was counted on. -/
import Derived.WalkKit
import Derived.Maps.OwnSet
import Derived.Test.YtnppneilbkmnfaaRefW
import Derived.StringKeys
import Derived.Deep.QuietTactic
import Derived.BigQuiet
import Derived.WalkSpells
import Derived.IntWalk
import Derived.Test.YtnppneilbkmnfaaLent
import Derived.Test.YtnppneilbkmnfaaOpn
import Derived.Laws.IdiomCopy
import Derived.Deep.RegionHeld3
namespace Go.Proofs.Ytnppneilbkmnfaa

/-! ### lists that rise by a name -/
section
variable {α β : Type}
abbrev Nm := List UInt8
def insK (k : α → Nm) (x : α) : List α → List α
  | [] => [x]
  | y :: r => if bytesBefore (k x) (k y) then x :: y :: r else y :: insK k x r
def delK (k : α → Nm) (s : Nm) (l : List α) : List α := l.filter fun a => !(k a == s)
def findK (k : α → Nm) (s : Nm) (l : List α) : Option α := l.find? fun a => k a == s
def putK (k : α → Nm) (x : α) (l : List α) : List α := insK k x (delK k (k x) l)
def Rises (k : α → Nm) (l : List α) : Prop := l.Pairwise fun a b => bytesBefore (k a) (k b) = true

theorem insK_map (k : α → Nm) (k' : β → Nm) (f : α → β) (h : ∀ a, k' (f a) = k a) (x : α) : ∀ l : List α, (insK k x l).map f = insK k' (f x) (l.map f)
  | [] => rfl
  | y :: r => by
    simp only [insK, List.map_cons, h]
    split
    · rfl
    · simp only [List.map_cons, insK_map k k' f h x r]
theorem delK_map (k : α → Nm) (k' : β → Nm) (f : α → β) (h : ∀ a, k' (f a) = k a) (s : Nm) : ∀ l : List α, (delK k s l).map f = delK k' s (l.map f)
  | [] => rfl
  | y :: r => by
    have ih := delK_map k k' f h s r
    unfold delK at *
    simp only [List.map_cons, List.filter_cons, h]
    split
    · simp only [List.map_cons, ih]
    · exact ih
theorem putK_map (k : α → Nm) (k' : β → Nm) (f : α → β) (h : ∀ a, k' (f a) = k a) (x : α) (l : List α) : (putK k x l).map f = putK k' (f x) (l.map f) := by
  unfold putK
  rw [insK_map k k' f h, delK_map k k' f h, h]
theorem findK_map (k : α → Nm) (k' : β → Nm) (f : α → β) (h : ∀ a, k' (f a) = k a) (s : Nm) : ∀ l : List α, findK k' s (l.map f) = (findK k s l).map f
  | [] => rfl
  | y :: r => by
    have ih := findK_map k k' f h s r
    unfold findK at *
    simp only [List.map_cons, List.find?_cons, h]
    split
    · rfl
    · exact ih
theorem rises_map (k : α → Nm) (k' : β → Nm) (f : α → β) (h : ∀ a, k' (f a) = k a) (l : List α) : Rises k' (l.map f) ↔ Rises k l := by
  unfold Rises
  rw [List.pairwise_map]
  simp only [h]

theorem before_ne {a b : Nm} (h : bytesBefore a b = true) : a ≠ b := by
  intro e
  subst e
  rw [WideAt.bytes_irrefl] at h
  cases h
theorem before_asymm {a b : Nm} (h : bytesBefore a b = true) : bytesBefore b a = false := by
  cases h2 : bytesBefore b a with
  | false => rfl
  | true =>
    have := WideShapes.bytes_trans a b a h h2
    rw [WideAt.bytes_irrefl] at this
    cases this
theorem before_total {a b : Nm} (h : a ≠ b) (h2 : bytesBefore a b = false) : bytesBefore b a = true := by
  rcases WideAt.bytes_total a b h with h1 | h1
  · rw [h1] at h2; cases h2
  · exact h1
theorem beq_false {a b : Nm} (h : a ≠ b) : (a == b) = false := by rw [beq_eq_false_iff_ne]; exact h

/-- where a list is parted by a name -/
theorem rises_part (k : α → Nm) (s : Nm) : ∀ l : List α, Rises k l → (∀ a ∈ l, k a ≠ s) → ∃ A B, l = A ++ B ∧ (∀ a ∈ A, bytesBefore (k a) s = true) ∧ (∀ a ∈ B, bytesBefore s (k a) = true)
  | [], _, _ => ⟨[], [], rfl, by simp, by simp⟩
  | y :: r, h, hn => by
    have hr := List.pairwise_cons.1 h
    by_cases hy : bytesBefore s (k y) = true
    · refine ⟨[], y :: r, rfl, by simp, fun a ha => ?_⟩
      rcases List.mem_cons.1 ha with rfl | ha
      · exact hy
      · exact WideShapes.bytes_trans _ _ _ hy (hr.1 a ha)
    · obtain ⟨A, B, rfl, h1, h2⟩ := rises_part k s r hr.2 fun a ha => hn a (List.mem_cons_of_mem _ ha)
      have hy2 : bytesBefore (k y) s = true := before_total (fun e => hn y (List.mem_cons_self ..) e.symm) (by simpa using hy)
      refine ⟨y :: A, B, rfl, fun a ha => ?_, h2⟩
      rcases List.mem_cons.1 ha with rfl | ha
      · exact hy2
      · exact h1 a ha

theorem insK_part (k : α → Nm) (x : α) (B : List α) (hB : ∀ a ∈ B, bytesBefore (k x) (k a) = true) : ∀ A : List α, (∀ a ∈ A, bytesBefore (k a) (k x) = true) → insK k x (A ++ B) = A ++ x :: B
  | [], _ => by
    cases B with
    | nil => rfl
    | cons b B => simp [insK, hB b (List.mem_cons_self ..)]
  | a :: A, h => by
    have h1 := before_asymm (h a (List.mem_cons_self ..))
    simp only [List.cons_append, insK, h1]
    simp [insK_part k x B hB A fun a ha => h a (List.mem_cons_of_mem _ ha)]

theorem delK_none (k : α → Nm) (s : Nm) (l : List α) (h : ∀ a ∈ l, k a ≠ s) : delK k s l = l := by
  unfold delK
  rw [List.filter_eq_self]
  intro a ha
  simp [h a ha]
theorem findK_none (k : α → Nm) (s : Nm) (l : List α) : findK k s l = none ↔ ∀ a ∈ l, k a ≠ s := by
  unfold findK
  rw [List.find?_eq_none]
  simp
theorem findK_some (k : α → Nm) {s : Nm} {l : List α} {a : α} (h : findK k s l = some a) : a ∈ l ∧ k a = s := by
  unfold findK at h
  exact ⟨List.mem_of_find?_eq_some h, by simpa using List.find?_some h⟩

/-- a name that is there parts the list -/
theorem rises_at (k : α → Nm) {l : List α} (h : Rises k l) {s : Nm} {a : α} (hf : findK k s l = some a) :
    ∃ A B, l = A ++ a :: B ∧ (∀ x ∈ A, bytesBefore (k x) s = true) ∧ (∀ x ∈ B, bytesBefore s (k x) = true) ∧ k a = s ∧ delK k s l = A ++ B := by
  obtain ⟨hm, hk⟩ := findK_some k hf
  obtain ⟨A, B, rfl⟩ := List.append_of_mem hm
  have h1 := List.pairwise_append.1 h
  have h2 := List.pairwise_cons.1 h1.2.1
  have hA : ∀ x ∈ A, bytesBefore (k x) s = true := fun x hx => by rw [← hk]; exact h1.2.2 x hx a (List.mem_cons_self ..)
  have hB : ∀ x ∈ B, bytesBefore s (k x) = true := fun x hx => by rw [← hk]; exact h2.1 x hx
  refine ⟨A, B, rfl, hA, hB, hk, ?_⟩
  have e1 := delK_none k s A fun x hx => before_ne (hA x hx)
  have e2 := delK_none k s B fun x hx => (before_ne (hB x hx)).symm
  unfold delK at *
  rw [List.filter_append, List.filter_cons, e1, e2]
  simp [hk]

/-- what put does -/
theorem putK_part (k : α → Nm) {l : List α} (h : Rises k l) (x : α) :
    (∃ A a B, findK k (k x) l = some a ∧ l = A ++ a :: B ∧ putK k x l = A ++ x :: B ∧ (∀ y ∈ A, bytesBefore (k y) (k x) = true) ∧ (∀ y ∈ B, bytesBefore (k x) (k y) = true) ∧ k a = k x) ∨
    (∃ A B, findK k (k x) l = none ∧ l = A ++ B ∧ putK k x l = A ++ x :: B ∧ (∀ y ∈ A, bytesBefore (k y) (k x) = true) ∧ (∀ y ∈ B, bytesBefore (k x) (k y) = true)) := by
  cases hf : findK k (k x) l with
  | some a =>
    obtain ⟨A, B, rfl, hA, hB, hk, hd⟩ := rises_at k h hf
    refine .inl ⟨A, a, B, rfl, rfl, ?_, hA, hB, hk⟩
    unfold putK
    rw [hd]
    exact insK_part k x B hB A hA
  | none =>
    have hn := (findK_none k _ _).1 hf
    obtain ⟨A, B, rfl, hA, hB⟩ := rises_part k (k x) l h hn
    refine .inr ⟨A, B, rfl, rfl, ?_, hA, hB⟩
    unfold putK
    rw [delK_none k _ _ hn]
    exact insK_part k x B hB A hA

theorem rises_mid (k : α → Nm) {A B : List α} {x : α} (h : Rises k (A ++ B)) (hA : ∀ y ∈ A, bytesBefore (k y) (k x) = true) (hB : ∀ y ∈ B, bytesBefore (k x) (k y) = true) : Rises k (A ++ x :: B) := by
  have h1 := List.pairwise_append.1 h
  refine List.pairwise_append.2 ⟨h1.1, List.pairwise_cons.2 ⟨hB, h1.2.1⟩, fun a ha b hb => ?_⟩
  rcases List.mem_cons.1 hb with rfl | hb
  · exact hA a ha
  · exact h1.2.2 a ha b hb
theorem rises_cut (k : α → Nm) {A B : List α} {x : α} (h : Rises k (A ++ x :: B)) : Rises k (A ++ B) := by
  have h1 := List.pairwise_append.1 h
  have h2 := List.pairwise_cons.1 h1.2.1
  exact List.pairwise_append.2 ⟨h1.1, h2.2, fun a ha b hb => h1.2.2 a ha b (List.mem_cons_of_mem _ hb)⟩
theorem rises_put (k : α → Nm) {l : List α} (h : Rises k l) (x : α) : Rises k (putK k x l) := by
  rcases putK_part k h x with ⟨A, a, B, _, rfl, e, hA, hB, _⟩ | ⟨A, B, _, rfl, e, hA, hB⟩ <;> rw [e]
  · exact rises_mid k (rises_cut k h) hA hB
  · exact rises_mid k h hA hB
theorem rises_del (k : α → Nm) {l : List α} (h : Rises k l) (s : Nm) : Rises k (delK k s l) := List.Pairwise.sublist (List.filter_sublist ..) h
theorem findK_put_same (k : α → Nm) {l : List α} (h : Rises k l) (x : α) : findK k (k x) (putK k x l) = some x := by
  have go : ∀ A B : List α, (∀ y ∈ A, bytesBefore (k y) (k x) = true) → findK k (k x) (A ++ x :: B) = some x := by
    intro A B hA
    unfold findK
    rw [List.find?_append]
    have : A.find? (fun a => k a == k x) = none := by
      rw [List.find?_eq_none]
      intro a ha
      simp [before_ne (hA a ha)]
    rw [this]
    simp
  rcases putK_part k h x with ⟨A, a, B, _, rfl, e, hA, hB, _⟩ | ⟨A, B, _, rfl, e, hA, hB⟩ <;> rw [e] <;> exact go A B hA
theorem mem_put (k : α → Nm) {l : List α} (h : Rises k l) (x y : α) : y ∈ putK k x l → y = x ∨ (y ∈ l ∧ k y ≠ k x) := by
  rcases putK_part k h x with ⟨A, a, B, _, rfl, e, hA, hB, _⟩ | ⟨A, B, _, rfl, e, hA, hB⟩ <;> rw [e] <;> intro hy <;> simp only [List.mem_append, List.mem_cons] at hy ⊢
  · rcases hy with hy | rfl | hy
    · exact .inr ⟨.inl hy, before_ne (hA y hy)⟩
    · exact .inl rfl
    · exact .inr ⟨.inr (.inr hy), (before_ne (hB y hy)).symm⟩
  · rcases hy with hy | rfl | hy
    · exact .inr ⟨.inl hy, before_ne (hA y hy)⟩
    · exact .inl rfl
    · exact .inr ⟨.inr hy, (before_ne (hB y hy)).symm⟩
end

/-! ### the disk -/

structure FileM where
  nm : Nm
  b : List UInt8
  sy : Nat
structure ArmM where
  call : Nat
  tat : Int
  kind : Int
  done : Bool
structure Dk where
  lim : Nat
  fs : List FileM
  off : Bool
  out : Bool
  calls : Nat
  arms : List ArmM

def sumF (l : List FileM) : Nat := (l.map fun f => f.b.length).sum
def nmByte (c : UInt8) : Bool := (97 ≤ c.toNat && c.toNat ≤ 122) || (48 ≤ c.toNat && c.toNat ≤ 57) || c.toNat == 45 || c.toNat == 46
def nmOk (s : Nm) : Bool := s.all nmByte && 1 ≤ s.length && s.length ≤ 32

namespace Dk
variable (D : Dk)
def used : Nat := sumF D.fs
def find (s : Nm) : Option FileM := findK FileM.nm s D.fs
def size (s : Nm) : Nat := match D.find s with | some f => f.b.length | none => 0
/-- what stands against a call with that name -/
def refuse (s : Nm) : Int := if D.off then 63 else if nmOk s then 0 else 60
def seek (s : Nm) : Int := if D.refuse s ≠ 0 then D.refuse s else if (D.find s).isSome then 0 else 61
def put (f : FileM) : Dk := { D with fs := putK FileM.nm f D.fs }
def del (s : Nm) : Dk := { D with fs := delK FileM.nm s D.fs }
/-- does it hold so many bytes in that file? -/
def room (s : Nm) (n : Nat) : Bool := decide (D.used + n ≤ D.lim + D.size s) && ((D.find s).isSome || decide (D.fs.length < 65536))
/-- counted: the next call's number; what is armed for it goes -/
def tick : Dk := { D with calls := D.calls + 1, arms := D.arms.filter fun a => !(a.call == D.calls + 1) }
def hit : Option ArmM := D.arms.find? fun a => a.call == D.calls + 1
/-- a numbered call that does 'act' -/
def num (act : Dk → Dk) : Dk × Int :=
  match D.hit with
  | none => (act D.tick, 0)
  | some a => if a.kind = 1 then (D.tick, 64) else ({ (if a.done then act D.tick else D.tick) with off := true }, 63)
def addTo (s : Nm) (b : List UInt8) (D : Dk) : Dk := match D.find s with | some f => D.put ⟨s, f.b ++ b, f.sy⟩ | none => D.put ⟨s, b, 0⟩
def syncIt (s : Nm) (D : Dk) : Dk := match D.find s with | some f => D.put ⟨s, f.b, f.b.length⟩ | none => D
def cutTo (s : Nm) (n : Nat) (D : Dk) : Dk := match D.find s with | some f => D.put ⟨s, f.b.take n, n⟩ | none => D
def append (s : Nm) (b : List UInt8) : Dk × Int :=
  if D.refuse s ≠ 0 then (D, D.refuse s) else if D.room s (D.size s + b.length) then D.num (addTo s b) else (D, 62)
def sync (s : Nm) : Dk × Int := if D.seek s ≠ 0 then (D, D.seek s) else D.num (syncIt s)
def replace (s : Nm) (b : List UInt8) : Dk × Int :=
  if D.refuse s ≠ 0 then (D, D.refuse s) else if D.room s b.length then D.num (put · ⟨s, b, b.length⟩) else (D, 62)
def cut (s : Nm) (n : Int) : Dk × Int :=
  if D.seek s ≠ 0 then (D, D.seek s) else if n < 0 ∨ (D.size s : Int) < n then (D, 2) else D.num (cutTo s n.toNat)
def remove (s : Nm) : Dk × Int := if D.seek s ≠ 0 then (D, D.seek s) else D.num (del · s)
def arm (tat kind : Int) (done : Bool) : Dk × Int :=
  if D.off then (D, 63)
  else if tat < 1 ∨ 4294967296 < tat ∨ (kind ≠ 1 ∧ kind ≠ 2) ∨ (done = true ∧ kind = 1) then (D, 2)
  else ({ D with arms := D.arms ++ [⟨D.calls + tat.toNat, tat, kind, done⟩] }, 0)
/-- how many unsynced bytes are kept of the i-th file -/
def kept (keep : List Int) (i : Nat) (f : FileM) : Nat := match keep[i]? with | some n => min n.toNat (f.b.length - f.sy) | none => 0
/-- the bytes that a crash leaves of a file -/
def left (f : FileM) (k : Nat) (junk : UInt8) : List UInt8 :=
  if k = 0 then f.b.take f.sy else f.b.take (f.sy + k - 1) ++ [(f.b.getD (f.sy + k - 1) 0) ^^^ junk]
def image (keep : List Int) (junk : UInt8) : List (Nm × List UInt8) := D.fs.mapIdx fun i f => (f.nm, left f (kept keep i f) junk)
def crash : Dk × Int := if D.out then (D, 63) else ({ D with off := true, out := true }, 0)

structure Wf : Prop where
  rises : Rises FileM.nm D.fs
  lim0 : 1 ≤ D.lim
  lim1 : D.lim ≤ 1073741824
  used : sumF D.fs ≤ D.lim
  synced : ∀ f ∈ D.fs, f.sy ≤ f.b.length
  names : ∀ f ∈ D.fs, nmOk f.nm = true
  count : D.fs.length ≤ 65536
  kinds : ∀ a ∈ D.arms, (a.kind = 1 ∨ a.kind = 2) ∧ 1 ≤ a.tat ∧ a.tat ≤ 4294967296
  outOff : D.out = true → D.off = true
end Dk
end Go.Proofs.Ytnppneilbkmnfaa
namespace Go.Proofs.Ytnppneilbkmnfaa
open Go.RowKit

/-- a file, where it lies -/
structure FB where
  f : FileM
  blk : Nat
  v : Value
namespace FB
def nm (x : FB) : Nm := x.f.nm
end FB
def footL (v : Value) : List Nat := (foot v).toList
theorem mem_footL {v : Value} {k : Nat} : k ∈ footL v ↔ inFoot v k := by
  unfold footL inFoot
  cases foot v <;> simp
  exact eq_comm
theorem footL_nodup (v : Value) : (footL v).Nodup := by
  unfold footL
  cases foot v <;> simp

/-! ### the map -/
def ptrElem : Value → Option (DataW Unit × List MemPlace)
  | .pointer none => some (.nil, [])
  | .pointer (some ⟨b, 0, none⟩) => some (.lit (.int .u64 b), [])
  | _ => none
theorem ptrElem_nil {v : Value} {ps : List MemPlace} (h : ptrElem v = some (.nil, ps)) : v = .pointer none := by
  unfold ptrElem at h
  split at h
  · rfl
  · simp at h
  · cases h
theorem ptrElem_at {v : Value} {b : Nat} {ps : List MemPlace} (h : ptrElem v = some (.lit (.int .u64 b), ps)) : v = .pointer (some ⟨b, 0, none⟩) := by
  unfold ptrElem at h
  split at h
  · simp at h
  · simp only [Option.some.injEq, Prod.mk.injEq, DataW.lit.injEq, Lit.int.injEq, true_and] at h
    have := h.1
    congr 3
    omega
  · cases h
def ent (x : FB) : Lit × DataW Unit := (.string x.f.nm, .lit (.int .u64 x.blk))
def mapD (l : List FB) : DataW Unit := .map (l.map ent)
def fileAt (s : Nm) (l : List FB) : Value := match findK FB.nm s l with | some x => .pointer (some ⟨x.blk, 0, none⟩) | none => .pointer none
def MapAt (w : World) (mb : Nat) (l : List FB) : Prop := w.ownsMap Try.prog 9 ptrElem mb l.length (mapD l)

theorem ent_insert (x : FB) : ∀ l : List FB, DataW.insert (ent x) (l.map ent) = (insK FB.nm x l).map ent
  | [] => rfl
  | y :: r => by
    have ih := ent_insert x r
    simp only [List.map_cons, DataW.insert, insK]
    show (if bytesBefore x.f.nm y.f.nm = true then _ else _) = List.map ent (if bytesBefore x.f.nm y.f.nm = true then _ else _)
    split
    · rfl
    · simp only [List.map_cons, ih]
theorem ent_filter (s : Nm) : ∀ l : List FB, (l.map ent).filter (fun p => !p.1.sameKey (.string s)) = (delK FB.nm s l).map ent
  | [] => rfl
  | y :: r => by
    have ih := ent_filter s r
    unfold delK at *
    simp only [List.map_cons, List.filter_cons]
    have e : (ent y).1.sameKey (.string s) = (y.nm == s) := rfl
    rw [e]
    split
    · simp only [List.map_cons, ih]
    · exact ih
theorem mapD_put (x : FB) (l : List FB) : (mapD l).put (.string x.f.nm) (.lit (.int .u64 x.blk)) = mapD (putK FB.nm x l) := by
  show DataW.map (DataW.insert (ent x) ((l.map ent).filter fun p => !p.1.sameKey (.string x.f.nm))) = .map ((insK FB.nm x (delK FB.nm x.nm l)).map ent)
  rw [ent_filter]
  exact congrArg DataW.map (ent_insert x _)
theorem mapD_del (s : Nm) (l : List FB) : (mapD l).del (.string s) = mapD (delK FB.nm s l) := by
  show DataW.map ((l.map ent).filter fun p => !p.1.sameKey (.string s)) = .map ((delK FB.nm s l).map ent)
  rw [ent_filter]
theorem mapD_at (s : Nm) (z : DataW Unit) : ∀ l : List FB, (mapD l).atKey (.string s) z = match findK FB.nm s l with | some x => .lit (.int .u64 x.blk) | none => z
  | [] => rfl
  | y :: r => by
    have ih := mapD_at s z r
    unfold mapD DataW.atKey findK at *
    simp only [List.map_cons, List.find?_cons]
    have e : (ent y).1.sameKey (.string s) = (y.nm == s) := rfl
    rw [e]
    cases h : (y.nm == s)
    · simp only []
      exact ih
    · rfl

theorem tight {w : World} {b n : Nat} {es : List (Lit × DataW Unit)} (h : w.ownsMap Try.prog 9 ptrElem b n (.map es)) : w.ownsMap Try.prog 9 ptrElem b es.length (.map es) := by
  obtain ⟨es', clock, h1, h2, h3, h4⟩ := h
  refine ⟨es', clock, h1, h2, ?_, h4⟩
  have := DataW.map.inj h4
  rw [this, length_sorted]
  simp
theorem keyStr : Maps.Keyed Try.prog 9 := Maps.string_keyed Try.underlying9
theorem zeroPtr (w : World) : (zeroValue 113).run Try.prog w = .ok (.pointer none) w := by kernel_rfl

theorem MapAt.look {w : World} {mb : Nat} {l : List FB} (h : MapAt w mb l) (s : ByteArray) (hs : s.size ≤ maxLen) :
    (Instr.lookup 54 (.map (some mb)) (.string s) false).run Try.prog w = .ok (fileAt s.data.toList l) w := by
  obtain ⟨v, ps, hrun, hv⟩ := World.ownsMap.lookup h keyStr Try.underlying54 (zeroPtr w) (zd := .nil) (zp := []) rfl (kl := .string s.data.toList) (WideMaps.keyOf_string_mk Try.underlying9 hs)
  rw [mapD_at] at hv
  rw [hrun]
  unfold fileAt
  cases hf : findK FB.nm s.data.toList l with
  | none => rw [hf] at hv; rw [ptrElem_nil hv]
  | some x => rw [hf] at hv; rw [ptrElem_at hv]
theorem MapAt.ext {F : Nat → Prop} {w w' : World} {mb : Nat} {l : List FB} (h : MapAt w mb l) (e : Ext F w w') (hf : ¬ F mb) : MapAt w' mb l := by
  have hl := World.ownsMap.lt h
  obtain ⟨es', clock, h1, h2⟩ := h
  exact ⟨es', clock, (e.block mb hl hf).trans h1, h2⟩
theorem grown_ext {w w' : World} {b : Nat} (h : w.grownBy w' (some b)) : Ext (One b) w w' := by
  obtain ⟨h1, h2, h3, h4, h5⟩ := h
  exact ⟨h1, h2, h3, h4, fun k hk hne => h5 k hk fun e => hne (Option.some.inj e)⟩
theorem MapAt.put {w : World} {mb : Nat} {l : List FB} (h : MapAt w mb l) (s : ByteArray) (hs : s.size ≤ maxLen) (hn : l.length < maxLen) (x : FB) (hx : x.f.nm = s.data.toList) :
    ∃ w', (Instr.mapUpdate 54 (.map (some mb)) (.string s) (.pointer (some ⟨x.blk, 0, none⟩))).run Try.prog w = .ok () w' ∧ MapAt w' mb (putK FB.nm x l) ∧ Ext (One mb) w w' := by
  obtain ⟨w', hrun, h1, h2⟩ := World.ownsMap.update h keyStr Try.underlying54 hn (kl := .string s.data.toList) (val := .pointer (some ⟨x.blk, 0, none⟩)) (d := .lit (.int .u64 x.blk)) (ps := []) (WideMaps.keyOf_string_mk Try.underlying9 hs) rfl
  rw [← hx, mapD_put] at h1
  have h3 := tight h1
  rw [List.length_map] at h3
  exact ⟨w', hrun, h3, grown_ext h2⟩
theorem MapAt.del {w : World} {mb : Nat} {l : List FB} (h : MapAt w mb l) (s : ByteArray) (hs : s.size ≤ maxLen) (ty : TypeId) :
    ∃ w', (Builtin.delete_ #[54, 9] ty #[.map (some mb), .string s]).run Try.prog w = .ok (.tuple #[]) w' ∧ MapAt w' mb (delK FB.nm s.data.toList l) ∧ Ext (One mb) w w' := by
  obtain ⟨w', hrun, h1, h2⟩ := World.ownsMap.drop h keyStr Try.underlying54 (kl := .string s.data.toList) (WideMaps.keyOf_string_mk Try.underlying9 hs) ty
  rw [mapD_del] at h1
  have h3 := tight h1
  rw [List.length_map] at h3
  exact ⟨w', hrun, h3, grown_ext h2.grown⟩
theorem MapAt.len {w : World} {mb : Nat} {l : List FB} (h : MapAt w mb l) (ty : TypeId) : (Builtin.len_ #[54] ty #[.map (some mb)]).run Try.prog w = .ok (.int .i64 l.length) w := by
  have := World.ownsMap.len h Try.underlying54 ty
  have e : Maps.size (mapD l) = l.length := by unfold mapD; rw [Maps.size_eq, List.length_map]
  rw [e] at this
  exact this

/-! ### the disk -/
def armCells (a : ArmM) : List Value := [.int .i64 a.call, .int .i64 a.tat, .int .i64 a.kind, .bool a.done]
def FB.bl (x : FB) : List Nat := x.blk :: footL x.v
/-- all blocks of a disk -/
def dbl (d mb : Nat) (av : Value) (fbs : List FB) : List Nat := d :: mb :: (footL av ++ fbs.flatMap FB.bl)
def FileOk (w : World) (x : FB) : Prop := At w x.blk 115 [x.v, .int .i64 x.f.sy] ∧ OwnB w x.v x.f.b
structure DAt (w : World) (d mb : Nat) (av : Value) (fbs : List FB) (D : Dk) : Prop where
  cells : At w d 57 [.int .i64 D.lim, .int .i64 D.used, .map (some mb), .bool D.off, .bool D.out, .int .i64 D.calls, av]
  map : MapAt w mb fbs
  arms : Own w 108 4 av D.arms.length (D.arms.flatMap armCells)
  files : ∀ x ∈ fbs, FileOk w x
  same : fbs.map FB.f = D.fs
  nodup : (dbl d mb av fbs).Nodup
  wf : D.Wf

theorem FileOk.ext {F : Nat → Prop} {w w' : World} {x : FB} (h : FileOk w x) (e : Ext F w w') (hf : ∀ k ∈ x.bl, ¬ F k) : FileOk w' x :=
  ⟨h.1.ext e (hf _ (List.mem_cons_self ..)), h.2.ext e fun k hk => hf k (List.mem_cons_of_mem _ (mem_footL.2 hk))⟩
theorem FileOk.lt {w : World} {x : FB} (h : FileOk w x) : ∀ k ∈ x.bl, k < w.heap.size := by
  intro k hk
  rcases List.mem_cons.1 hk with rfl | hk
  · exact h.1.lt
  · exact h.2.lt k (mem_footL.1 hk)
theorem DAt.ext {F : Nat → Prop} {w w' : World} {d mb : Nat} {av : Value} {fbs : List FB} {D : Dk} (h : DAt w d mb av fbs D) (e : Ext F w w') (hf : ∀ k ∈ dbl d mb av fbs, ¬ F k) : DAt w' d mb av fbs D where
  cells := h.cells.ext e (hf d (by simp [dbl]))
  map := h.map.ext e (hf mb (by simp [dbl]))
  arms := h.arms.ext e fun k hk => hf k (by simp [dbl, mem_footL, hk])
  files := fun x hx => (h.files x hx).ext e fun k hk => hf k (by
    simp only [dbl, List.mem_cons, List.mem_append, List.mem_flatMap]
    exact .inr (.inr (.inr ⟨x, hx, hk⟩)))
  same := h.same
  nodup := h.nodup
  wf := h.wf
theorem DAt.lt {w : World} {d mb : Nat} {av : Value} {fbs : List FB} {D : Dk} (h : DAt w d mb av fbs D) : ∀ k ∈ dbl d mb av fbs, k < w.heap.size := by
  intro k hk
  simp only [dbl, List.mem_cons, List.mem_append, List.mem_flatMap] at hk
  rcases hk with rfl | rfl | hk | ⟨x, hx, hk⟩
  · exact h.cells.lt
  · exact World.ownsMap.lt h.map
  · exact h.arms.lt k (mem_footL.1 hk)
  · exact (h.files x hx).lt k hk
theorem DAt.rises {w : World} {d mb : Nat} {av : Value} {fbs : List FB} {D : Dk} (h : DAt w d mb av fbs D) : Rises FB.nm fbs := by
  have := h.wf.rises
  rw [← h.same, rises_map FB.nm FileM.nm FB.f fun _ => rfl] at this
  exact this
theorem DAt.find {w : World} {d mb : Nat} {av : Value} {fbs : List FB} {D : Dk} (h : DAt w d mb av fbs D) (s : Nm) : D.find s = (findK FB.nm s fbs).map FB.f := by
  unfold Dk.find
  rw [← h.same]
  exact findK_map FB.nm FileM.nm FB.f (fun _ => rfl) s fbs
theorem DAt.count {w : World} {d mb : Nat} {av : Value} {fbs : List FB} {D : Dk} (h : DAt w d mb av fbs D) : fbs.length = D.fs.length := by
  rw [← h.same, List.length_map]

/-- some files turned -/
theorem DAt.change {w w' : World} {d mb : Nat} {av : Value} {A X X' B : List FB} {D D' : Dk} (h : DAt w d mb av (A ++ X ++ B) D) (e : Ext (fun k => k = d ∨ k = mb ∨ k ∈ X.flatMap FB.bl) w w')
    (hcells : At w' d 57 [.int .i64 D'.lim, .int .i64 D'.used, .map (some mb), .bool D'.off, .bool D'.out, .int .i64 D'.calls, av]) (hmap : MapAt w' mb (A ++ X' ++ B)) (harms : D'.arms = D.arms)
    (hX : ∀ x ∈ X', FileOk w' x) (hn : (X'.flatMap FB.bl).Nodup) (hk : ∀ k ∈ X'.flatMap FB.bl, k ∈ X.flatMap FB.bl ∨ w.heap.size ≤ k) (hs : (A ++ X' ++ B).map FB.f = D'.fs) (wf : D'.Wf) :
    DAt w' d mb av (A ++ X' ++ B) D' ∧ Step (· ∈ dbl d mb av (A ++ X ++ B)) w (· ∈ dbl d mb av (A ++ X' ++ B)) w' := by
  have hnd := h.nodup
  have hlt := h.lt
  have hout : ∀ k ∈ footL av ++ (A.flatMap FB.bl ++ B.flatMap FB.bl), ¬ (k = d ∨ k = mb ∨ k ∈ X.flatMap FB.bl) := by
    intro k hk
    simp only [dbl, List.flatMap_append, List.nodup_cons, List.nodup_append, List.mem_append, List.mem_cons] at hnd hk ⊢
    obtain ⟨h1, h2, h3, ⟨⟨h4, h5, h6⟩, h7, h8⟩, h9⟩ := hnd
    rintro (rfl | rfl | hx)
    · rcases hk with hk | hk | hk
      · exact h1 (.inr (.inl hk))
      · exact h1 (.inr (.inr (.inl (.inl hk))))
      · exact h1 (.inr (.inr (.inr hk)))
    · rcases hk with hk | hk | hk
      · exact h2 (.inl hk)
      · exact h2 (.inr (.inl (.inl hk)))
      · exact h2 (.inr (.inr hk))
    · rcases hk with hk | hk | hk
      · exact h9 k hk k (.inl (.inr hx)) rfl
      · exact h6 k hk k hx rfl
      · exact h8 k (.inr hx) k hk rfl
  refine ⟨⟨hcells, hmap, ?_, ?_, hs, ?_, wf⟩, ?_, ?_⟩
  · rw [harms]
    exact h.arms.ext e fun k hk => hout k (List.mem_append_left _ (mem_footL.2 hk))
  · intro x hx
    simp only [List.mem_append] at hx
    rcases hx with (hx | hx) | hx
    · exact (h.files x (by simp [hx])).ext e fun k hk => hout k (by simp only [List.mem_append, List.mem_flatMap]; exact .inr (.inl ⟨x, hx, hk⟩))
    · exact hX x hx
    · exact (h.files x (by simp [hx])).ext e fun k hk => hout k (by simp only [List.mem_append, List.mem_flatMap]; exact .inr (.inr ⟨x, hx, hk⟩))
  · simp only [dbl, List.flatMap_append, List.nodup_cons, List.nodup_append, List.mem_append, List.mem_cons] at hnd hlt ⊢
    obtain ⟨h1, h2, h3, ⟨⟨h4, h5, h6⟩, h7, h8⟩, h9⟩ := hnd
    refine ⟨?_, ?_, h3, ⟨⟨h4, hn, ?_⟩, h7, ?_⟩, ?_⟩
    · rintro (hq | hq | (hq | hq) | hq)
      · exact h1 (.inl hq)
      · exact h1 (.inr (.inl hq))
      · exact h1 (.inr (.inr (.inl (.inl hq))))
      · rcases hk d hq with hk | hk
        · exact h1 (.inr (.inr (.inl (.inr hk))))
        · have := hlt d (.inl rfl); omega
      · exact h1 (.inr (.inr (.inr hq)))
    · rintro (hq | (hq | hq) | hq)
      · exact h2 (.inl hq)
      · exact h2 (.inr (.inl (.inl hq)))
      · rcases hk mb hq with hk | hk
        · exact h2 (.inr (.inl (.inr hk)))
        · have := hlt mb (.inr (.inl rfl)); omega
      · exact h2 (.inr (.inr hq))
    · intro a ha b hb e
      subst e
      rcases hk a hb with hk | hk
      · exact h6 a ha a hk rfl
      · have := hlt a (.inr (.inr (.inr (.inl (.inl ha))))); omega
    · intro a ha b hb e
      subst e
      rcases ha with ha | ha
      · exact h8 a (.inl ha) a hb rfl
      · rcases hk a ha with hk | hk
        · exact h8 a (.inr hk) a hb rfl
        · have := hlt a (.inr (.inr (.inr (.inr hb)))); omega
    · intro a ha b hb e
      subst e
      rcases hb with (hb | hb) | hb
      · exact h9 a ha a (.inl (.inl hb)) rfl
      · rcases hk a hb with hk | hk
        · exact h9 a ha a (.inl (.inr hk)) rfl
        · have := hlt a (.inr (.inr (.inl ha))); omega
      · exact h9 a ha a (.inr hb) rfl
  · refine e.mono fun k _ hk => ?_
    simp only [dbl, List.flatMap_append, List.mem_append, List.mem_cons]
    rcases hk with rfl | rfl | hk
    · exact .inl rfl
    · exact .inr (.inl rfl)
    · exact .inr (.inr (.inr (.inl (.inr hk))))
  · intro k hq
    simp only [dbl, List.flatMap_append, List.mem_append, List.mem_cons] at hq ⊢
    rcases hq with hq | hq | hq | (hq | hq) | hq
    · exact .inl (.inl hq)
    · exact .inl (.inr (.inl hq))
    · exact .inl (.inr (.inr (.inl hq)))
    · exact .inl (.inr (.inr (.inr (.inl (.inl hq)))))
    · rcases hk k hq with hk | hk
      · exact .inl (.inr (.inr (.inr (.inl (.inr hk)))))
      · exact .inr hk
    · exact .inl (.inr (.inr (.inr (.inr hq))))

/-- the troubles turned -/
theorem DAt.rearm {w w' : World} {d mb : Nat} {av av' : Value} {fbs : List FB} {D D' : Dk} (h : DAt w d mb av fbs D) (e : Ext (fun k => k = d ∨ inFoot av k) w w')
    (hcells : At w' d 57 [.int .i64 D'.lim, .int .i64 D'.used, .map (some mb), .bool D'.off, .bool D'.out, .int .i64 D'.calls, av']) (harms : Own w' 108 4 av' D'.arms.length (D'.arms.flatMap armCells))
    (hk : ∀ k, inFoot av' k → inFoot av k ∨ w.heap.size ≤ k) (hs : D'.fs = D.fs) (wf : D'.Wf) :
    DAt w' d mb av' fbs D' ∧ Step (· ∈ dbl d mb av fbs) w (· ∈ dbl d mb av' fbs) w' := by
  have hnd := h.nodup
  have hlt := h.lt
  simp only [dbl, List.nodup_cons, List.nodup_append, List.mem_append, List.mem_cons] at hnd hlt
  obtain ⟨h1, h2, h3, h4, h5⟩ := hnd
  refine ⟨⟨hcells, h.map.ext e ?_, harms, ?_, h.same.trans hs.symm, ?_, wf⟩, ?_, ?_⟩
  · rintro (hq | hq)
    · exact h1 (.inl hq.symm)
    · exact h2 (.inl (mem_footL.2 hq))
  · intro x hx
    refine (h.files x hx).ext e fun k hk => ?_
    have hm : k ∈ fbs.flatMap FB.bl := List.mem_flatMap.2 ⟨x, hx, hk⟩
    rintro (rfl | hq)
    · exact h1 (.inr (.inr hm))
    · exact h5 k (mem_footL.2 hq) k hm rfl
  · simp only [dbl, List.nodup_cons, List.nodup_append, List.mem_append, List.mem_cons]
    refine ⟨?_, ?_, footL_nodup _, h4, ?_⟩
    · rintro (hq | hq | hq)
      · exact h1 (.inl hq)
      · rcases hk d (mem_footL.1 hq) with hk | hk
        · exact h1 (.inr (.inl (mem_footL.2 hk)))
        · have := hlt d (.inl rfl); omega
      · exact h1 (.inr (.inr hq))
    · rintro (hq | hq)
      · rcases hk mb (mem_footL.1 hq) with hk | hk
        · exact h2 (.inl (mem_footL.2 hk))
        · have := hlt mb (.inr (.inl rfl)); omega
      · exact h2 (.inr hq)
    · intro a ha b hb e
      subst e
      rcases hk a (mem_footL.1 ha) with hk | hk
      · exact h5 a (mem_footL.2 hk) a hb rfl
      · have := hlt a (.inr (.inr (.inr hb))); omega
  · refine e.mono fun k _ hk => ?_
    simp only [dbl, List.mem_append, List.mem_cons]
    rcases hk with rfl | hk
    · exact .inl rfl
    · exact .inr (.inr (.inl (mem_footL.2 hk)))
  · intro k hq
    simp only [dbl, List.mem_append, List.mem_cons] at hq ⊢
    rcases hq with hq | hq | hq | hq
    · exact .inl (.inl hq)
    · exact .inl (.inr (.inl hq))
    · rcases hk k (mem_footL.1 hq) with hk | hk
      · exact .inl (.inr (.inr (.inl (mem_footL.2 hk))))
      · exact .inr hk
    · exact .inl (.inr (.inr (.inr hq)))

/-- A disk stands at d; its blocks are F. -/
def Disk (w : World) (d : Nat) (D : Dk) (F : Nat → Prop) : Prop := ∃ mb av fbs, DAt w d mb av fbs D ∧ F = (· ∈ dbl d mb av fbs)
theorem Disk.ext {F G : Nat → Prop} {w w' : World} {d : Nat} {D : Dk} (h : Disk w d D F) (e : Ext G w w') (hf : ∀ k, F k → ¬ G k) : Disk w' d D F := by
  obtain ⟨mb, av, fbs, h1, rfl⟩ := h
  exact ⟨mb, av, fbs, h1.ext e hf, rfl⟩
theorem Disk.lt {F : Nat → Prop} {w : World} {d : Nat} {D : Dk} (h : Disk w d D F) : ∀ k, F k → k < w.heap.size := by
  obtain ⟨mb, av, fbs, h1, rfl⟩ := h
  exact h1.lt
end Go.Proofs.Ytnppneilbkmnfaa
namespace Go.Proofs.Ytnppneilbkmnfaa
open Go.RowKit

theorem missing_nil (w : World) : Calls Try.prog 56 #[.pointer none] w fun e w' => e = .returned (.bool true) ∧ w = w' := by
  go_enter Try.func56, Try.ntmps56
  go_wp2
  go_ret
  exact ⟨rfl, rfl⟩
theorem missing_at (w : World) (d mb : Nat) (av : Value) (fbs : List FB) (D : Dk) (h : DAt w d mb av fbs D) : Calls Try.prog 56 #[.pointer (some ⟨d, 0, none⟩)] w fun e w' => e = .returned (.bool false) ∧ w = w' := by
  have c2 := h.cells.cell 2 rfl
  have hr := run_eql_map_nil (P := Try.prog) w 54 _ _ (some mb) Try.underlying54
  go_enter Try.func56, Try.ntmps56
  go_wp2
  go_ret
  exact ⟨rfl, rfl⟩

theorem toList_len (s : ByteArray) : s.toList.length = s.size := by
  rw [ByteArray.toList_eq, Array.length_toList]
  rfl
/-- the bytes of a name, one by one -/
def okTo (s : ByteArray) (k : Nat) : Prop := (s.data.toList.take k).all nmByte = true
theorem okTo_succ {s : ByteArray} {k : Nat} (h : okTo s k) (hk : k < s.size) (hb : nmByte s[k] = true) : okTo s (k + 1) := by
  unfold okTo at *
  rw [List.take_succ_eq_append_getElem (by simpa using hk), List.all_append, h]
  simp only [List.all_cons, List.all_nil, Bool.and_true, Bool.true_and]
  exact hb
theorem nmByte_iff (c : UInt8) : nmByte c = true ↔ (97 ≤ (c.toNat : Int) ∧ (c.toNat : Int) ≤ 122) ∨ (48 ≤ (c.toNat : Int) ∧ (c.toNat : Int) ≤ 57) ∨ (c.toNat : Int) = 45 ∨ (c.toNat : Int) = 46 := by
  unfold nmByte
  simp only [Bool.or_eq_true, Bool.and_eq_true, decide_eq_true_eq, beq_iff_eq]
  omega
theorem nmByte_not (c : UInt8) (h : ¬ ((97 ≤ (c.toNat : Int) ∧ (c.toNat : Int) ≤ 122) ∨ (48 ≤ (c.toNat : Int) ∧ (c.toNat : Int) ≤ 57) ∨ (c.toNat : Int) = 45 ∨ (c.toNat : Int) = 46)) : nmByte c = false := by
  cases e : nmByte c with
  | false => rfl
  | true => exact absurd ((nmByte_iff c).1 e) h
theorem nmOk_bad {s : ByteArray} {k : Nat} (hk : k < s.size) (hb : nmByte s[k] = false) : nmOk s.data.toList = false := by
  have : s.data.toList.all nmByte = false := by
    rw [List.all_eq_false]
    exact ⟨s[k], List.getElem_mem (l := s.data.toList) (n := k) (by simpa using hk), by rw [hb]; simp⟩
  unfold nmOk
  rw [this]
  rfl
theorem nmOk_end {s : ByteArray} (h : okTo s s.size) : nmOk s.data.toList = (1 ≤ s.size && s.size ≤ 32) := by
  unfold okTo at h
  have hl : s.data.toList.length = s.size := by rw [Array.length_toList]; rfl
  rw [List.take_of_length_le (by omega)] at h
  unfold nmOk
  rw [h, hl]
  simp

set_option maxRecDepth 100000 in
theorem isName_any (w : World) (s : ByteArray) (hs : s.size ≤ maxLen) : Calls Try.prog 70 #[.string s] w fun e w' => e = .returned (.bool (nmOk s.data.toList)) ∧ w = w' := by
  unfold maxLen at hs
  go_enter Try.func70, Try.ntmps70
  go_wp2_with fail
  go_loop [7] (fun i => ∃ k : Nat, k ≤ s.size ∧ i = .int .i64 k ∧ okTo s k) (fun i => s.size - (intOf i).toNat)
  case atStart => exact ⟨0, Nat.zero_le _, rfl, rfl⟩
  case round =>
    obtain ⟨k, hk, rfl, hok⟩ := hrel
    by_cases hlt : k < s.size
    · have hsucc := Lib.hid fun hb => okTo_succ hok hlt hb
      have hbad := Lib.hid fun hb => nmOk_bad hlt hb
      have hc := (s[k]).toNat_lt
      generalize hcc : s[k] = c at *
      clear hok
      go_wp2
      all_goals simp only [beq_iff_eq, beq_eq_false_iff_ne] at *
      all_goals first
        | exact ⟨⟨k + 1, by omega, by go_num, hsucc.out ((nmByte_iff c).2 (by omega))⟩, by simp [intOf]; omega⟩
        | (go_ret; exact ⟨ret_bool (hbad.out (nmByte_not c (by omega))).symm, rfl⟩)
    · obtain rfl : k = s.size := by omega
      have hend := Lib.hid (nmOk_end hok)
      clear hok
      have hl := toList_len s
      go_wp2
      · have h : s.toList = [] := by assumption
        go_ret
        refine ⟨ret_bool ?_, rfl⟩
        rw [hend.out]
        rw [h] at hl
        have h0 : s.size = 0 := by simpa using hl.symm
        rw [h0]
        rfl
      · have h : ¬ s.toList = [] := by assumption
        go_ret
        refine ⟨ret_bool ?_, rfl⟩
        have h1 : 1 ≤ s.size := by
          rw [← hl]
          exact List.length_pos_iff.2 h
        have h2 : s.toList.isEmpty = false := by simpa using h
        rw [hend.out, h2]
        simp [h1]
        omega

theorem refuses_nil (w : World) (s : ByteArray) : Calls Try.prog 57 #[.pointer none, .string s] w fun e w' => e = .returned (.int .i64 1) ∧ w = w' := by
  go_enter Try.func57, Try.ntmps57
  go_wp2_with (go_at_call 56; refine (missing_nil w).mono ?_; rintro e w' ⟨rfl, rfl⟩)
  go_ret
  exact ⟨rfl, rfl⟩
theorem refuses_at (w : World) (d mb : Nat) (av : Value) (fbs : List FB) (D : Dk) (h : DAt w d mb av fbs D) (s : ByteArray) (hs : s.size ≤ maxLen) : Calls Try.prog 57 #[.pointer (some ⟨d, 0, none⟩), .string s] w fun e w' => e = .returned (.int .i64 (D.refuse s.data.toList)) ∧ w = w' := by
  have c3 := h.cells.cell 3 rfl
  cases ho : D.off
  · cases hn : nmOk s.data.toList
    · have e1 : D.refuse s.data.toList = 60 := by unfold Dk.refuse; rw [ho, hn]; rfl
      rw [e1]
      rw [ho] at c3
      clear e1 ho
      have HN := Lib.hid hn
      clear hn
      go_enter Try.func57, Try.ntmps57
      go_wp2_with (first
        | (go_at_call 56; refine (missing_at w d mb av fbs D h).mono ?_; rintro e w' ⟨rfl, rfl⟩)
        | (go_at_call 70; refine (isName_any w s hs).mono ?_; rintro e w' ⟨rfl, rfl⟩; rw [HN.out]))
      go_ret
      exact ⟨rfl, rfl⟩
    · have e1 : D.refuse s.data.toList = 0 := by unfold Dk.refuse; rw [ho, hn]; rfl
      rw [e1]
      rw [ho] at c3
      clear e1 ho
      have HN := Lib.hid hn
      clear hn
      go_enter Try.func57, Try.ntmps57
      go_wp2_with (first
        | (go_at_call 56; refine (missing_at w d mb av fbs D h).mono ?_; rintro e w' ⟨rfl, rfl⟩)
        | (go_at_call 70; refine (isName_any w s hs).mono ?_; rintro e w' ⟨rfl, rfl⟩; rw [HN.out]))
      go_ret
      exact ⟨rfl, rfl⟩
  · have e1 : D.refuse s.data.toList = 63 := by unfold Dk.refuse; rw [ho]; rfl
    rw [e1]
    rw [ho] at c3
    clear e1 ho
    go_enter Try.func57, Try.ntmps57
    go_wp2_with (first
      | (go_at_call 56; refine (missing_at w d mb av fbs D h).mono ?_; rintro e w' ⟨rfl, rfl⟩))
    go_ret
    exact ⟨rfl, rfl⟩

theorem size_at (w : World) (d mb : Nat) (av : Value) (fbs : List FB) (D : Dk) (h : DAt w d mb av fbs D) (s : ByteArray) (hs : s.size ≤ maxLen) : Calls Try.prog 59 #[.pointer (some ⟨d, 0, none⟩), .string s] w fun e w' => e = .returned (.int .i64 (D.size s.data.toList)) ∧ w = w' := by
  have c2 := h.cells.cell 2 rfl
  have hl := h.map.look s hs
  have hfd := h.find s.data.toList
  unfold fileAt at hl
  unfold Dk.size
  cases hf : findK FB.nm s.data.toList fbs with
  | none =>
    rw [hf] at hl hfd
    rw [hfd]
    clear hfd hf
    go_enter Try.func59, Try.ntmps59
    go_wp2
    go_ret
    exact ⟨rfl, rfl⟩
  | some x =>
    have hx := h.files x (findK_some _ hf).1
    obtain ⟨ao, cap, hv, h1, h2⟩ := hx.2.shape
    unfold maxLen at h2
    have f0 := hx.1.cell 0 rfl
    rw [hv] at f0
    rw [hf] at hl hfd
    rw [hfd]
    clear hfd hf
    go_enter Try.func59, Try.ntmps59
    go_wp2
    go_ret
    exact ⟨rfl, rfl⟩

theorem find_nil (w : World) (s : ByteArray) : Calls Try.prog 69 #[.pointer none, .string s] w fun e w' => e = .returned (.tuple #[.pointer none, .int .i64 1]) ∧ w = w' := by
  go_enter Try.func69, Try.ntmps69
  go_wp2_with (go_at_call 57; refine (refuses_nil w s).mono ?_; rintro e w' ⟨rfl, rfl⟩)
  go_ret2
  exact ⟨rfl, rfl⟩
/-- what find hands out -/
def found (s : Nm) (fbs : List FB) (D : Dk) : Value := if D.seek s = 0 then fileAt s fbs else .pointer none
theorem seek_refused {D : Dk} {s : Nm} (h : D.refuse s ≠ 0) : D.seek s = D.refuse s := if_pos h
theorem seek_none {D : Dk} {s : Nm} (h : D.refuse s = 0) (hf : D.find s = none) : D.seek s = 61 := by
  unfold Dk.seek
  rw [if_neg (by simp [h]), hf]
  rfl
theorem seek_some {D : Dk} {s : Nm} {f : FileM} (h : D.refuse s = 0) (hf : D.find s = some f) : D.seek s = 0 := by
  unfold Dk.seek
  rw [if_neg (by simp [h]), hf]
  rfl
theorem find_at (w : World) (d mb : Nat) (av : Value) (fbs : List FB) (D : Dk) (h : DAt w d mb av fbs D) (s : ByteArray) (hs : s.size ≤ maxLen) : Calls Try.prog 69 #[.pointer (some ⟨d, 0, none⟩), .string s] w fun e w' => e = .returned (.tuple #[found s.data.toList fbs D, .int .i64 (D.seek s.data.toList)]) ∧ w = w' := by
  have c2 := h.cells.cell 2 rfl
  have hl := h.map.look s hs
  have hfd := h.find s.data.toList
  by_cases hr : D.refuse s.data.toList = 0
  · unfold found
    unfold fileAt at *
    cases hf : findK FB.nm s.data.toList fbs with
    | none =>
      rw [hf] at hl hfd
      have e1 := seek_none hr hfd
      rw [e1, if_neg (by omega)]
      have HR := Lib.hid hr
      clear hfd hf hr e1
      go_enter Try.func69, Try.ntmps69
      go_wp2_with (go_at_call 57; refine (refuses_at w d mb av fbs D h s hs).mono ?_; rintro e w' ⟨rfl, rfl⟩; rw [HR.out])
      go_ret2
      exact ⟨rfl, rfl⟩
    | some x =>
      rw [hf] at hl hfd
      have e1 := seek_some hr hfd
      rw [e1, if_pos rfl]
      have HR := Lib.hid hr
      clear hfd hf hr e1
      go_enter Try.func69, Try.ntmps69
      go_wp2_with (go_at_call 57; refine (refuses_at w d mb av fbs D h s hs).mono ?_; rintro e w' ⟨rfl, rfl⟩; rw [HR.out])
      go_ret2
      exact ⟨rfl, rfl⟩
  · have e1 := seek_refused hr
    unfold found
    rw [e1, if_neg hr]
    generalize hR : D.refuse s.data.toList = R at *
    have HRR := Lib.hid hR
    have hne : (R != 0) = true := by rw [bne_iff_ne]; exact hr
    clear hr hR hl hfd e1 c2
    go_enter Try.func69, Try.ntmps69
    go_wp2_with (go_at_call 57; refine (refuses_at w d mb av fbs D h s hs).mono ?_; rintro e w' ⟨rfl, rfl⟩; rw [HRR.out])
    go_ret2
    exact ⟨rfl, rfl⟩

theorem sumF_mem {l : List FileM} {f : FileM} (h : f ∈ l) : f.b.length ≤ sumF l := by
  induction l with
  | nil => cases h
  | cons y r ih =>
    unfold sumF at *
    simp only [List.map_cons, List.sum_cons]
    rcases List.mem_cons.1 h with rfl | h
    · omega
    · have := ih h
      omega
theorem size_le {D : Dk} (h : D.Wf) (s : Nm) : D.size s ≤ 1073741824 := by
  unfold Dk.size
  cases hf : D.find s with
  | none => simp
  | some f =>
    have h1 := sumF_mem (findK_some _ hf).1
    have := h.used
    have := h.lim1
    show f.b.length ≤ _
    omega
theorem DAt.drewN {w : World} {d mb : Nat} {av : Value} {fbs : List FB} {D : Dk} (h : DAt w d mb av fbs D) (n : Nat) : DAt (w.drewN n) d mb av fbs D := h.ext ((Ext.refl Nil w).drewN n) fun _ _ h => h
theorem size_q (w : World) (d mb : Nat) (av : Value) (fbs : List FB) (D : Dk) (h : DAt w d mb av fbs D) (s : ByteArray) (hs : s.size ≤ maxLen) (S : Nat) (hS : Hid (D.size s.data.toList = S)) : Calls Try.prog 59 #[.pointer (some ⟨d, 0, none⟩), .string s] w fun e w' => e = .returned (.int .i64 S) ∧ w' = w :=
  (size_at w d mb av fbs D h s hs).mono fun e w' ⟨h1, h2⟩ => ⟨by rw [h1, hS.out], h2.symm⟩

set_option maxRecDepth 20000 in
theorem holds_at (w : World) (d mb : Nat) (av : Value) (fbs : List FB) (D : Dk) (h : DAt w d mb av fbs D) (s : ByteArray) (hs : s.size ≤ maxLen) (n : Nat) (_hn : n ≤ 1099511627776) :
    Calls Try.prog 58 #[.pointer (some ⟨d, 0, none⟩), .string s, .int .i64 n] w fun e w' => e = .returned (.bool (D.room s.data.toList n)) ∧ ∃ q, w' = w.drewN q := by
  have c0 := h.cells.cell 0 rfl
  have c1 := h.cells.cell 1 rfl
  have c2 := h.cells.cell 2 rfl
  have hw := h.wf.used
  have hl1 := h.wf.lim1
  have hsz : D.size s.data.toList ≤ 1073741824 := size_le h.wf _
  have hfd := h.find s.data.toList
  have hL : ∀ q, (Instr.lookup 54 (.map (some mb)) (.string s) false).run Try.prog (w.drewN q) = .ok (fileAt s.data.toList fbs) (w.drewN q) := fun q => MapAt.look (h.map.ext ((Ext.refl Nil w).drewN q) fun h => h) s hs
  have hN : ∀ q ty, (Builtin.len_ #[54] ty #[.map (some mb)]).run Try.prog (w.drewN q) = .ok (.int .i64 fbs.length) (w.drewN q) := fun q ty => MapAt.len (h.map.ext ((Ext.refl Nil w).drewN q) fun h => h) ty
  rw [h.count] at hN
  have hc := h.wf.count
  have hu : D.used ≤ D.lim := hw
  have hroom : D.room s.data.toList n = (decide (D.used + n ≤ D.lim + D.size s.data.toList) && ((D.find s.data.toList).isSome || decide (D.fs.length < 65536))) := rfl
  generalize D.room s.data.toList n = R at *
  generalize hS : D.size s.data.toList = S at *
  have HS := Lib.hid hS
  generalize D.used = U at *
  generalize D.lim = L at *
  have HR := Lib.hid hroom
  have HF := Lib.hid hfd
  have HN := Lib.hid hN
  have HL := Lib.hid hL
  clear hroom hfd hN hL hS
  have w1 : IntKind.i64.wrap ((L : Int) - U) = (L : Int) - U := IntWalk.i64_in _ (by omega)
  have w2 : IntKind.i64.wrap ((L : Int) - U + S) = (L : Int) - U + S := IntWalk.i64_in _ (by omega)
  go_enter Try.func58, Try.ntmps58
  go_wp2_with fail
  go_quiet ((go_at_call 59; exact Calls.quiet_of_same (size_q _ d mb av fbs D (h.drewN _) s hs S HS)))
  clear w1 w2
  by_cases h1 : n ≤ L - U + S
  · have h1i : (n : Int) ≤ (L : Int) - U + S := by omega
    have hl := HL.out nq
    unfold fileAt at hl
    cases hf : findK FB.nm s.data.toList fbs with
    | some x =>
      have hF := HF.out
      rw [hf] at hl hF
      have hR := HR.out
      rw [hF] at hR
      have hR2 : R = true := by rw [hR]; simp; omega
      clear hF hR hf
      subst hR2
      go_wp2
      go_ret
      exact ⟨rfl, nq, rfl⟩
    | none =>
      have hF := HF.out
      rw [hf] at hl hF
      have hR := HR.out
      rw [hF] at hR
      have hn2 := HN.out nq
      by_cases h2 : D.fs.length < 65536
      · have h2i : (D.fs.length : Int) < 65536 := by omega
        have hR2 : R = true := by rw [hR]; simp; omega
        clear hF hR hf
        subst hR2
        go_wp2
        go_ret
        exact ⟨rfl, nq, rfl⟩
      · have h2i : ¬ (D.fs.length : Int) < 65536 := by omega
        have hR2 : R = false := by rw [hR]; simp [h2]
        clear hF hR hf
        subst hR2
        go_wp2
        go_ret
        exact ⟨rfl, nq, rfl⟩
  · have h1i : ¬ (n : Int) ≤ (L : Int) - U + S := by omega
    have hR2 : R = false := by
      rw [HR.out]
      have : ¬ U + n ≤ L + S := by omega
      simp [this]
    subst hR2
    go_wp2
    go_ret
    exact ⟨rfl, nq, rfl⟩

theorem new_bad (w : World) (n : Int) (h : n < 1 ∨ 1073741824 < n) : Calls Try.prog 17 #[.int .i64 n] w fun e w' => e = .returned (.tuple #[.pointer none, .int .i64 2]) ∧ w = w' := by
  by_cases h1 : n < 1
  · go_enter Try.func17, Try.ntmps17
    go_wp2
    go_ret2
    exact ⟨rfl, rfl⟩
  · have h2 : 1073741824 < n := by omega
    go_enter Try.func17, Try.ntmps17
    go_wp2
    go_ret2
    exact ⟨rfl, rfl⟩
def Dk.fresh (n : Nat) : Dk := ⟨n, [], false, false, 0, []⟩
theorem Dk.fresh_wf {n : Nat} (h0 : 1 ≤ n) (h1 : n ≤ 1073741824) : (Dk.fresh n).Wf where
  rises := List.Pairwise.nil
  lim0 := h0
  lim1 := h1
  used := Nat.zero_le _
  synced := by intro f hf; cases hf
  names := by intro f hf; cases hf
  count := by simp [Dk.fresh]
  kinds := by intro a ha; cases ha
  outOff := by intro h; cases h
theorem new_at (w : World) (n : Nat) (h0 : 1 ≤ n) (h1 : n ≤ 1073741824) : Calls Try.prog 17 #[.int .i64 n] w fun e w' => e = .returned (.tuple #[.pointer (some ⟨w.heap.size + 1, 0, none⟩), .int .i64 0]) ∧ DAt w' (w.heap.size + 1) w.heap.size (.slice none 0 0) [] (Dk.fresh n) ∧ Ext Nil w w' := by
  have g0 : ¬ (n : Int) < 1 := by omega
  have g1 : ¬ 1073741824 < (n : Int) := by omega
  have hmm := @run_makeMap Try.prog
  go_enter Try.func17, Try.ntmps17
  go_wp2
  go_ret2
  have hm := World.ownsMap_made w Try.prog 9 ptrElem
  have hD := At.new (w.alloc (.map #[] 0)) [.int .i64 n, .int .i64 0, .map (some w.heap.size), .bool false, .bool false, .int .i64 0, .slice none 0 0] 57
  have hsz : (w.alloc (.map #[] 0)).heap.size = w.heap.size + 1 := by simp
  rw [hsz] at hD
  refine ⟨rfl, ⟨hD, World.ownsMap.alloc hm _, Own.nil _ _ _, (by intro x hx; cases hx), rfl, ?_, Dk.fresh_wf h0 h1⟩, ((Ext.refl _ _).alloc _).alloc _⟩
  simp [dbl, footL, foot]

theorem on_nil (w : World) : Calls Try.prog 21 #[.pointer none] w fun e w' => e = .returned (.bool false) ∧ w = w' := by
  go_enter Try.func21, Try.ntmps21
  go_wp2_with (go_at_call 56; refine (missing_nil w).mono ?_; rintro e w' ⟨rfl, rfl⟩)
  go_ret
  exact ⟨rfl, rfl⟩
theorem on_at (w : World) (d mb : Nat) (av : Value) (fbs : List FB) (D : Dk) (h : DAt w d mb av fbs D) : Calls Try.prog 21 #[.pointer (some ⟨d, 0, none⟩)] w fun e w' => e = .returned (.bool (!D.off)) ∧ w = w' := by
  have c3 := h.cells.cell 3 rfl
  go_enter Try.func21, Try.ntmps21
  go_wp2_with (go_at_call 56; refine (missing_at w d mb av fbs D h).mono ?_; rintro e w' ⟨rfl, rfl⟩)
  go_ret
  exact ⟨rfl, rfl⟩
theorem calls_nil (w : World) : Calls Try.prog 22 #[.pointer none] w fun e w' => e = .returned (.int .i64 0) ∧ w = w' := by
  go_enter Try.func22, Try.ntmps22
  go_wp2_with (go_at_call 56; refine (missing_nil w).mono ?_; rintro e w' ⟨rfl, rfl⟩)
  go_ret
  exact ⟨rfl, rfl⟩
theorem calls_at (w : World) (d mb : Nat) (av : Value) (fbs : List FB) (D : Dk) (h : DAt w d mb av fbs D) : Calls Try.prog 22 #[.pointer (some ⟨d, 0, none⟩)] w fun e w' => e = .returned (.int .i64 D.calls) ∧ w = w' := by
  have c5 := h.cells.cell 5 rfl
  go_enter Try.func22, Try.ntmps22
  go_wp2_with (go_at_call 56; refine (missing_at w d mb av fbs D h).mono ?_; rintro e w' ⟨rfl, rfl⟩)
  go_ret
  exact ⟨rfl, rfl⟩
end Go.Proofs.Ytnppneilbkmnfaa
namespace Go.Proofs.Ytnppneilbkmnfaa
open Go.RowKit

/-- a trouble as a value -/
def armV (a : ArmM) : Value := .agg #[.int .i64 a.call, .int .i64 a.tat, .int .i64 a.kind, .bool a.done]
/-- the box of a pointer to the disk; the cell of its calls -/
def Box (w : World) (p d : Nat) (n : Nat) : Prop := w.cell? ⟨p, 0, none⟩ = some (.pointer (some ⟨d, 0, none⟩)) ∧ w.cell? ⟨d, 5, none⟩ = some (.int .i64 n)

theorem pick_off (w : World) (a : ArmM) (p t d n : Nat) (hb : Box w p d n) (hp : p < w.heap.size) (hd : d < w.heap.size) (hne : a.call ≠ n) :
    Calls Try.prog 91 #[armV a, .pointer (some ⟨p, 0, none⟩), .pointer (some ⟨t, 0, none⟩)] w fun e w' => e = .returned (.bool false) ∧ Ext Nil w w' := by
  obtain ⟨b0, b5⟩ := hb
  have hne2 : ((a.call : Int) != (n : Int)) = true := by rw [bne_iff_ne]; omega
  unfold armV
  have HN := Lib.hid hne
  clear hne
  go_enter Try.func91, Try.ntmps91
  go_wp2_with fail
  go_quiet (fail)
  go_wp2
  go_ret
  exact ⟨rfl, ((Ext.refl _ _).alloc _).drewN _⟩

/-- a trouble found: kept in the box if it is the first -/
theorem pick_on (w : World) (a : ArmM) (p t d n : Nat) (hb : Box w p d n) (hp : p < w.heap.size) (hd : d < w.heap.size) (x k : Int) (b : Bool) (hT : At w t 29 [.int .i64 x, .int .i64 k, .bool b]) (he : a.call = n) :
    Calls Try.prog 91 #[armV a, .pointer (some ⟨p, 0, none⟩), .pointer (some ⟨t, 0, none⟩)] w fun e w' => e = .returned (.bool true) ∧
      At w' t 29 (if k = 0 then [.int .i64 a.tat, .int .i64 a.kind, .bool a.done] else [.int .i64 x, .int .i64 k, .bool b]) ∧ Ext (One t) w w' := by
  obtain ⟨b0, b5⟩ := hb
  subst he
  have hq : ((a.call : Int) != (a.call : Int)) = false := by simp
  have ht := hT.lt
  have t1 := hT.cell 1 rfl
  have t0 := hT.cell 0 rfl
  have t2 := hT.cell 2 rfl
  have f0 := hT.frozen 0
  have f1 := hT.frozen 1
  have f2 := hT.frozen 2
  unfold armV
  by_cases hk : k = 0
  · subst hk
    go_enter Try.func91, Try.ntmps91
    go_wp2_with fail
    go_quiet (fail)
    go_wp2
    go_ret
    have h0 : At ((w.alloc (.cells #[.int .i64 a.call, .int .i64 a.tat, .int .i64 a.kind, .bool a.done] 108 (0, 0))).drewN nq) t 29 [.int .i64 x, .int .i64 0, .bool b] := hT.ext (F := Nil) (((Ext.refl _ _).alloc _).drewN _) fun h => h
    have e0 : Ext (One t) w ((w.alloc (.cells #[.int .i64 a.call, .int .i64 a.tat, .int .i64 a.kind, .bool a.done] 108 (0, 0))).drewN nq) := ((Ext.refl _ _).alloc _).drewN _
    exact ⟨rfl, ((h0.set 0 (.int .i64 a.tat)).set 1 (.int .i64 a.kind)).set 2 (.bool a.done), ((e0.setCell (p := ⟨t, 0, none⟩) (fun _ => (rfl : t = t)) _).setCell (p := ⟨t, 1, none⟩) (fun _ => (rfl : t = t)) _).setCell (p := ⟨t, 2, none⟩) (fun _ => (rfl : t = t)) _⟩
  · have hk2 : (k == 0) = false := by rw [beq_eq_false_iff_ne]; exact hk
    rw [if_neg hk]
    have HK := Lib.hid hk
    clear hk
    go_enter Try.func91, Try.ntmps91
    go_wp2_with fail
    go_quiet (fail)
    go_wp2
    go_ret
    exact ⟨rfl, hT.ext (F := Nil) (((Ext.refl _ _).alloc _).drewN _) fun h => h, ((Ext.refl _ _).alloc _).drewN _⟩

theorem armCells_length (l : List ArmM) : (l.flatMap armCells).length = l.length * 4 := by
  induction l with
  | nil => rfl
  | cons a l ih => simp only [List.flatMap_cons, List.length_append, ih, armCells, List.length_cons, List.length_nil]; omega
theorem armCells_at (l : List ArmM) (k : Nat) (hk : k < l.length) (j : Nat) (hj : j < 4) : (l.flatMap armCells)[k * 4 + j]? = (armCells l[k])[j]? := by
  induction l generalizing k with
  | nil => simp at hk
  | cons a l ih =>
    cases k with
    | zero =>
      rw [List.flatMap_cons, Nat.zero_mul, Nat.zero_add, List.getElem?_append_left (by simp [armCells]; omega)]
      rfl
    | succ k =>
      rw [List.flatMap_cons, List.getElem?_append_right (by simp [armCells]; omega)]
      have e : (k + 1) * 4 + j - (armCells a).length = k * 4 + j := by simp only [armCells, List.length_cons, List.length_nil]; omega
      rw [e, ih k (by simpa using hk)]
      rfl
/-- a row of troubles, opened -/
theorem Reads.arms {w : World} {v : Value} {l : List ArmM} (h : Reads w 4 v l.length (l.flatMap armCells)) : ∃ ao cap, v = .slice ao l.length cap ∧ l.length ≤ cap ∧ cap ≤ maxLen ∧
    (l ≠ [] → ∃ b off, ao = some ⟨b, off, none⟩ ∧ ∀ k (hk : k < l.length), w.cell? ⟨b, off + k * 4, none⟩ = some (.int .i64 l[k].call) ∧ w.cell? ⟨b, off + k * 4 + 1, none⟩ = some (.int .i64 l[k].tat) ∧ w.cell? ⟨b, off + k * 4 + 2, none⟩ = some (.int .i64 l[k].kind) ∧ w.cell? ⟨b, off + k * 4 + 3, none⟩ = some (.bool l[k].done)) := by
  obtain ⟨_, ao, cap, rfl, h2, h3, h4⟩ := h
  refine ⟨ao, cap, rfl, h2, h3, fun hne => ?_⟩
  have hl : l.flatMap armCells ≠ [] := by
    intro e
    have h1 := congrArg List.length e
    rw [armCells_length] at h1
    have h2 := List.length_pos_iff.2 hne
    simp only [List.length_nil] at h1
    omega
  obtain ⟨b, off, rfl, hc⟩ := h4 hl
  refine ⟨b, off, rfl, fun k hk => ⟨?_, ?_, ?_, ?_⟩⟩
  · have := hc (k * 4 + 0) _ (armCells_at l k hk 0 (by omega))
    simpa using this
  · have := hc (k * 4 + 1) _ (armCells_at l k hk 1 (by omega))
    rwa [← Nat.add_assoc] at this
  · have := hc (k * 4 + 2) _ (armCells_at l k hk 2 (by omega))
    rwa [← Nat.add_assoc] at this
  · have := hc (k * 4 + 3) _ (armCells_at l k hk 3 (by omega))
    rwa [← Nat.add_assoc] at this

def pickV (p t : Nat) : Value := .func (.func 91) #[] #[.pointer (some ⟨p, 0, none⟩), .pointer (some ⟨t, 0, none⟩)]
theorem Box.ext {F : Nat → Prop} {w w' : World} {p d n : Nat} (h : Box w p d n) (e : Ext F w w') (h1 : ¬ F p) (h2 : ¬ F d) : Box w' p d n := ⟨e.cell h.1 h1, e.cell h.2 h2⟩
theorem Box.lt {w : World} {p d n : Nat} (h : Box w p d n) : p < w.heap.size ∧ d < w.heap.size := ⟨(cell_spot h.1).2, (cell_spot h.2).2⟩

set_option maxRecDepth 20000 in
theorem index_none (w : World) (v : Value) (l : List ArmM) (hv : Reads w 4 v l.length (l.flatMap armCells)) (p t d n : Nat) (hb : Box w p d n) (hn : ∀ a ∈ l, a.call ≠ n) :
    Calls Try.prog 102 #[v, pickV p t] w fun e w' => e = .returned (.int .i64 (-1)) ∧ Ext Nil w w' := by
  obtain ⟨ao, cap, rfl, hcap, hmax, hc⟩ := hv.arms
  unfold maxLen at hmax
  unfold pickV
  go_enter Try.func102, Try.ntmps102
  go_wp2_with fail
  go_loopw [8] (fun i wr => ∃ k : Nat, k ≤ l.length ∧ i = .int .i64 k ∧ Ext Nil w wr) (fun i _ => l.length - (intOf i).toNat)
  case atStart => exact ⟨0, Nat.zero_le _, rfl, Ext.refl _ _⟩
  case round =>
    obtain ⟨k, hk, rfl, hS⟩ := hrel
    by_cases hlt : k < l.length
    · obtain ⟨b, off, rfl, hcl⟩ := hc (by intro e; subst e; simp at hlt)
      obtain ⟨g0, g1, g2, g3⟩ := hcl k hlt
      have g0 := hS.cell g0 fun h => h
      have g1 := hS.cell g1 fun h => h
      have g2 := hS.cell g2 fun h => h
      have g3 := hS.cell g3 fun h => h
      have hne := Lib.hid (hn l[k] (List.getElem_mem hlt))
      have hbr := hb.ext hS (fun h => h) fun h => h
      have hbl := hbr.lt
      have hC := pick_off wr l[k] p t d n hbr hbl.1 hbl.2 hne.out
      unfold armV at hC
      generalize l[k] = a at *
      have HC := Lib.hid hC
      clear hcl hc hn hC
      go_wp2_with fail
      refine HC.out.mono ?_
      rintro e w1 ⟨rfl, e1⟩
      go_wp2_with fail
      exact ⟨⟨k + 1, by omega, by go_num, hS.same e1⟩, by simp [intOf]; omega⟩
    · go_wp2_with fail
      go_ret
      exact ⟨rfl, hS⟩

def zeroT : List Value := [.int .i64 0, .int .i64 0, .bool false]
def trouble (a : ArmM) : List Value := [.int .i64 a.tat, .int .i64 a.kind, .bool a.done]

set_option maxRecDepth 20000 in
theorem index_some (w : World) (v : Value) (A B : List ArmM) (a : ArmM) (hv : Reads w 4 v (A ++ a :: B).length ((A ++ a :: B).flatMap armCells)) (p t d n : Nat) (hb : Box w p d n) (hT : At w t 29 zeroT) (hA : ∀ x ∈ A, x.call ≠ n) (ha : a.call = n)  :
    Calls Try.prog 102 #[v, pickV p t] w fun e w' => e = .returned (.int .i64 A.length) ∧ At w' t 29 (trouble a) ∧ Ext (One t) w w' := by
  obtain ⟨ao, cap, rfl, hcap, hmax, hc⟩ := hv.arms
  unfold maxLen at hmax
  obtain ⟨b, off, rfl, hcl⟩ := hc (by simp)
  clear hc
  have hlen : (A ++ a :: B).length = A.length + (B.length + 1) := by simp
  generalize hl : A ++ a :: B = l at *
  have HL := Lib.hid hl
  have HLen := Lib.hid hlen
  have hlen2 : A.length < l.length := by omega
  clear hl hlen
  unfold pickV
  go_enter Try.func102, Try.ntmps102
  go_wp2_with fail
  go_loopw [8] (fun i wr => ∃ k : Nat, k ≤ A.length ∧ i = .int .i64 k ∧ Ext Nil w wr) (fun i _ => l.length - (intOf i).toNat)
  case atStart => exact ⟨0, Nat.zero_le _, rfl, Ext.refl _ _⟩
  case round =>
    obtain ⟨k, hk, rfl, hS⟩ := hrel
    have hlt : k < l.length := by omega
    obtain ⟨g0, g1, g2, g3⟩ := hcl k hlt
    have g0 := hS.cell g0 fun h => h
    have g1 := hS.cell g1 fun h => h
    have g2 := hS.cell g2 fun h => h
    have g3 := hS.cell g3 fun h => h
    have hbr := hb.ext hS (fun h => h) fun h => h
    have hbl := hbr.lt
    by_cases hkA : k < A.length
    · have hlk : l[k] = A[k] := by simp only [← HL.out]; rw [List.getElem_append_left hkA]
      have hne := Lib.hid (hA l[k] (by rw [hlk]; exact List.getElem_mem hkA))
      have hC := pick_off wr l[k] p t d n hbr hbl.1 hbl.2 hne.out
      unfold armV at hC
      clear hlk
      generalize l[k] = x at *
      have HC := Lib.hid hC
      clear hcl hC hA
      go_wp2_with fail
      refine HC.out.mono ?_
      rintro e w1 ⟨rfl, e1⟩
      go_wp2_with fail
      exact ⟨⟨k + 1, by omega, by go_num, hS.same e1⟩, by simp [intOf]; omega⟩
    · obtain rfl : k = A.length := by omega
      have hlk : l[A.length] = a := by simp only [← HL.out]; simp
      rw [hlk] at g0 g1 g2 g3
      have hC := pick_on wr a p t d n hbr hbl.1 hbl.2 0 0 false (hT.ext hS fun h => h) ha
      unfold armV at hC
      rw [if_pos rfl] at hC
      have HC := Lib.hid hC
      have HA := Lib.hid ha
      clear hcl hC hA hlk ha
      go_wp2_with fail
      refine HC.out.mono ?_
      rintro e w1 ⟨rfl, h1, e1⟩
      go_wp2_with fail
      go_ret
      exact ⟨rfl, h1, (hS.mono fun _ _ h => h.elim).same e1⟩
end Go.Proofs.Ytnppneilbkmnfaa
namespace Go.Proofs.Ytnppneilbkmnfaa
open Go.RowKit

/-- a row of troubles of one's own -/
def OwnA (w : World) (v : Value) (l : List ArmM) : Prop := Own w 108 4 v l.length (l.flatMap armCells)
theorem OwnA.ext {F : Nat → Prop} {w w' : World} {v : Value} {l : List ArmM} (h : OwnA w v l) (e : Ext F w w') (hf : ∀ k, inFoot v k → ¬ F k) : OwnA w' v l := Own.ext h e hf
theorem OwnA.head {w : World} {v : Value} {l : List ArmM} (h : OwnA w v l) (hl : l ≠ []) : ∃ g c cs, v = .slice (some ⟨g, 0, none⟩) l.length (c + 1) ∧ At w g 108 cs ∧ l.length ≤ c + 1 ∧ c + 1 ≤ maxLen ∧ cs.length = (c + 1) * 4 ∧ cs.take (l.length * 4) = l.flatMap armCells := by
  obtain ⟨h1, h2⟩ := h
  rcases h2 with ⟨ao', h3, h4⟩ | ⟨g, c, cs, h3, h4, h5, h6, h7, h8⟩
  · exact absurd (List.eq_nil_of_length_eq_zero h4) hl
  · exact ⟨g, c, cs, h3, h4, h5, h6, h7, h8⟩
theorem set4 (X Y : List Value) (a b c d a' b' c' d' : Value) : ((((X ++ a :: b :: c :: d :: Y).set X.length a').set (X.length + 1) b').set (X.length + 2) c').set (X.length + 3) d' = X ++ a' :: b' :: c' :: d' :: Y := by
  simp
theorem armCells_set (l : List ArmM) (i : Nat) (hi : i < l.length) (a : ArmM) :
    (((((l.flatMap armCells).set (i * 4) (.int .i64 a.call)).set (i * 4 + 1) (.int .i64 a.tat)).set (i * 4 + 2) (.int .i64 a.kind)).set (i * 4 + 3) (.bool a.done)) = (l.set i a).flatMap armCells := by
  obtain ⟨A, x, B, rfl, rfl⟩ : ∃ A x B, l = A ++ x :: B ∧ A.length = i := ⟨l.take i, l[i], l.drop (i + 1), by simp, by simp; omega⟩
  have e1 : (A ++ x :: B).set A.length a = A ++ a :: B := by simp
  have e2 : A.length * 4 = (A.flatMap armCells).length := by rw [armCells_length]
  rw [e1, e2]
  simp only [List.flatMap_append, List.flatMap_cons, armCells, List.cons_append, List.nil_append]
  exact set4 _ _ _ _ _ _ _ _ _ _
theorem take_set4 (cs : List Value) (m i : Nat) (a b c d : Value) : ((((cs.set i a).set (i + 1) b).set (i + 2) c).set (i + 3) d).take m = ((((cs.take m).set i a).set (i + 1) b).set (i + 2) c).set (i + 3) d := by
  simp only [List.take_set]
theorem OwnA.setArm {w : World} {g n cap : Nat} {l : List ArmM} (h : OwnA w (.slice (some ⟨g, 0, none⟩) n cap) l) (i : Nat) (hi : i < l.length) (a : ArmM) :
    OwnA ((((w.setCell ⟨g, i * 4, none⟩ (.int .i64 a.call)).setCell ⟨g, i * 4 + 1, none⟩ (.int .i64 a.tat)).setCell ⟨g, i * 4 + 2, none⟩ (.int .i64 a.kind)).setCell ⟨g, i * 4 + 3, none⟩ (.bool a.done)) (.slice (some ⟨g, 0, none⟩) n cap) (l.set i a) := by
  obtain ⟨g', c, cs, e, hA, h1, h2, h3, h4⟩ := h.head (by intro e; subst e; simp at hi)
  simp only [Value.slice.injEq, Option.some.injEq, Addr.mk.injEq, and_true] at e
  obtain ⟨rfl, rfl, rfl⟩ := e
  unfold OwnA
  rw [List.length_set]
  refine ⟨by rw [armCells_length, List.length_set], .inr ⟨g, c, _, rfl, (((hA.set (i * 4) (.int .i64 a.call)).set (i * 4 + 1) (.int .i64 a.tat)).set (i * 4 + 2) (.int .i64 a.kind)).set (i * 4 + 3) (.bool a.done), h1, h2, by simpa using h3, ?_⟩⟩
  rw [take_set4, h4]
  exact armCells_set l i hi a
theorem OwnA.at {w : World} {g n cap : Nat} {l : List ArmM} (h : OwnA w (.slice (some ⟨g, 0, none⟩) n cap) l) (i : Nat) (hi : i < l.length) :
    (w.cell? ⟨g, i * 4, none⟩ = some (.int .i64 l[i].call) ∧ w.cell? ⟨g, i * 4 + 1, none⟩ = some (.int .i64 l[i].tat) ∧ w.cell? ⟨g, i * 4 + 2, none⟩ = some (.int .i64 l[i].kind) ∧ w.cell? ⟨g, i * 4 + 3, none⟩ = some (.bool l[i].done)) ∧
    (w.frozen? ⟨g, i * 4, none⟩ = false ∧ w.frozen? ⟨g, i * 4 + 1, none⟩ = false ∧ w.frozen? ⟨g, i * 4 + 2, none⟩ = false ∧ w.frozen? ⟨g, i * 4 + 3, none⟩ = false) := by
  obtain ⟨g', c, cs, e, hA, h1, h2, h3, h4⟩ := h.head (by intro e; subst e; simp at hi)
  simp only [Value.slice.injEq, Option.some.injEq, Addr.mk.injEq, and_true] at e
  obtain ⟨rfl, rfl, rfl⟩ := e
  obtain ⟨ao, cap', e, -, -, hr⟩ := (Own.reads h).arms
  obtain ⟨b, off, e2, hc⟩ := hr (by intro e; subst e; simp at hi)
  subst e2
  simp only [Value.slice.injEq, Option.some.injEq, Addr.mk.injEq, and_true, true_and] at e
  obtain ⟨⟨rfl, rfl⟩, rfl⟩ := e
  have := hc i hi
  simp only [Nat.zero_add] at this
  exact ⟨this, hA.frozen _ (by omega), hA.frozen _ (by omega), hA.frozen _ (by omega), hA.frozen _ (by omega)⟩

theorem At.setCells {t : TypeId} {g : Nat} : ∀ (news : List Value) (o : Nat) (u : World) (ds : List Value), At u g t ds → o + news.length ≤ ds.length →
    At (u.setCells g o news) g t (ds.take o ++ news ++ ds.drop (o + news.length)) ∧ Ext (One g) u (u.setCells g o news) := by
  intro news
  induction news with
  | nil =>
    intro o u ds hu _
    refine ⟨?_, ?_⟩
    · simp only [World.setCells, List.length_nil, Nat.add_zero, List.append_nil, List.take_append_drop]; exact hu
    · simp only [World.setCells]; exact Ext.refl _ _
  | cons y ys ih =>
    intro o u ds hu hle
    simp only [List.length_cons] at hle
    have hu2 := hu.set o y
    have h2 := ih (o + 1) (u.setCell ⟨g, o, none⟩ y) (ds.set o y) hu2 (by simp; omega)
    simp only [World.setCells]
    refine ⟨?_, ((Ext.refl (One g) u).setCell (p := ⟨g, o, none⟩) (fun _ => rfl) y).same h2.2⟩
    have e1 := splice_cons ds o y ys (by omega)
    rw [← e1]
    exact h2.1
theorem zeroArm (w : World) : (zeroValue 108).run Try.prog w = .ok (.agg #[.int .i64 0, .int .i64 0, .int .i64 0, .bool false]) w := by kernel_rfl

/-- clear(s[i:]) -/
theorem clear_run {w : World} {g n cap : Nat} {l : List ArmM} (h : OwnA w (.slice (some ⟨g, 0, none⟩) n cap) l) (i : Nat) (hi : i < l.length) (c : Nat) (ty : TypeId) :
    ∃ w', (Builtin.clear_ #[55] ty #[.slice (some ⟨g, i * 4, none⟩) (l.length - i) c]).run Try.prog w = .ok (.tuple #[]) w' ∧ OwnA w' (.slice (some ⟨g, 0, none⟩) i cap) (l.take i) ∧ Ext (One g) w w' := by
  have hat := h.head (by intro e; subst e; simp at hi)
  obtain ⟨g', cc, cs, e, hA, h1, h2, h3, h4⟩ := hat
  simp only [Value.slice.injEq, Option.some.injEq, Addr.mk.injEq, and_true] at e
  obtain ⟨rfl, rfl, rfl⟩ := e
  obtain ⟨m, hm⟩ : ∃ m, l.length - i = m + 1 := ⟨l.length - i - 1, by omega⟩
  generalize hZ : (Builtin.zeroCells (Value.agg #[.int .i64 0, .int .i64 0, .int .i64 0, .bool false]).cells (m + 1)).toList = Z
  have hZl : Z.length = (m + 1) * 4 := by
    rw [← hZ, Array.length_toList, size_zeroCells]
    rfl
  have hZ1 : ∀ v ∈ Z, v.oneCell' = true := by
    rw [← hZ]
    intro v hv
    unfold Builtin.zeroCells at hv
    rw [Array.toList_map, List.mem_map] at hv
    obtain ⟨i, -, rfl⟩ := hv
    have e : (Value.agg #[.int .i64 0, .int .i64 0, .int .i64 0, .bool false]).cells = #[.int .i64 0, .int .i64 0, .int .i64 0, .bool false] := rfl
    rw [e]
    have hi4 : i % 4 < 4 := Nat.mod_lt _ (by omega)
    have hsz : (#[Value.int .i64 0, .int .i64 0, .int .i64 0, .bool false] : Array Value).size = 4 := rfl
    rw [hsz]
    generalize i % 4 = q at *
    match q, hi4 with
    | 0, _ => rfl
    | 1, _ => rfl
    | 2, _ => rfl
    | 3, _ => rfl
  have hset := At.setCells Z (i * 4) w cs hA (by rw [hZl]; omega)
  refine ⟨w.setCells g (i * 4) Z, ?_, ?_, hset.2⟩
  · have hst := run_storeCells_cells (P := Try.prog) g (i * 4) Z 0 w
      (fun j hj => by
        have hl : i * 4 + 0 + j < cs.length := by omega
        rw [hA.cell (i * 4 + 0 + j) (List.getElem?_eq_getElem hl)]
        rfl)
      (fun j hj => hA.frozen _ (by omega)) hZ1
    rw [Nat.add_zero] at hst
    have hz := zeroArm w
    simp [Builtin.clear_, run_underlying Try.underlying55, hm, hz, hZ, hst]
  · have hlen : (l.take i).length = i := by simp; omega
    unfold OwnA
    rw [hlen]
    refine ⟨by rw [armCells_length, hlen], .inr ⟨g, cc, _, rfl, hset.1, by omega, h2, ?_, ?_⟩⟩
    · simp only [List.length_append, List.length_take, List.length_drop, hZl]
      omega
    · rw [List.append_assoc, List.take_left' (by simp; omega)]
      have h5 : cs.take (i * 4) = (cs.take (l.length * 4)).take (i * 4) := by
        rw [List.take_take, Nat.min_eq_left (by omega)]
      rw [h5, h4]
      conv => lhs; rw [← List.take_append_drop i l, List.flatMap_append]
      exact List.take_left' (by rw [armCells_length, hlen])

theorem delete_none (w : World) (v : Value) (l : List ArmM) (hv : OwnA w v l) (p t d n : Nat) (hb : Box w p d n) (hn : ∀ a ∈ l, a.call ≠ n) :
    Calls Try.prog 90 #[v, pickV p t] w fun e w' => e = .returned v ∧ Ext Nil w w' := by
  go_enter Try.func90, Try.ntmps90
  go_wp2_with fail
  refine (index_none w v l (Own.reads hv) p t d n hb hn).mono ?_
  rintro e w1 ⟨rfl, e1⟩
  go_wp2_with fail
  go_ret
  exact ⟨rfl, e1⟩

theorem take_set_succ (R : List ArmM) (q : Nat) (h : q < R.length) (x : ArmM) : (R.set q x).take (q + 1) = R.take q ++ [x] := by
  rw [List.take_succ_eq_append_getElem (by rw [List.length_set]; exact h)]
  rw [List.take_set, List.set_eq_of_length_le (by rw [List.length_take]; omega)]
  simp
/-- the troubles of other calls -/
def rest (n : Nat) (l : List ArmM) : List ArmM := l.filter fun a => !(a.call == n)

set_option maxRecDepth 20000 in
set_option maxHeartbeats 1000000 in
theorem delete_some (w : World) (v : Value) (A B : List ArmM) (a : ArmM) (hv : OwnA w v (A ++ a :: B)) (p t d n : Nat) (hb : Box w p d n) (hT : At w t 29 zeroT) (hA : ∀ x ∈ A, x.call ≠ n) (ha : a.call = n) (hk : a.kind ≠ 0)
    (hpt : p ≠ t) (hdt : d ≠ t) (hpv : ¬ inFoot v p) (hdv : ¬ inFoot v d) (htv : ¬ inFoot v t) :
    Calls Try.prog 90 #[v, pickV p t] w fun e w' => ∃ v', e = .returned v' ∧ OwnA w' v' (A ++ rest n B) ∧ (∀ k, inFoot v' k → inFoot v k) ∧ At w' t 29 (trouble a) ∧ Ext (fun k => k = t ∨ inFoot v k) w w' := by
  obtain ⟨g, c, cs, rfl, -, hcap, hmax, -, -⟩ := hv.head (by simp)
  have hfg : ∀ m k, inFoot (.slice (some ⟨g, 0, none⟩) m (c + 1)) k ↔ k = g := fun m k => ⟨fun h => (Option.some.inj h).symm, fun h => by subst h; rfl⟩
  rw [hfg] at hpv hdv htv
  have hv2 := hv
  generalize hL : A ++ a :: B = L at *
  have hlen : L.length = A.length + 1 + B.length := by rw [← hL]; simp; omega
  have HL := Lib.hid hL
  have HFG := Lib.hid hfg
  have HLen := Lib.hid hlen
  have hAL : A.length < L.length := by omega
  have hL62 : (L.length : Int) ≤ 9223372036854775807 := by unfold maxLen at hmax; omega
  clear hL hfg hlen
  unfold pickV
  have hneg : ((A.length : Int) == -1) = false := by rw [beq_eq_false_iff_ne]; omega
  go_enter Try.func90, Try.ntmps90
  go_wp2_with fail
  refine (index_some w _ A B a (by rw [HL.out]; exact Own.reads hv) p t d n hb hT hA ha).mono ?_
  rintro e w1 ⟨rfl, hT1, e1⟩
  unfold maxLen at hmax
  go_wp2_with fail
  have hE1 : Ext (fun k => k = t ∨ k = g) w w1 := e1.mono fun k _ h => .inl h
  have hO1 := hv2.ext e1 fun k hk e => htv (by rw [HFG.out] at hk; have e : k = t := e; omega)
  go_loopw [5, 6] (fun i j wr => ∃ (m q J : Nat) (R : List ArmM), m ≤ B.length ∧ q = A.length + (rest n (B.take m)).length ∧ J = A.length + 1 + m ∧ i = .int .i64 q ∧ j = .int .i64 J ∧ OwnA wr (.slice (some ⟨g, 0, none⟩) L.length (c + 1)) R ∧ R.length = L.length ∧
    R.take q = A ++ rest n (B.take m) ∧ R.drop J = B.drop m ∧ At wr t 29 (trouble a) ∧ Ext (fun k => k = t ∨ k = g) w wr) (fun _ j _ => L.length - (intOf j).toNat)
  case atStart => exact ⟨0, A.length, A.length + 1, L, Nat.zero_le _, by simp [rest], rfl, rfl, by go_num, hO1, rfl, by rw [← HL.out]; simp [rest], by rw [← HL.out]; simp, hT1, hE1⟩
  case round =>
    obtain ⟨m, q, J, R, hm, hq, hJ, rfl, rfl, hO, hRl, hR1, hR2, hTr, hE⟩ := hrel
    have hql : q ≤ A.length + m := by
      have h1 : (rest n (B.take m)).length ≤ (B.take m).length := List.length_filter_le _ _
      rw [List.length_take] at h1
      omega
    have HLn := HLen.out
    have hqJ : q < J := by omega
    clear hv hv2 hT hO1 hT1 e1 hE1
    by_cases hlt : J < L.length
    · have hmB : m < B.length := by omega
      have hat := hO.at J (by omega)
      have hRx : R[J]'(by omega) = B[m] := by
        have h1 : (R.drop J)[0]? = (B.drop m)[0]? := by rw [hR2]
        simp only [List.getElem?_drop, Nat.add_zero] at h1
        rw [List.getElem?_eq_getElem (by omega), List.getElem?_eq_getElem hmB] at h1
        exact Option.some.inj h1
      rw [hRx] at hat
      have hBs : B.take (m + 1) = B.take m ++ [B[m]] := List.take_succ_eq_append_getElem hmB
      have hRs : R.drop (J + 1) = B.drop (m + 1) := by
        rw [← List.drop_drop, hR2, List.drop_drop]
      have hqr : q < R.length := by omega
      obtain ⟨⟨g0, g1, g2, g3⟩, -⟩ := hat
      obtain ⟨⟨k0, k1, k2, k3⟩, l0, l1, l2, l3⟩ := hO.at q hqr
      have hgw : g < wr.heap.size := (cell_spot g0).2
      have htw : t < wr.heap.size := hTr.lt
      have hbr := hb.ext hE (fun e => e.elim hpt hpv) (fun e => e.elim hdt hdv)
      have hbl := hbr.lt
      clear hRx
      generalize B[m] = x at *
      have hJ62 : (J : Int) < L.length := by omega
      by_cases hx : x.call = n
      · have hC := pick_on (wr.alloc (.cells #[.int .i64 x.call, .int .i64 x.tat, .int .i64 x.kind, .bool x.done] 108 (0, 0))) x p t d n (hbr.ext (F := Nil) ((Ext.refl _ _).alloc _) (fun h => h) fun h => h) (by simp; omega) (by simp; omega) a.tat a.kind a.done (hTr.alloc _) hx
        rw [if_neg hk] at hC
        unfold armV at hC
        have HC := Lib.hid hC
        have HX := Lib.hid hx
        have H1 := Lib.hid hq; have H2 := Lib.hid hJ; have H3 := Lib.hid hRl; have H4 := Lib.hid hR1; have H5 := Lib.hid hR2; have H6 := Lib.hid hBs; have H7 := Lib.hid hRs
        have H8 := Lib.hid HLn
        clear hC hx hq hJ hRl hR1 hR2 hBs hRs HLn ha hA k0 k1 k2 k3 l0 l1 l2 l3
        go_wp2_with fail
        refine HC.out.mono ?_
        rintro e w2 ⟨rfl, t2, e2⟩
        go_wp2_with fail
        refine ⟨⟨m + 1, q, J + 1, R, hmB, ?_, by rw [H2.out]; omega, rfl, by go_num, ?_, H3.out, ?_, H7.out, t2, ?_⟩, by simp [intOf]; omega⟩
        · rw [H6.out]; simpa [rest, HX.out] using H1.out
        · exact (hO.ext ((Ext.refl Nil wr).alloc _) fun _ _ h => h).ext e2 fun k hk e => htv (by rw [HFG.out] at hk; have e : k = t := e; omega)
        · rw [H6.out, H4.out]; simp [rest, HX.out]
        · exact hE.trans (((Ext.refl (One t) wr).alloc _).same e2) fun i _ h => .inl h
      · have hC := pick_off (wr.alloc (.cells #[.int .i64 x.call, .int .i64 x.tat, .int .i64 x.kind, .bool x.done] 108 (0, 0))) x p t d n (hbr.ext (F := Nil) ((Ext.refl _ _).alloc _) (fun h => h) fun h => h) (by simp; omega) (by simp; omega) hx
        unfold armV at hC
        have HC := Lib.hid hC
        have HX := Lib.hid hx
        have H1 := Lib.hid hq; have H2 := Lib.hid hJ; have H3 := Lib.hid hRl; have H4 := Lib.hid hR1; have H5 := Lib.hid hR2; have H6 := Lib.hid hBs; have H7 := Lib.hid hRs
        have H8 := Lib.hid HLn
        clear hC hx hq hJ hRl hR1 hR2 hBs hRs HLn ha hA
        go_wp2_with fail
        refine HC.out.mono ?_
        rintro e w2 ⟨rfl, e2⟩
        have hbox := (At.new wr [.int .i64 x.call, .int .i64 x.tat, .int .i64 x.kind, .bool x.done] 108).ext e2 fun h => h
        have b0 := hbox.cell 0 rfl
        have b1 := hbox.cell 1 rfl
        have b2 := hbox.cell 2 rfl
        have b3 := hbox.cell 3 rfl
        have e3 : Ext Nil wr w2 := ((Ext.refl Nil wr).alloc _).same e2
        have hO2 := hO.ext e3 fun _ _ h => h
        clear g0 g1 g2 g3 k0 k1 k2 k3 l0 l1 l2 l3
        obtain ⟨⟨k0, k1, k2, k3⟩, l0, l1, l2, l3⟩ := hO2.at q hqr
        clear hbox
        have hq62 : (q : Int) < L.length := by omega
        go_wp2_with fail
        refine ⟨⟨m + 1, q + 1, J + 1, R.set q x, hmB, ?_, by rw [H2.out]; omega, by go_num, by go_num, hO2.setArm q hqr x, by rw [List.length_set]; exact H3.out, ?_, ?_, ?_, ?_⟩, by simp [intOf]; omega⟩
        · rw [H6.out, H1.out]; simp [rest, HX.out]; omega
        · rw [H6.out, take_set_succ R q hqr x, H4.out]; simp [rest, HX.out]
        · rw [List.drop_set_of_lt (by omega)]; exact H7.out
        · exact (((((hTr.ext e3 fun h => h).setOther _ _ htv).setOther _ _ htv).setOther _ _ htv).setOther _ _ htv)
        · exact hE.trans ((((((Ext.refl (fun k => k = t ∨ k = g) wr).same (e3.mono fun _ _ h => h.elim)).setCell (p := ⟨g, q * 4, none⟩) (fun _ => .inr rfl) _).setCell (p := ⟨g, q * 4 + 1, none⟩) (fun _ => .inr rfl) _).setCell (p := ⟨g, q * 4 + 2, none⟩) (fun _ => .inr rfl) _).setCell (p := ⟨g, q * 4 + 3, none⟩) (fun _ => .inr rfl) _) fun i _ h => h
    · have hmB : m = B.length := by omega
      subst hmB
      rw [List.take_length] at hR1 hq
      have hqr : q < R.length := by omega
      obtain ⟨w3, hcl, hO3, e3⟩ := clear_run hO q hqr (c + 1 - q) 0
      rw [hRl] at hcl
      rw [hR1] at hO3
      have H1 := Lib.hid hq; have H2 := Lib.hid hJ; have H3 := Lib.hid hRl; have H4 := Lib.hid hR1; have H5 := Lib.hid hR2
      have H8 := Lib.hid HLn
      have hq62 : (q : Int) < L.length := by omega
      have hqc : (q : Int) < (c : Int) + 1 := by omega
      clear hq hJ hRl hR1 hR2 HLn ha hA
      go_wp2_with fail
      go_ret
      refine ⟨.slice (some ⟨g, 0, none⟩) q (c + 1), rfl, hO3, fun k hk => ?_, hTr.ext e3 htv, ?_⟩
      · rw [HFG.out] at hk ⊢
        exact hk
      · exact (hE.trans e3 fun i _ h => .inr h).mono fun k _ h => h.imp id fun h => by rw [HFG.out]; exact h
end Go.Proofs.Ytnppneilbkmnfaa
namespace Go.Proofs.Ytnppneilbkmnfaa
open Go.RowKit

theorem rest_none {n : Nat} {l : List ArmM} (h : ∀ a ∈ l, a.call ≠ n) : rest n l = l := by
  unfold rest
  rw [List.filter_eq_self]
  intro a ha
  simp [h a ha]
theorem hit_none {D : Dk} (h : D.hit = none) : ∀ a ∈ D.arms, a.call ≠ D.calls + 1 := by
  unfold Dk.hit at h
  rw [List.find?_eq_none] at h
  intro a ha e
  exact h a ha (by simp [e])
theorem hit_some {D : Dk} {a : ArmM} (h : D.hit = some a) : ∃ A B, D.arms = A ++ a :: B ∧ (∀ x ∈ A, x.call ≠ D.calls + 1) ∧ a.call = D.calls + 1 := by
  unfold Dk.hit at h
  rw [List.find?_eq_some_iff_append] at h
  obtain ⟨h1, A, B, h2, h3⟩ := h
  refine ⟨A, B, h2, fun x hx e => ?_, by simpa using h1⟩
  have := h3 x hx
  simp [e] at this
theorem tick_wf {D : Dk} (h : D.Wf) : D.tick.Wf := ⟨h.rises, h.lim0, h.lim1, h.used, h.synced, h.names, h.count, fun a ha => h.kinds a (List.mem_filter.1 ha).1, h.outOff⟩
theorem off_wf {D : Dk} (h : D.Wf) : ({ D with off := true } : Dk).Wf := ⟨h.rises, h.lim0, h.lim1, h.used, h.synced, h.names, h.count, h.kinds, fun _ => rfl⟩
theorem DAt.part {w : World} {d mb : Nat} {av : Value} {fbs : List FB} {D : Dk} (h : DAt w d mb av fbs D) : d ≠ mb ∧ ¬ inFoot av d ∧ ¬ inFoot av mb ∧ (∀ x ∈ fbs, ∀ k ∈ x.bl, k ≠ d ∧ k ≠ mb ∧ ¬ inFoot av k) := by
  have hnd := h.nodup
  simp only [dbl, List.nodup_cons, List.nodup_append, List.mem_append, List.mem_cons] at hnd
  obtain ⟨h1, h2, h3, h4, h5⟩ := hnd
  refine ⟨fun e => h1 (.inl e), fun e => h1 (.inr (.inl (mem_footL.2 e))), fun e => h2 (.inl (mem_footL.2 e)), fun x hx k hk => ?_⟩
  have hm : k ∈ fbs.flatMap FB.bl := List.mem_flatMap.2 ⟨x, hx, hk⟩
  exact ⟨fun e => h1 (.inr (.inr (e ▸ hm))), fun e => h2 (.inr (e ▸ hm)), fun e => h5 k (mem_footL.2 e) k hm rfl⟩

/-- the world in which a call's number is counted and the boxes lie -/
def boxed (w : World) (d : Nat) (n : Int) : World :=
  (((w.setCell ⟨d, 5, none⟩ (.int .i64 n)).alloc (.cells #[.pointer (some ⟨d, 0, none⟩)] 22 (0, 0))).alloc (.cells #[.int .i64 0, .int .i64 0, .bool false] 29 (0, 0)))

/-- what is known of that world -/
theorem boxed_facts {w : World} {d mb : Nat} {av : Value} {fbs : List FB} {D : Dk} (h : DAt w d mb av fbs D) :
    Ext (One d) w (boxed w d (D.calls + 1)) ∧ At (boxed w d (D.calls + 1)) d 57 [.int .i64 D.lim, .int .i64 D.used, .map (some mb), .bool D.off, .bool D.out, .int .i64 ((D.calls : Int) + 1), av] ∧ Box (boxed w d (D.calls + 1)) w.heap.size d (D.calls + 1) ∧ At (boxed w d (D.calls + 1)) (w.heap.size + 1) 29 zeroT ∧ OwnA (boxed w d (D.calls + 1)) av D.arms := by
  have e : Ext (One d) w (boxed w d (D.calls + 1)) := (((Ext.refl (One d) w).setCell (p := ⟨d, 5, none⟩) (fun _ => (rfl : d = d)) _).alloc _).alloc _
  have hd := h.cells.lt
  have hA : At (boxed w d (D.calls + 1)) d 57 [.int .i64 D.lim, .int .i64 D.used, .map (some mb), .bool D.off, .bool D.out, .int .i64 ((D.calls : Int) + 1), av] := ((h.cells.set 5 (.int .i64 ((D.calls : Int) + 1))).alloc _).alloc _
  refine ⟨e, hA, ⟨?_, hA.cell 5 rfl⟩, ?_, h.arms.ext e fun k hk ek => h.part.2.1 (by have ek : k = d := ek; rwa [ek] at hk)⟩
  · have := (At.new (w.setCell ⟨d, 5, none⟩ (.int .i64 ((D.calls : Int) + 1))) [.pointer (some ⟨d, 0, none⟩)] 22).alloc (.cells #[.int .i64 0, .int .i64 0, .bool false] 29 (0, 0))
    have hs : (w.setCell ⟨d, 5, none⟩ (.int .i64 ((D.calls : Int) + 1))).heap.size = w.heap.size := by simp [World.setCell]
    rw [hs] at this
    exact this.cell 0 rfl
  · have := At.new ((w.setCell ⟨d, 5, none⟩ (.int .i64 ((D.calls : Int) + 1))).alloc (.cells #[.pointer (some ⟨d, 0, none⟩)] 22 (0, 0))) [.int .i64 0, .int .i64 0, .bool false] 29
    have hs : ((w.setCell ⟨d, 5, none⟩ (.int .i64 ((D.calls : Int) + 1))).alloc (.cells #[.pointer (some ⟨d, 0, none⟩)] 22 (0, 0))).heap.size = w.heap.size + 1 := by simp [World.setCell]
    rw [hs] at this
    exact this

theorem ticked {w w1 : World} {d mb : Nat} {av av' : Value} {fbs : List FB} {D : Dk} (h : DAt w d mb av fbs D) (e1 : Ext (fun k => k = w.heap.size + 1 ∨ inFoot av k) (boxed w d (D.calls + 1)).drew w1) (hO : OwnA w1 av' D.tick.arms) (hk : ∀ k, inFoot av' k → inFoot av k) :
    DAt (w1.setCell ⟨d, 6, none⟩ av') d mb av' fbs D.tick ∧ Step (· ∈ dbl d mb av fbs) w (· ∈ dbl d mb av' fbs) (w1.setCell ⟨d, 6, none⟩ av') ∧ Ext (fun k => k = d ∨ inFoot av k) w (w1.setCell ⟨d, 6, none⟩ av') := by
  obtain ⟨E1, A1, -, -, -⟩ := boxed_facts h
  have hd := h.cells.lt
  have hp := h.part
  have A2 := (A1.drew.ext e1 (fun e => e.elim (fun e => by omega) hp.2.1)).set 6 av'
  have E : Ext (fun k => k = d ∨ inFoot av k) w (w1.setCell ⟨d, 6, none⟩ av') := ((E1.drew.mono fun k _ hk => .inl hk).trans e1 fun i hi e => e.elim (fun e => by omega) .inr).setCell (p := ⟨d, 6, none⟩) (fun _ => .inl rfl) av'
  have hO2 : OwnA (w1.setCell ⟨d, 6, none⟩ av') av' D.tick.arms := hO.ext (F := One d) ((Ext.refl (One d) w1).setCell (p := ⟨d, 6, none⟩) (fun _ => (rfl : d = d)) av') fun k hk2 ek => hp.2.1 (by have ek : k = d := ek; subst ek; exact hk _ hk2)
  have := h.rearm (D' := D.tick) E A2 hO2 (fun k hk2 => .inl (hk k hk2)) rfl (tick_wf h.wf)
  exact ⟨this.1, this.2, E⟩

def IsDo (f : Nat) : Prop := f = 61 ∨ f = 94 ∨ f = 88 ∨ f = 95 ∨ f = 96
/-- the end of a closure that a numbered call does: the disk is D' -/
def Did (w : World) (d mb : Nat) (av : Value) (fbs : List FB) (D' : Dk) (e : Ending) (w' : World) : Prop :=
  e = .returned (.tuple #[]) ∧ ∃ fbs', DAt w' d mb av fbs' D' ∧ Step (· ∈ dbl d mb av fbs) w (· ∈ dbl d mb av fbs') w'
/-- the end of a numbered call -/
def Numbered (w : World) (d mb : Nat) (av : Value) (fbs : List FB) (D' : Dk) (er : Int) (e : Ending) (w' : World) : Prop :=
  e = .returned (.int .i64 er) ∧ ∃ av' fbs', DAt w' d mb av' fbs' D' ∧ Step (· ∈ dbl d mb av fbs) w (· ∈ dbl d mb av' fbs') w'

end Go.Proofs.Ytnppneilbkmnfaa
