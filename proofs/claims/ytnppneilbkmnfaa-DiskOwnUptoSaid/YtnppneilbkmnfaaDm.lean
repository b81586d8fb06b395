/- Plain laws: lists that rise by a name; the disk of chapter 6 as such a list of files (no program in sight). -/
import Derived.WalkKit
import Derived.Maps.OwnSet
namespace Go.Proofs.Ytnppneilbkmnfaa

/-! ### lists that rise by a name -/
section
variable {α β : Type}
abbrev Nm := List UInt8
def insK (k : α → Nm) (x : α) : List α → List α
  | [] => [x]
  | y :: r => if bytesBefore (k x) (k y) then x :: y :: r else y :: insK k x r
def delK (k : α → Nm) (s : Nm) (l : List α) : List α := l.filter fun a => !(k a == s)
def findK (k : α → Nm) (s : Nm) (l : List α) : Option α := l.find? fun a => k a == s
def putK (k : α → Nm) (x : α) (l : List α) : List α := insK k x (delK k (k x) l)
def Rises (k : α → Nm) (l : List α) : Prop := l.Pairwise fun a b => bytesBefore (k a) (k b) = true

theorem insK_map (k : α → Nm) (k' : β → Nm) (f : α → β) (h : ∀ a, k' (f a) = k a) (x : α) : ∀ l : List α, (insK k x l).map f = insK k' (f x) (l.map f)
  | [] => rfl
  | y :: r => by
    simp only [insK, List.map_cons, h]
    split
    · rfl
    · simp only [List.map_cons, insK_map k k' f h x r]
theorem delK_map (k : α → Nm) (k' : β → Nm) (f : α → β) (h : ∀ a, k' (f a) = k a) (s : Nm) : ∀ l : List α, (delK k s l).map f = delK k' s (l.map f)
  | [] => rfl
  | y :: r => by
    have ih := delK_map k k' f h s r
    unfold delK at *
    simp only [List.map_cons, List.filter_cons, h]
    split
    · simp only [List.map_cons, ih]
    · exact ih
theorem putK_map (k : α → Nm) (k' : β → Nm) (f : α → β) (h : ∀ a, k' (f a) = k a) (x : α) (l : List α) : (putK k x l).map f = putK k' (f x) (l.map f) := by
  unfold putK
  rw [insK_map k k' f h, delK_map k k' f h, h]
theorem findK_map (k : α → Nm) (k' : β → Nm) (f : α → β) (h : ∀ a, k' (f a) = k a) (s : Nm) : ∀ l : List α, findK k' s (l.map f) = (findK k s l).map f
  | [] => rfl
  | y :: r => by
    have ih := findK_map k k' f h s r
    unfold findK at *
    simp only [List.map_cons, List.find?_cons, h]
    split
    · rfl
    · exact ih
theorem rises_map (k : α → Nm) (k' : β → Nm) (f : α → β) (h : ∀ a, k' (f a) = k a) (l : List α) : Rises k' (l.map f) ↔ Rises k l := by
  unfold Rises
  rw [List.pairwise_map]
  simp only [h]

theorem before_ne {a b : Nm} (h : bytesBefore a b = true) : a ≠ b := by
  intro e
  subst e
  rw [WideAt.bytes_irrefl] at h
  cases h
theorem before_asymm {a b : Nm} (h : bytesBefore a b = true) : bytesBefore b a = false := by
  cases h2 : bytesBefore b a with
  | false => rfl
  | true =>
    have := WideShapes.bytes_trans a b a h h2
    rw [WideAt.bytes_irrefl] at this
    cases this
theorem before_total {a b : Nm} (h : a ≠ b) (h2 : bytesBefore a b = false) : bytesBefore b a = true := by
  rcases WideAt.bytes_total a b h with h1 | h1
  · rw [h1] at h2; cases h2
  · exact h1
theorem beq_false {a b : Nm} (h : a ≠ b) : (a == b) = false := by rw [beq_eq_false_iff_ne]; exact h

/-- where a list is parted by a name -/
theorem rises_part (k : α → Nm) (s : Nm) : ∀ l : List α, Rises k l → (∀ a ∈ l, k a ≠ s) → ∃ A B, l = A ++ B ∧ (∀ a ∈ A, bytesBefore (k a) s = true) ∧ (∀ a ∈ B, bytesBefore s (k a) = true)
  | [], _, _ => ⟨[], [], rfl, by simp, by simp⟩
  | y :: r, h, hn => by
    have hr := List.pairwise_cons.1 h
    by_cases hy : bytesBefore s (k y) = true
    · refine ⟨[], y :: r, rfl, by simp, fun a ha => ?_⟩
      rcases List.mem_cons.1 ha with rfl | ha
      · exact hy
      · exact WideShapes.bytes_trans _ _ _ hy (hr.1 a ha)
    · obtain ⟨A, B, rfl, h1, h2⟩ := rises_part k s r hr.2 fun a ha => hn a (List.mem_cons_of_mem _ ha)
      have hy2 : bytesBefore (k y) s = true := before_total (fun e => hn y (List.mem_cons_self ..) e.symm) (by simpa using hy)
      refine ⟨y :: A, B, rfl, fun a ha => ?_, h2⟩
      rcases List.mem_cons.1 ha with rfl | ha
      · exact hy2
      · exact h1 a ha

theorem insK_part (k : α → Nm) (x : α) (B : List α) (hB : ∀ a ∈ B, bytesBefore (k x) (k a) = true) : ∀ A : List α, (∀ a ∈ A, bytesBefore (k a) (k x) = true) → insK k x (A ++ B) = A ++ x :: B
  | [], _ => by
    cases B with
    | nil => rfl
    | cons b B => simp [insK, hB b (List.mem_cons_self ..)]
  | a :: A, h => by
    have h1 := before_asymm (h a (List.mem_cons_self ..))
    simp only [List.cons_append, insK, h1]
    simp [insK_part k x B hB A fun a ha => h a (List.mem_cons_of_mem _ ha)]

theorem delK_none (k : α → Nm) (s : Nm) (l : List α) (h : ∀ a ∈ l, k a ≠ s) : delK k s l = l := by
  unfold delK
  rw [List.filter_eq_self]
  intro a ha
  simp [h a ha]
theorem findK_none (k : α → Nm) (s : Nm) (l : List α) : findK k s l = none ↔ ∀ a ∈ l, k a ≠ s := by
  unfold findK
  rw [List.find?_eq_none]
  simp
theorem findK_some (k : α → Nm) {s : Nm} {l : List α} {a : α} (h : findK k s l = some a) : a ∈ l ∧ k a = s := by
  unfold findK at h
  exact ⟨List.mem_of_find?_eq_some h, by simpa using List.find?_some h⟩

/-- a name that is there parts the list -/
theorem rises_at (k : α → Nm) {l : List α} (h : Rises k l) {s : Nm} {a : α} (hf : findK k s l = some a) :
    ∃ A B, l = A ++ a :: B ∧ (∀ x ∈ A, bytesBefore (k x) s = true) ∧ (∀ x ∈ B, bytesBefore s (k x) = true) ∧ k a = s ∧ delK k s l = A ++ B := by
  obtain ⟨hm, hk⟩ := findK_some k hf
  obtain ⟨A, B, rfl⟩ := List.append_of_mem hm
  have h1 := List.pairwise_append.1 h
  have h2 := List.pairwise_cons.1 h1.2.1
  have hA : ∀ x ∈ A, bytesBefore (k x) s = true := fun x hx => by rw [← hk]; exact h1.2.2 x hx a (List.mem_cons_self ..)
  have hB : ∀ x ∈ B, bytesBefore s (k x) = true := fun x hx => by rw [← hk]; exact h2.1 x hx
  refine ⟨A, B, rfl, hA, hB, hk, ?_⟩
  have e1 := delK_none k s A fun x hx => before_ne (hA x hx)
  have e2 := delK_none k s B fun x hx => (before_ne (hB x hx)).symm
  unfold delK at *
  rw [List.filter_append, List.filter_cons, e1, e2]
  simp [hk]

/-- what put does -/
theorem putK_part (k : α → Nm) {l : List α} (h : Rises k l) (x : α) :
    (∃ A a B, findK k (k x) l = some a ∧ l = A ++ a :: B ∧ putK k x l = A ++ x :: B ∧ (∀ y ∈ A, bytesBefore (k y) (k x) = true) ∧ (∀ y ∈ B, bytesBefore (k x) (k y) = true) ∧ k a = k x) ∨
    (∃ A B, findK k (k x) l = none ∧ l = A ++ B ∧ putK k x l = A ++ x :: B ∧ (∀ y ∈ A, bytesBefore (k y) (k x) = true) ∧ (∀ y ∈ B, bytesBefore (k x) (k y) = true)) := by
  cases hf : findK k (k x) l with
  | some a =>
    obtain ⟨A, B, rfl, hA, hB, hk, hd⟩ := rises_at k h hf
    refine .inl ⟨A, a, B, rfl, rfl, ?_, hA, hB, hk⟩
    unfold putK
    rw [hd]
    exact insK_part k x B hB A hA
  | none =>
    have hn := (findK_none k _ _).1 hf
    obtain ⟨A, B, rfl, hA, hB⟩ := rises_part k (k x) l h hn
    refine .inr ⟨A, B, rfl, rfl, ?_, hA, hB⟩
    unfold putK
    rw [delK_none k _ _ hn]
    exact insK_part k x B hB A hA

theorem rises_mid (k : α → Nm) {A B : List α} {x : α} (h : Rises k (A ++ B)) (hA : ∀ y ∈ A, bytesBefore (k y) (k x) = true) (hB : ∀ y ∈ B, bytesBefore (k x) (k y) = true) : Rises k (A ++ x :: B) := by
  have h1 := List.pairwise_append.1 h
  refine List.pairwise_append.2 ⟨h1.1, List.pairwise_cons.2 ⟨hB, h1.2.1⟩, fun a ha b hb => ?_⟩
  rcases List.mem_cons.1 hb with rfl | hb
  · exact hA a ha
  · exact h1.2.2 a ha b hb
theorem rises_cut (k : α → Nm) {A B : List α} {x : α} (h : Rises k (A ++ x :: B)) : Rises k (A ++ B) := by
  have h1 := List.pairwise_append.1 h
  have h2 := List.pairwise_cons.1 h1.2.1
  exact List.pairwise_append.2 ⟨h1.1, h2.2, fun a ha b hb => h1.2.2 a ha b (List.mem_cons_of_mem _ hb)⟩
theorem rises_put (k : α → Nm) {l : List α} (h : Rises k l) (x : α) : Rises k (putK k x l) := by
  rcases putK_part k h x with ⟨A, a, B, _, rfl, e, hA, hB, _⟩ | ⟨A, B, _, rfl, e, hA, hB⟩ <;> rw [e]
  · exact rises_mid k (rises_cut k h) hA hB
  · exact rises_mid k h hA hB
theorem rises_del (k : α → Nm) {l : List α} (h : Rises k l) (s : Nm) : Rises k (delK k s l) := List.Pairwise.sublist (List.filter_sublist ..) h
theorem findK_put_same (k : α → Nm) {l : List α} (h : Rises k l) (x : α) : findK k (k x) (putK k x l) = some x := by
  have go : ∀ A B : List α, (∀ y ∈ A, bytesBefore (k y) (k x) = true) → findK k (k x) (A ++ x :: B) = some x := by
    intro A B hA
    unfold findK
    rw [List.find?_append]
    have : A.find? (fun a => k a == k x) = none := by
      rw [List.find?_eq_none]
      intro a ha
      simp [before_ne (hA a ha)]
    rw [this]
    simp
  rcases putK_part k h x with ⟨A, a, B, _, rfl, e, hA, hB, _⟩ | ⟨A, B, _, rfl, e, hA, hB⟩ <;> rw [e] <;> exact go A B hA
theorem mem_put (k : α → Nm) {l : List α} (h : Rises k l) (x y : α) : y ∈ putK k x l → y = x ∨ (y ∈ l ∧ k y ≠ k x) := by
  rcases putK_part k h x with ⟨A, a, B, _, rfl, e, hA, hB, _⟩ | ⟨A, B, _, rfl, e, hA, hB⟩ <;> rw [e] <;> intro hy <;> simp only [List.mem_append, List.mem_cons] at hy ⊢
  · rcases hy with hy | rfl | hy
    · exact .inr ⟨.inl hy, before_ne (hA y hy)⟩
    · exact .inl rfl
    · exact .inr ⟨.inr (.inr hy), (before_ne (hB y hy)).symm⟩
  · rcases hy with hy | rfl | hy
    · exact .inr ⟨.inl hy, before_ne (hA y hy)⟩
    · exact .inl rfl
    · exact .inr ⟨.inr hy, (before_ne (hB y hy)).symm⟩
end

/-! ### the disk -/

structure FileM where
  nm : Nm
  b : List UInt8
  sy : Nat
structure ArmM where
  call : Nat
  tat : Int
  kind : Int
  done : Bool
structure Dk where
  lim : Nat
  fs : List FileM
  off : Bool
  out : Bool
  calls : Nat
  arms : List ArmM

def sumF (l : List FileM) : Nat := (l.map fun f => f.b.length).sum
def nmByte (c : UInt8) : Bool := (97 ≤ c.toNat && c.toNat ≤ 122) || (48 ≤ c.toNat && c.toNat ≤ 57) || c.toNat == 45 || c.toNat == 46
def nmOk (s : Nm) : Bool := s.all nmByte && 1 ≤ s.length && s.length ≤ 32

namespace Dk
variable (D : Dk)
def used : Nat := sumF D.fs
def find (s : Nm) : Option FileM := findK FileM.nm s D.fs
def size (s : Nm) : Nat := match D.find s with | some f => f.b.length | none => 0
/-- what stands against a call with that name -/
def refuse (s : Nm) : Int := if D.off then 63 else if nmOk s then 0 else 60
def seek (s : Nm) : Int := if D.refuse s ≠ 0 then D.refuse s else if (D.find s).isSome then 0 else 61
def put (f : FileM) : Dk := { D with fs := putK FileM.nm f D.fs }
def del (s : Nm) : Dk := { D with fs := delK FileM.nm s D.fs }
/-- does it hold so many bytes in that file? -/
def room (s : Nm) (n : Nat) : Bool := decide (D.used + n ≤ D.lim + D.size s) && ((D.find s).isSome || decide (D.fs.length < 65536))
/-- counted: the next call's number; what is armed for it goes -/
def tick : Dk := { D with calls := D.calls + 1, arms := D.arms.filter fun a => !(a.call == D.calls + 1) }
def hit : Option ArmM := D.arms.find? fun a => a.call == D.calls + 1
/-- a numbered call that does 'act' -/
def num (act : Dk → Dk) : Dk × Int :=
  match D.hit with
  | none => (act D.tick, 0)
  | some a => if a.kind = 1 then (D.tick, 64) else ({ (if a.done then act D.tick else D.tick) with off := true }, 63)
def addTo (s : Nm) (b : List UInt8) (D : Dk) : Dk := match D.find s with | some f => D.put ⟨s, f.b ++ b, f.sy⟩ | none => D.put ⟨s, b, 0⟩
def syncIt (s : Nm) (D : Dk) : Dk := match D.find s with | some f => D.put ⟨s, f.b, f.b.length⟩ | none => D
def cutTo (s : Nm) (n : Nat) (D : Dk) : Dk := match D.find s with | some f => D.put ⟨s, f.b.take n, n⟩ | none => D
def append (s : Nm) (b : List UInt8) : Dk × Int :=
  if D.refuse s ≠ 0 then (D, D.refuse s) else if D.room s (D.size s + b.length) then D.num (addTo s b) else (D, 62)
def sync (s : Nm) : Dk × Int := if D.seek s ≠ 0 then (D, D.seek s) else D.num (syncIt s)
def replace (s : Nm) (b : List UInt8) : Dk × Int :=
  if D.refuse s ≠ 0 then (D, D.refuse s) else if D.room s b.length then D.num (put · ⟨s, b, b.length⟩) else (D, 62)
def cut (s : Nm) (n : Int) : Dk × Int :=
  if D.seek s ≠ 0 then (D, D.seek s) else if n < 0 ∨ (D.size s : Int) < n then (D, 2) else D.num (cutTo s n.toNat)
def remove (s : Nm) : Dk × Int := if D.seek s ≠ 0 then (D, D.seek s) else D.num (del · s)
def arm (tat kind : Int) (done : Bool) : Dk × Int :=
  if D.off then (D, 63)
  else if tat < 1 ∨ 4294967296 < tat ∨ (kind ≠ 1 ∧ kind ≠ 2) ∨ (done = true ∧ kind = 1) then (D, 2)
  else ({ D with arms := D.arms ++ [⟨D.calls + tat.toNat, tat, kind, done⟩] }, 0)
/-- how many unsynced bytes are kept of the i-th file -/
def kept (keep : List Int) (i : Nat) (f : FileM) : Nat := match keep[i]? with | some n => min n.toNat (f.b.length - f.sy) | none => 0
/-- the bytes that a crash leaves of a file -/
def left (f : FileM) (k : Nat) (junk : UInt8) : List UInt8 :=
  if k = 0 then f.b.take f.sy else f.b.take (f.sy + k - 1) ++ [(f.b.getD (f.sy + k - 1) 0) ^^^ junk]
def image (keep : List Int) (junk : UInt8) : List (Nm × List UInt8) := D.fs.mapIdx fun i f => (f.nm, left f (kept keep i f) junk)
def crash : Dk × Int := if D.out then (D, 63) else ({ D with off := true, out := true }, 0)

structure Wf : Prop where
  rises : Rises FileM.nm D.fs
  lim0 : 1 ≤ D.lim
  lim1 : D.lim ≤ 1073741824
  used : sumF D.fs ≤ D.lim
  synced : ∀ f ∈ D.fs, f.sy ≤ f.b.length
  names : ∀ f ∈ D.fs, nmOk f.nm = true
  count : D.fs.length ≤ 65536
  kinds : ∀ a ∈ D.arms, (a.kind = 1 ∨ a.kind = 2) ∧ 1 ≤ a.tat ∧ a.tat ≤ 4294967296
  outOff : D.out = true → D.off = true
end Dk
end Go.Proofs.Ytnppneilbkmnfaa
