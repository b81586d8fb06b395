/- Contracts of the law's may, value, all. Condition: what is laid down fits into memory. -/
import Derived.Test.YtdgagpoeefbdjaaLay
namespace Go.Proofs.Ytdgagpoeefbdjaa
open Go.RowKit

theorem num_any (w : World) (n : Int) : Calls Try.prog 27 #[.int .i64 n] w fun e w' => e = .returned (.int .i64 n) ∧ w = w' := by
  go_enter Try.func27, Try.ntmps27
  go_wp2
  go_ret
  exact ⟨rfl, rfl⟩

/-- may a value be laid down (no Count below 0)? -/
def mayB (K : Int) (N : Nat) : Bool := decide (K % 9 ≠ 8 ∨ 0 ≤ wrap64 N)

theorem may_any (w : World) (K : Int) (N : Nat) (x : Value) (h0 : -9223372036854775808 ≤ K) (h1 : K ≤ 9223372036854775807) :
    Calls Try.prog 36 #[put K N x] w fun e w' => e = .returned (.bool (mayB K N)) ∧ Ext Nil w w' := by
  unfold put
  by_cases h8 : K % 9 = 8
  · have e : mayB K N = decide (0 ≤ wrap64 (N : Int)) := by simp [mayB, h8]
    rw [e]
    clear e
    go_enter Try.func36, Try.ntmps36
    go_wp2_with (go_at_call 35; refine (kind_any _ K h0 h1).mono ?_; rintro e w' ⟨rfl, rfl⟩)
    go_ret
    exact ⟨rfl, (Ext.refl _ _).alloc _⟩
  · have e : mayB K N = true := by simp [mayB, h8]
    have hb : (K % 9 != 8) = true := by rw [bne_iff_ne]; exact h8
    rw [e]
    clear e
    go_enter Try.func36, Try.ntmps36
    go_wp2_with (go_at_call 35; refine (kind_any _ K h0 h1).mono ?_; rintro e w' ⟨rfl, rfl⟩)
    go_ret
    exact ⟨rfl, (Ext.refl _ _).alloc _⟩

/-- what must come back of a value -/
def valN (K : Int) (N : Nat) : Nat := if K % 9 = 0 then N % 256 else if K % 9 = 1 then N % 2 else if K % 9 = 2 then N % 4294967296 else if K % 9 = 5 ∨ K % 9 = 6 ∨ K % 9 = 7 then 0 else N
def valX (K : Int) (x : Value) : Value := if K % 9 = 5 ∨ K % 9 = 6 ∨ K % 9 = 7 then x else .slice none 0 0
def valB (K : Int) (B : List UInt8) : List UInt8 := if K % 9 = 5 ∨ K % 9 = 6 ∨ K % 9 = 7 then B else []

theorem value_any (w : World) (K : Int) (N : Nat) (x : Value) (B : List UInt8) (hB : Bytes w x B) (h0 : -9223372036854775808 ≤ K) (h1 : K ≤ 9223372036854775807) :
    Calls Try.prog 37 #[put K N x] w fun e w' => e = .returned (.agg #[.int .u64 (valN K N), valX K x]) ∧ Ext Nil w w' := by
  have h9 : K % 9 = 0 ∨ K % 9 = 1 ∨ K % 9 = 2 ∨ K % 9 = 3 ∨ K % 9 = 4 ∨ K % 9 = 5 ∨ K % 9 = 6 ∨ K % 9 = 7 ∨ K % 9 = 8 := by omega
  obtain ⟨ao, cap, rfl, -, -, -⟩ := hB.open
  clear hB
  unfold put
  rcases h9 with hk | hk | hk | hk | hk | hk | hk | hk | hk
  all_goals
    generalize hn : valN K N = n
    generalize hx : valX K (.slice ao B.length cap) = y
    simp only [valN, valX, hk] at hn hx
    simp at hn hx
    subst hn hx
    go_enter Try.func37, Try.ntmps37
    go_wp2_with (go_at_call 35; refine (kind_any _ K h0 h1).mono ?_; rintro e w' ⟨rfl, rfl⟩)
    first
      | exact bodyPost_ret (v := .agg #[.int .u64 _, .slice none 0 0]) (by simp [results, Try.results37, go_sem]) rfl ⟨rfl, ((Ext.refl _ _).alloc _).alloc _⟩
      | exact bodyPost_ret (v := .agg #[.int .u64 0, .slice ao B.length cap]) (by simp [results, Try.results37, go_sem]) rfl ⟨rfl, ((Ext.refl _ _).alloc _).alloc _⟩

theorem flat_at {α : Type} (f : α → List Value) (m : Nat) (hf : ∀ a, (f a).length = m) : ∀ (l : List α) (k : Nat) (hk : k < l.length) (j : Nat), j < m → (l.flatMap f)[k * m + j]? = (f l[k])[j]?
  | [], k, hk, _, _ => by simp at hk
  | a :: l, 0, _, j, hj => by
    rw [List.flatMap_cons, Nat.zero_mul, Nat.zero_add, List.getElem?_append_left (by rw [hf]; exact hj)]
    rfl
  | a :: l, k + 1, hk, j, hj => by
    have ih := flat_at f m hf l k (by simpa using hk) j hj
    rw [List.flatMap_cons, List.getElem?_append_right (by rw [hf, Nat.add_mul]; omega), hf]
    rw [show (k + 1) * m + j - m = k * m + j from by rw [Nat.add_mul]; omega, ih]
    rfl

structure PutD where
  K : Int
  N : Nat
  x : Value
  B : List UInt8
def PutD.cells (d : PutD) : List Value := [.int .i64 d.K, .int .u64 d.N, d.x]
def PutD.may (d : PutD) : Bool := mayB d.K d.N
/-- the bytes of a value that may be laid down -/
def PutD.enc (d : PutD) : List UInt8 := if d.K % 9 = 8 then varB d.N else Go.Proofs.Ytdgagpoeefbdjaa.enc (d.K % 9) d.N d.B
/-- a slice of values; the bytes that they lead to lie below block B0 -/
structure Puts (B0 : Nat) (w : World) (v : Value) (l : List PutD) : Prop where
  reads : Reads w 3 v l.length (l.flatMap PutD.cells)
  each : ∀ d ∈ l, PutOk w d.K d.N d.x d.B
  old : ∀ d ∈ l, ∀ k, inFoot d.x k → k < B0

theorem PutOk.ext {F : Nat → Prop} {w w' : World} {K : Int} {N : Nat} {x : Value} {B : List UInt8} (h : PutOk w K N x B) (e : Ext F w w') (hf : ∀ k, inFoot x k → ¬ F k) : PutOk w' K N x B :=
  ⟨h.k0, h.k1, h.n, h.bytes.ext e hf⟩
theorem Puts.ext {F : Nat → Prop} {B0 : Nat} {w w' : World} {v : Value} {l : List PutD} (h : Puts B0 w v l) (e : Ext F w w') (hf : ∀ k, F k → B0 ≤ k) (hv : ∀ k, inFoot v k → ¬ F k) : Puts B0 w' v l :=
  ⟨h.reads.ext e hv, fun d hd => (h.each d hd).ext e fun k hk hF => by have := h.old d hd k hk; have := hf k hF; omega, h.old⟩
/-- the cells of the k-th -/
theorem Puts.at {B0 : Nat} {w : World} {b off n cap : Nat} {l : List PutD} (h : Puts B0 w (.slice (some ⟨b, off, none⟩) n cap) l) (k : Nat) (hk : k < l.length) :
    w.cell? ⟨b, off + k * 3, none⟩ = some (.int .i64 l[k].K) ∧ w.cell? ⟨b, off + k * 3 + 1, none⟩ = some (.int .u64 l[k].N) ∧ w.cell? ⟨b, off + k * 3 + 2, none⟩ = some l[k].x := by
  have hf := flat_at PutD.cells 3 (fun _ => rfl) l k hk
  obtain ⟨h1, ao, cap', e, h2, h3, h4⟩ := h.reads
  simp only [Value.slice.injEq] at e
  obtain ⟨rfl, _, rfl⟩ := e
  obtain ⟨b', off', e, hc⟩ := h4 (by
    intro hn
    have := hf 0 (by omega)
    rw [hn] at this
    simp [PutD.cells] at this)
  simp only [Option.some.injEq, Addr.mk.injEq, and_true] at e
  obtain ⟨rfl, rfl⟩ := e
  refine ⟨hc _ _ (by rw [show k * 3 = k * 3 + 0 from rfl, hf 0 (by omega)]; rfl), ?_, ?_⟩
  · rw [Nat.add_assoc]; exact hc _ _ (by rw [hf 1 (by omega)]; rfl)
  · rw [Nat.add_assoc]; exact hc _ _ (by rw [hf 2 (by omega)]; rfl)
theorem Puts.head {B0 : Nat} {w : World} {ao : Option Addr} {n cap : Nat} {l : List PutD} (h : Puts B0 w (.slice ao n cap) l) (hne : l ≠ []) : ∃ b off, ao = some ⟨b, off, none⟩ := by
  obtain ⟨h1, ao', cap', e, h2, h3, h4⟩ := h.reads
  simp only [Value.slice.injEq] at e
  obtain ⟨rfl, _, rfl⟩ := e
  obtain ⟨b, off, e, _⟩ := h4 (by
    cases l with
    | nil => exact absurd rfl hne
    | cons d l => simp [PutD.cells])
  exact ⟨b, off, e⟩

/-- all values' bytes -/
def allB (l : List PutD) : List UInt8 := (l.filter PutD.may).flatMap PutD.enc
/-- a bound on them -/
def sumB (l : List PutD) : Nat := (l.map fun d => d.B.length + 10).sum

theorem enc_length (d : PutD) (hn : IsU64 d.N) (hB : IsU64 d.B.length) : d.enc.length ≤ d.B.length + 10 := by
  unfold PutD.enc
  split
  · have := varB_length hn; omega
  · unfold Go.Proofs.Ytdgagpoeefbdjaa.enc
    have h1 := varB_length hn
    split
    · simp
    split
    · simp [bitB]
    split
    · rw [le_length]; omega
    split
    · rw [le_length]; omega
    split
    · omega
    split
    · omega
    · have h3 := varB_length hB
      simp; omega

theorem PutOk.len {w : World} {K : Int} {N : Nat} {x : Value} {B : List UInt8} (h : PutOk w K N x B) : IsU64 B.length := by
  obtain ⟨_, ao, cap, rfl, h2, h3, _⟩ := h.bytes
  unfold IsU64
  unfold maxLen at h3
  omega
theorem allB_length (l : List PutD) (h : ∀ d ∈ l, IsU64 d.N ∧ IsU64 d.B.length) : (allB l).length ≤ sumB l := by
  induction l with
  | nil => simp [allB, sumB]
  | cons d l ih =>
    have h1 := ih fun d hd => h d (List.mem_cons_of_mem _ hd)
    have h2 := enc_length d (h d (List.mem_cons_self ..)).1 (h d (List.mem_cons_self ..)).2
    unfold allB at h1 ⊢
    simp only [sumB, List.map_cons, List.sum_cons] at h1 ⊢
    rw [List.filter_cons]
    split
    · rw [List.flatMap_cons, List.length_append]; omega
    · omega
theorem sumB_take (l : List PutD) (k : Nat) (hk : k < l.length) : sumB (l.take k) + (l[k].B.length + 10) ≤ sumB l := by
  have h : sumB l = sumB (l.take k) + (sumB (l.drop k)) := by
    unfold sumB
    rw [← List.sum_append, ← List.map_append, List.take_append_drop]
  rw [h, List.drop_eq_getElem_cons hk]
  simp only [sumB, List.map_cons, List.sum_cons]
  omega
theorem allB_succ (l : List PutD) (k : Nat) (hk : k < l.length) : allB (l.take (k + 1)) = allB (l.take k) ++ (if l[k].may then l[k].enc else []) := by
  unfold allB
  rw [List.take_succ_eq_append_getElem hk, List.filter_append, List.flatMap_append, List.filter_cons]
  split <;> simp
/-- what lay does with a value that may be laid down -/
theorem lay_may (d : PutD) (hn : IsU64 d.N) (hm : d.may = true) (bs : List UInt8) : layB 0 bs d.K d.N d.B = bs ++ d.enc ∧ layE 0 d.K d.N = 0 := by
  unfold PutD.may mayB at hm
  unfold layB layE PutD.enc
  by_cases h8 : d.K % 9 = 8
  · have h0 : 0 ≤ wrap64 (d.N : Int) := by simpa [h8] using hm
    rw [if_pos h8, if_pos h8, if_pos h8]
    unfold cntB cntE
    rw [if_neg (by omega), if_neg (by omega)]
    have e : (wrap64 (d.N : Int)).toNat = d.N := by
      unfold IsU64 at hn
      unfold wrap64 at h0 ⊢
      omega
    rw [e]
    exact ⟨rfl, rfl⟩
  · rw [if_neg h8, if_neg h8, if_neg h8]
    exact ⟨rfl, rfl⟩

set_option maxHeartbeats 1000000 in
theorem all_any (B0 : Nat) (w : World) (v : Value) (l : List PutD) (h : Puts B0 w v l) (hB : B0 ≤ w.heap.size) (hv : ∀ k, inFoot v k → k < w.heap.size) (hfit : Fits (sumB l)) :
    Calls Try.prog 39 #[v] w fun e w' => ∃ ao cap, (allB l).length ≤ cap ∧ cap ≤ maxLen ∧ e = .returned (.tuple #[.slice ao (allB l).length cap, .bool true]) ∧ OwnB w' (.slice ao (allB l).length cap) (allB l) ∧ Step Nil w (inFoot (.slice ao (allB l).length cap)) w' := by
  have hfit' : sumB l ≤ 1099511627776 := hfit
  have hlens : ∀ d ∈ l, IsU64 d.N ∧ IsU64 d.B.length := fun d hd => ⟨(h.each d hd).n, (h.each d hd).len⟩
  have HLS := Lib.hid hlens
  clear hlens
  obtain ⟨ao, cap, rfl, hcap, hmax, hc⟩ := h.reads.2
  unfold maxLen at hmax
  go_enter Try.func39, Try.ntmps39
  go_wp2_with fail
  refine (newWriter_any _).mono ?_
  rintro e w1 ⟨rfl, hW, hS⟩
  go_wp2_with fail
  go_loopw [5] (fun i wr => ∃ k : Nat, k ≤ l.length ∧ i = .int .i64 k ∧ ∃ v1, WAt wr w.heap.size v1 (allB (l.take k)) 0 ∧ Step Nil w (PF w.heap.size v1) wr) (fun i _ => l.length - (intOf i).toNat)
  case atStart => exact ⟨0, Nat.zero_le _, rfl, _, hW, hS⟩
  case round =>
    obtain ⟨k, hk, rfl, v1, hWr, hSr⟩ := hrel
    have hPr := h.ext hSr.1 (fun _ h => h.elim) (fun _ _ h => h)
    clear hc
    by_cases hlt : k < l.length
    · obtain ⟨b, off, rfl⟩ := h.head (by intro e; subst e; simp at hlt)
      obtain ⟨c0, c1, c2⟩ := hPr.at k hlt
      have hd := hPr.each l[k] (List.getElem_mem hlt)
      have hold := hPr.old l[k] (List.getElem_mem hlt)
      have hsucc := allB_succ l k hlt
      have hsum := sumB_take l k hlt
      have hal := allB_length (l.take k) fun d hd => HLS.out d (List.mem_of_mem_take hd)
      generalize hdk : l[k] = d at c0 c1 c2 hd hold hsucc hsum
      have HD := Lib.hid hdk
      have HS := Lib.hid hsucc
      clear hdk hsucc
      go_wp2_with fail
      refine (may_any wr d.K d.N d.x hd.k0 hd.k1).mono ?_
      rintro e w2 ⟨rfl, hE2⟩
      have hP2 := hPr.ext hE2 (fun _ h => h.elim) (fun _ _ h => h)
      obtain ⟨c0, c1, c2⟩ := hP2.at k hlt
      rw [HD.out] at c0 c1 c2
      by_cases hm : mayB d.K d.N = true
      · have hL := lay_may d hd.n hm (allB (l.take k))
        go_wp2_with fail
        refine (lay_any w2 w.heap.size v1 _ 0 (hWr.ext hE2 fun _ _ h => h) d.K d.N d.x d.B (hd.ext hE2 fun _ _ h => h) ?_ (by unfold Fits; omega)).mono ?_
        · intro i hi hF
          have h1 := hold i hi
          rcases hSr.2 i hF with h2 | h2
          · exact h2
          · omega
        rintro e w3 ⟨rfl, v2, hW3, hS3⟩
        rw [hL.1, hL.2] at hW3
        clear hL
        go_wp2_with fail
        refine ⟨⟨k + 1, by omega, by go_num, v2, ?_, (hSr.trans (step_any_nil hE2)).trans hS3⟩, by simp [intOf]; omega⟩
        have e := HS.out
        have hm' : d.may = true := hm
        rw [if_pos hm'] at e
        rw [e]
        exact hW3
      · have hm' : mayB d.K d.N = false := by simpa using hm
        clear hm
        go_wp2_with fail
        refine ⟨⟨k + 1, by omega, by go_num, v1, ?_, hSr.trans (step_any_nil hE2)⟩, by simp [intOf]; omega⟩
        have e := HS.out
        have hm2 : d.may = false := hm'
        rw [hm2] at e
        rw [e]
        simpa using hWr.ext hE2 fun _ _ h => h
    · obtain rfl : k = l.length := by omega
      have hal := allB_length l HLS.out
      have ht : l.take l.length = l := List.take_length
      rw [ht] at hWr
      clear ht
      go_wp2_with (first
        | (go_at_call 55; refine (out_any wr w.heap.size v1 (allB l) hWr (by unfold Fits; omega)).mono ?_; rintro e w4 ⟨ao4, cap4, h41, h42, rfl, h44, h45⟩)
        | (go_at_call 27; refine (num_any _ _).mono ?_; rintro e w' ⟨rfl, rfl⟩))
      go_ret2
      exact ⟨ao4, cap4, h41, h42, rfl, h44, (hSr.weak fun _ h => h.elim).1.trans h45.1 (fun _ _ h => h), fun k hk => (h45.2 k hk).elim (fun h => h.elim) fun h => .inr (Nat.le_trans hSr.1.size h)⟩
end Go.Proofs.Ytdgagpoeefbdjaa
