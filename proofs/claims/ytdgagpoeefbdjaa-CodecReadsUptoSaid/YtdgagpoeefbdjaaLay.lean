/- Contract of the law's 'lay': a value is laid down by the program. Condition: what is laid down fits into memory. -/
import Derived.Test.YtdgagpoeefbdjaaLent
namespace Go.Proofs.Ytdgagpoeefbdjaa
open Go.RowKit

def bitB (N : Nat) : List UInt8 := [if N % 2 = 1 then 1 else 0]
theorem bitB_of (N : Nat) : [if ((N : Int) % 2 == 1) = true then (1 : UInt8) else 0] = bitB N := by
  unfold bitB
  by_cases hh : N % 2 = 1
  · rw [if_pos (by rw [beq_iff_eq]; omega), if_pos hh]
  · rw [if_neg (by rw [beq_iff_eq]; omega), if_neg hh]
theorem mod32 (N : Nat) : ((N : Int) % 4294967296) = ((N % 4294967296 : Nat) : Int) := by omega
theorem Step.tail {F F' G : Nat → Prop} {w w2 w3 : World} (h : Step F w F' w2) (k : Ext G w2 w3) (hg : ∀ i, G i → w.heap.size ≤ i) : Step F w F' w3 :=
  ⟨h.1.trans k fun i hi e => absurd hi (by have := hg i e; omega), h.2⟩
theorem text_list (w : World) (p : Nat) (v : Value) (bs : List UInt8) (err : Int) (h : WAt w p v bs err) (B : List UInt8) (hfit : Fits (bs.length + B.length + 10)) :
    Calls Try.prog 102 #[.pointer (some ⟨p, 0, none⟩), .string ⟨B.toArray⟩] w (Wrote w p v (app err bs (varB B.length ++ B)) err) :=
  text_any w p v bs err h ⟨B.toArray⟩ hfit

/-- what a value's bytes are -/
def enc (k : Int) (N : Nat) (B : List UInt8) : List UInt8 :=
  if k = 0 then [toB ((N : Int) % 256)] else if k = 1 then bitB N else if k = 2 then le 4 (N % 4294967296) else if k = 3 then le 8 N else if k = 4 then varB N else if k = 5 then B else varB B.length ++ B
/-- what a writer has, and its error, behind a value -/
def layB (err : Int) (bs : List UInt8) (K : Int) (N : Nat) (B : List UInt8) : List UInt8 := if K % 9 = 8 then cntB err bs (wrap64 N) else app err bs (enc (K % 9) N B)
def layE (err : Int) (K : Int) (N : Nat) : Int := if K % 9 = 8 then cntE err (wrap64 N) else err

/-- a value, as it is handed in -/
def put (K : Int) (N : Nat) (x : Value) : Value := .agg #[.int .i64 K, .int .u64 N, x]

/-- what is asked of a value in memory -/
structure PutOk (w : World) (K : Int) (N : Nat) (x : Value) (B : List UInt8) : Prop where
  k0 : -9223372036854775808 ≤ K
  k1 : K ≤ 9223372036854775807
  n : IsU64 N
  bytes : Bytes w x B

def Laid (w : World) (p : Nat) (v : Value) (bs' : List UInt8) (err' : Int) (e : Ending) (w' : World) : Prop :=
  e = .returned (.bool true) ∧ ∃ v', WAt w' p v' bs' err' ∧ Step (PF p v) w (PF p v') w'

theorem run_toStr (w : World) (x : Value) (B : List UInt8) (hx : Bytes w x B) : (convert 29 9 x).run Try.prog w = .ok (.string ⟨B.toArray⟩) w := by
  obtain ⟨ao, cap, rfl, hcap, hmax, hc⟩ := hx.open
  rw [run_convert_bytes_string (P := Try.prog) w 29 9 5 ao B.length cap Try.underlying29 Try.underlying5 Try.underlying9]
  have fold : ∀ (l : List UInt8) (s : ByteArray), (l.map fun b => (b.toNat : Int)).foldl (fun (r : ByteArray) (n : Int) => r.push (UInt8.ofNat n.toNat)) s = ⟨s.data ++ l.toArray⟩ := by
    intro l
    induction l with
    | nil => intro s; simp
    | cons b l ih =>
      intro s
      simp only [List.map_cons, List.foldl_cons]
      rw [ih]
      congr 1
      rw [show UInt8.ofNat ((b.toNat : Int)).toNat = b from by simp]
      simp only [ByteArray.push]
      apply Array.ext'
      simp
  have hl : ∀ a : Addr, ao = some a → (loadCells a B.length).run Try.prog w = .ok ((B.map fun b => (b.toNat : Int)).map (Value.int .u8)).toArray w := by
    intro a ha
    subst ha
    have h := run_firstCells_some (P := Try.prog) w 1 B.length a B.length cap (bvs B) (by simp [bvs]) (fun j u hj => by
      obtain ⟨b, off, hb, hcc⟩ := hc (by intro e; subst e; simp [bvs] at hj)
      simp only [Option.some.injEq] at hb
      subst hb
      have hj' : j < B.length := by
        have := (List.getElem?_eq_some_iff.1 hj).1
        simpa [bvs] using this
      have := hcc j hj'
      have hu : u = .int .u8 (B[j].toNat : Int) := by
        have := (List.getElem?_eq_some_iff.1 hj).2
        rw [← this]
        simp [bvs, bv]
      rw [hu, ← this]
      unfold Addr.add
      split
      · next h0 => subst h0; rfl
      · rfl)
    simp only [Builtin.firstCells, Nat.mul_one] at h
    rw [h]
    simp only [bvs, List.map_map]
    rfl
  cases ao with
  | none =>
    have hB : B = [] := by
      rcases Classical.em (B = []) with h | h
      · exact h
      · obtain ⟨b, off, h2, _⟩ := hc h
        cases h2
    subst hB
    simp [Conv.bytesToString]
    rfl
  | some a =>
    rw [run_bytesToString (P := Try.prog) w a B.length cap _ (hl a rfl), fold]
    simp


set_option maxRecDepth 20000 in
theorem lay0 (w : World) (p : Nat) (v : Value) (bs : List UInt8) (err : Int) (h : WAt w p v bs err) (K : Int) (N : Nat) (x : Value) (B : List UInt8) (hp : PutOk w K N x B) (hfit : Fits (bs.length + B.length + 10)) (hk : K % 9 = 0) :
    Calls Try.prog 31 #[.pointer (some ⟨p, 0, none⟩), put K N x] w (Laid w p v (layB err bs K N B) (layE err K N)) := by
  have e1 : layB err bs K N B = app err bs [toB ((N : Int) % 256)] := by unfold layB; rw [if_neg (by omega)]; simp [enc, hk]
  have e2 : layE err K N = err := by unfold layE; rw [if_neg (by omega)]
  rw [e1, e2]
  unfold put
  have hN := hp.n
  have hk0 := hp.k0
  have hk1 := hp.k1
  clear e1 e2
  have hfit' : bs.length + B.length + 10 ≤ 1099511627776 := hfit
  go_enter Try.func31, Try.ntmps31
  go_wp2_with (first
    | (go_at_call 35; refine (kind_any _ K hk0 hk1).mono ?_; rintro e w' ⟨rfl, rfl⟩)
    | (go_at_call 95; refine (byte_any _ p v bs err (h.alloc _) ((N : Int) % 256) (by omega) (by omega) (by unfold Fits; omega)).mono ?_; rintro e w1 ⟨rfl, v1, h1, h2⟩))
  go_ret
  exact ⟨rfl, v1, h1, (step_alloc _ _ _).trans h2⟩

set_option maxRecDepth 20000 in
theorem lay1 (w : World) (p : Nat) (v : Value) (bs : List UInt8) (err : Int) (h : WAt w p v bs err) (K : Int) (N : Nat) (x : Value) (B : List UInt8) (hp : PutOk w K N x B) (hfit : Fits (bs.length + B.length + 10)) (hk : K % 9 = 1) :
    Calls Try.prog 31 #[.pointer (some ⟨p, 0, none⟩), put K N x] w (Laid w p v (layB err bs K N B) (layE err K N)) := by
  have e1 : layB err bs K N B = app err bs (bitB N) := by unfold layB; rw [if_neg (by omega)]; simp [enc, hk]
  have e2 : layE err K N = err := by unfold layE; rw [if_neg (by omega)]
  rw [e1, e2]
  unfold put
  have hN := hp.n
  have hk0 := hp.k0
  have hk1 := hp.k1
  clear e1 e2
  have hfit' : bs.length + B.length + 10 ≤ 1099511627776 := hfit
  go_enter Try.func31, Try.ntmps31
  go_wp2_with (first
    | (go_at_call 35; refine (kind_any _ K hk0 hk1).mono ?_; rintro e w' ⟨rfl, rfl⟩)
    | (go_at_call 96; refine (bool_any _ p v bs err (h.alloc _) _ (by unfold Fits; omega)).mono ?_; rintro e w1 ⟨rfl, v1, h1, h2⟩))
  go_ret
  rw [bitB_of] at h1
  exact ⟨rfl, v1, h1, (step_alloc _ _ _).trans h2⟩

set_option maxRecDepth 20000 in
theorem lay2 (w : World) (p : Nat) (v : Value) (bs : List UInt8) (err : Int) (h : WAt w p v bs err) (K : Int) (N : Nat) (x : Value) (B : List UInt8) (hp : PutOk w K N x B) (hfit : Fits (bs.length + B.length + 10)) (hk : K % 9 = 2) :
    Calls Try.prog 31 #[.pointer (some ⟨p, 0, none⟩), put K N x] w (Laid w p v (layB err bs K N B) (layE err K N)) := by
  have e1 : layB err bs K N B = app err bs (le 4 (N % 4294967296)) := by unfold layB; rw [if_neg (by omega)]; simp [enc, hk]
  have e2 : layE err K N = err := by unfold layE; rw [if_neg (by omega)]
  rw [e1, e2]
  unfold put
  have hN := hp.n
  have hk0 := hp.k0
  have hk1 := hp.k1
  clear e1 e2
  have hfit' : bs.length + B.length + 10 ≤ 1099511627776 := hfit
  go_enter Try.func31, Try.ntmps31
  go_wp2_with (first
    | (go_at_call 35; refine (kind_any _ K hk0 hk1).mono ?_; rintro e w' ⟨rfl, rfl⟩)
    | (go_at_call 97; rw [mod32]; refine (u32_any _ p v bs err (h.alloc _) (N % 4294967296) (by omega) (by unfold Fits; omega)).mono ?_; rintro e w1 ⟨rfl, v1, h1, h2⟩))
  go_ret
  exact ⟨rfl, v1, h1, (step_alloc _ _ _).trans h2⟩

set_option maxRecDepth 20000 in
theorem lay3 (w : World) (p : Nat) (v : Value) (bs : List UInt8) (err : Int) (h : WAt w p v bs err) (K : Int) (N : Nat) (x : Value) (B : List UInt8) (hp : PutOk w K N x B) (hfit : Fits (bs.length + B.length + 10)) (hk : K % 9 = 3) :
    Calls Try.prog 31 #[.pointer (some ⟨p, 0, none⟩), put K N x] w (Laid w p v (layB err bs K N B) (layE err K N)) := by
  have e1 : layB err bs K N B = app err bs (le 8 N) := by unfold layB; rw [if_neg (by omega)]; simp [enc, hk]
  have e2 : layE err K N = err := by unfold layE; rw [if_neg (by omega)]
  rw [e1, e2]
  unfold put
  have hN := hp.n
  have hk0 := hp.k0
  have hk1 := hp.k1
  clear e1 e2
  have hfit' : bs.length + B.length + 10 ≤ 1099511627776 := hfit
  go_enter Try.func31, Try.ntmps31
  go_wp2_with (first
    | (go_at_call 35; refine (kind_any _ K hk0 hk1).mono ?_; rintro e w' ⟨rfl, rfl⟩)
    | (go_at_call 98; refine (u64_any _ p v bs err (h.alloc _) N hN (by unfold Fits; omega)).mono ?_; rintro e w1 ⟨rfl, v1, h1, h2⟩))
  go_ret
  exact ⟨rfl, v1, h1, (step_alloc _ _ _).trans h2⟩

set_option maxRecDepth 20000 in
theorem lay4 (w : World) (p : Nat) (v : Value) (bs : List UInt8) (err : Int) (h : WAt w p v bs err) (K : Int) (N : Nat) (x : Value) (B : List UInt8) (hp : PutOk w K N x B) (hfit : Fits (bs.length + B.length + 10)) (hk : K % 9 = 4) :
    Calls Try.prog 31 #[.pointer (some ⟨p, 0, none⟩), put K N x] w (Laid w p v (layB err bs K N B) (layE err K N)) := by
  have e1 : layB err bs K N B = app err bs (varB N) := by unfold layB; rw [if_neg (by omega)]; simp [enc, hk]
  have e2 : layE err K N = err := by unfold layE; rw [if_neg (by omega)]
  rw [e1, e2]
  unfold put
  have hN := hp.n
  have hk0 := hp.k0
  have hk1 := hp.k1
  clear e1 e2
  have hfit' : bs.length + B.length + 10 ≤ 1099511627776 := hfit
  go_enter Try.func31, Try.ntmps31
  go_wp2_with (first
    | (go_at_call 35; refine (kind_any _ K hk0 hk1).mono ?_; rintro e w' ⟨rfl, rfl⟩)
    | (go_at_call 99; refine (var_any _ p v bs err (h.alloc _) N hN (by unfold Fits; omega)).mono ?_; rintro e w1 ⟨rfl, v1, h1, h2⟩))
  go_ret
  exact ⟨rfl, v1, h1, (step_alloc _ _ _).trans h2⟩

theorem lentBytes {w : World} {g cap : Nat} {ys : List UInt8} (h : OwnB w (.slice (some ⟨g, 0, none⟩) (ys.length + 3) cap) (ys ++ [161, 162, 163])) : Bytes w (.slice (some ⟨g, 0, none⟩) ys.length cap) ys := by
  obtain ⟨ao, cap', e, h1, h2⟩ := Own.shape h
  simp only [Value.slice.injEq] at e
  refine ⟨by simp [bvs], _, cap, rfl, by simp at h1; omega, by omega, fun _ => ⟨g, 0, rfl, fun j u hj => ?_⟩⟩
  have hj' : j < ys.length := by
    have := (List.getElem?_eq_some_iff.1 hj).1
    simpa [bvs] using this
  have h4 := (h.at j (by simp; omega)).1
  rw [Nat.zero_add, h4, ← hj]
  simp [bvs, bv, hj', List.getElem_append_left hj']

theorem inFoot_len {ao : Option Addr} {n m c k : Nat} (h : inFoot (.slice ao n c) k) : inFoot (.slice ao m c) k := by
  cases ao <;> cases c <;> exact h
theorem foot_cap {g n cap : Nat} (h : 0 < cap) : foot (.slice (some ⟨g, 0, none⟩) n cap) = some g := by
  obtain ⟨c, rfl⟩ : ∃ c, cap = c + 1 := ⟨cap - 1, by omega⟩
  rfl

/-- what was lent lies apart from the writer -/
theorem lent_apart {w w1 : World} {o : Obj} {g cap n : Nat} {l : List UInt8} (hc : 0 < cap) (p3 : OwnB w1 (.slice (some ⟨g, 0, none⟩) n cap) l) (p4 : Step Nil (w.alloc o) (One g) w1) {F : Nat → Prop} (h : ∀ k, F k → k < w.heap.size) :
    w.heap.size + 1 ≤ g ∧ g < w1.heap.size ∧ (∀ k, inFoot (.slice (some ⟨g, 0, none⟩) n cap) k → ¬ F k) ∧ ¬ F w.heap.size := by
  have g1 : w.heap.size + 1 ≤ g := by
    have := (p4.2 g rfl).resolve_left (fun h => h)
    simpa using this
  refine ⟨g1, p3.lt g (foot_cap hc), fun k hk hF => ?_, fun hF => by have := h _ hF; omega⟩
  have hk : foot (.slice (some ⟨g, 0, none⟩) n cap) = some k := hk
  rw [foot_cap hc, Option.some.injEq] at hk
  subst hk
  have := h _ hF
  omega
theorem lent_after {w0 w1 w2 : World} {g : Nat} {F F' : Nat → Prop} (h : ∀ k, F k → k < w0.heap.size) (g1 : w0.heap.size + 1 ≤ g) (g2 : g < w1.heap.size) (h2 : Step F w1 F' w2) : ∀ k, F' k → ¬ One g k := by
  intro k hk e
  have e : k = g := e
  subst e
  rcases h2.2 k hk with h3 | h3
  · have := h _ h3; omega
  · omega

set_option maxRecDepth 20000 in
theorem lay5 (w : World) (p : Nat) (v : Value) (bs : List UInt8) (err : Int) (h : WAt w p v bs err) (K : Int) (N : Nat) (x : Value) (B : List UInt8) (hp : PutOk w K N x B) (hap : ∀ k, inFoot x k → ¬ PF p v k) (hfit : Fits (bs.length + B.length + 10)) (hk : K % 9 = 5) :
    Calls Try.prog 31 #[.pointer (some ⟨p, 0, none⟩), put K N x] w (Laid w p v (layB err bs K N B) (layE err K N)) := by
  have e1 : layB err bs K N B = app err bs B := by unfold layB; rw [if_neg (by omega)]; simp [enc, hk]
  have e2 : layE err K N = err := by unfold layE; rw [if_neg (by omega)]
  rw [e1, e2]
  unfold put
  have hN := hp.n
  have hk0 := hp.k0
  have hk1 := hp.k1
  clear e1 e2
  have hfit' : bs.length + B.length + 10 ≤ 1099511627776 := hfit
  have hW0 : WAt (w.alloc (.cells #[.int .i64 K, .int .u64 N, x] 39 (0, 0))) p v bs err := h.alloc _
  have hx0 : Bytes (w.alloc (.cells #[.int .i64 K, .int .u64 N, x] 39 (0, 0))) x B := hp.bytes.alloc _
  have hA0 := At.new w [.int .i64 K, .int .u64 N, x] 39
  go_enter Try.func31, Try.ntmps31
  go_wp2_with (first
    | (go_at_call 35; refine (kind_any _ K hk0 hk1).mono ?_; rintro e w' ⟨rfl, rfl⟩)
    | (go_at_call 40; refine (lent_any _ x B hx0 (by unfold Fits; omega)).mono ?_; rintro e w1 ⟨g, cap, g1, g2, rfl, p3, p4⟩; have hA1 := hA0.ext p4.1 (fun h => h); have hb1 := hA1.cell 2 rfl; have hW1 := hW0.ext p4.1 (fun _ _ h => h); have hx1 := hx0.ext p4.1 (fun _ _ h => h); have hL1 := lentBytes p3; have gf := lent_apart (F := PF p v) (by omega) p3 p4 h.lt)
    | (go_at_call 100; refine (raw_any _ p v bs err hW1 _ B hL1 (by unfold Fits; omega)).mono ?_; rintro e w2 ⟨rfl, v1, h1, h2⟩; have hA2 := hA1.ext h2.1 gf.2.2.2; have hb2 := hA2.cell 2 rfl; have hx2 := hx1.ext h2.1 hap; have hL2 := p3.ext h2.1 gf.2.2.1)
    | (go_at_call 42; refine (left_any _ g cap x B hL2 hx2 (by unfold Fits; omega)).mono ?_; rintro e w3 ⟨rfl, q3, q4⟩))
  go_ret
  refine ⟨rfl, v1, h1.ext q4 (lent_after h.lt gf.1 gf.2.1 h2), ?_⟩
  refine ((step_alloc _ _ _).trans ((step_any_nil p4.1).trans h2)).tail q4 ?_
  intro i hi
  have hi : i = g := hi
  have := gf.1
  omega

set_option maxRecDepth 20000 in
theorem lay6 (w : World) (p : Nat) (v : Value) (bs : List UInt8) (err : Int) (h : WAt w p v bs err) (K : Int) (N : Nat) (x : Value) (B : List UInt8) (hp : PutOk w K N x B) (hap : ∀ k, inFoot x k → ¬ PF p v k) (hfit : Fits (bs.length + B.length + 10)) (hk : K % 9 = 6) :
    Calls Try.prog 31 #[.pointer (some ⟨p, 0, none⟩), put K N x] w (Laid w p v (layB err bs K N B) (layE err K N)) := by
  have e1 : layB err bs K N B = app err bs (varB B.length ++ B) := by unfold layB; rw [if_neg (by omega)]; simp [enc, hk]
  have e2 : layE err K N = err := by unfold layE; rw [if_neg (by omega)]
  rw [e1, e2]
  unfold put
  have hN := hp.n
  have hk0 := hp.k0
  have hk1 := hp.k1
  clear e1 e2
  have hfit' : bs.length + B.length + 10 ≤ 1099511627776 := hfit
  have hW0 : WAt (w.alloc (.cells #[.int .i64 K, .int .u64 N, x] 39 (0, 0))) p v bs err := h.alloc _
  have hx0 : Bytes (w.alloc (.cells #[.int .i64 K, .int .u64 N, x] 39 (0, 0))) x B := hp.bytes.alloc _
  have hA0 := At.new w [.int .i64 K, .int .u64 N, x] 39
  go_enter Try.func31, Try.ntmps31
  go_wp2_with (first
    | (go_at_call 35; refine (kind_any _ K hk0 hk1).mono ?_; rintro e w' ⟨rfl, rfl⟩)
    | (go_at_call 40; refine (lent_any _ x B hx0 (by unfold Fits; omega)).mono ?_; rintro e w1 ⟨g, cap, g1, g2, rfl, p3, p4⟩; have hA1 := hA0.ext p4.1 (fun h => h); have hb1 := hA1.cell 2 rfl; have hW1 := hW0.ext p4.1 (fun _ _ h => h); have hx1 := hx0.ext p4.1 (fun _ _ h => h); have hL1 := lentBytes p3; have gf := lent_apart (F := PF p v) (by omega) p3 p4 h.lt)
    | (go_at_call 101; refine (bytes_any _ p v bs err hW1 _ B hL1 (fun k hk => gf.2.2.1 k (inFoot_len hk)) (by unfold Fits; omega)).mono ?_; rintro e w2 ⟨rfl, v1, h1, h2⟩; have hA2 := hA1.ext h2.1 gf.2.2.2; have hb2 := hA2.cell 2 rfl; have hx2 := hx1.ext h2.1 hap; have hL2 := p3.ext h2.1 gf.2.2.1)
    | (go_at_call 42; refine (left_any _ g cap x B hL2 hx2 (by unfold Fits; omega)).mono ?_; rintro e w3 ⟨rfl, q3, q4⟩))
  go_ret
  refine ⟨rfl, v1, h1.ext q4 (lent_after h.lt gf.1 gf.2.1 h2), ?_⟩
  refine ((step_alloc _ _ _).trans ((step_any_nil p4.1).trans h2)).tail q4 ?_
  intro i hi
  have hi : i = g := hi
  have := gf.1
  omega

set_option maxRecDepth 20000 in
theorem lay7 (w : World) (p : Nat) (v : Value) (bs : List UInt8) (err : Int) (h : WAt w p v bs err) (K : Int) (N : Nat) (x : Value) (B : List UInt8) (hp : PutOk w K N x B) (hfit : Fits (bs.length + B.length + 10)) (hk : K % 9 = 7) :
    Calls Try.prog 31 #[.pointer (some ⟨p, 0, none⟩), put K N x] w (Laid w p v (layB err bs K N B) (layE err K N)) := by
  have e1 : layB err bs K N B = app err bs (varB B.length ++ B) := by unfold layB; rw [if_neg (by omega)]; simp [enc, hk]
  have e2 : layE err K N = err := by unfold layE; rw [if_neg (by omega)]
  rw [e1, e2]
  unfold put
  have hN := hp.n
  have hk0 := hp.k0
  have hk1 := hp.k1
  clear e1 e2
  have hfit' : bs.length + B.length + 10 ≤ 1099511627776 := hfit
  have hr := run_toStr (w.alloc (.cells #[.int .i64 K, .int .u64 N, x] 39 (0, 0))) x B (hp.bytes.alloc _)
  go_enter Try.func31, Try.ntmps31
  go_wp2_with (first
    | (go_at_call 35; refine (kind_any _ K hk0 hk1).mono ?_; rintro e w' ⟨rfl, rfl⟩)
    )
  refine (text_list _ p v bs err (h.alloc _) B (by unfold Fits; omega)).mono ?_
  rintro e w1 ⟨rfl, v1, h1, h2⟩
  go_wp2_with fail
  go_ret
  exact ⟨rfl, v1, h1, (step_alloc _ _ _).trans h2⟩

set_option maxRecDepth 20000 in
theorem lay8 (w : World) (p : Nat) (v : Value) (bs : List UInt8) (err : Int) (h : WAt w p v bs err) (K : Int) (N : Nat) (x : Value) (B : List UInt8) (hp : PutOk w K N x B) (hfit : Fits (bs.length + B.length + 10)) (hk : K % 9 = 8) :
    Calls Try.prog 31 #[.pointer (some ⟨p, 0, none⟩), put K N x] w (Laid w p v (layB err bs K N B) (layE err K N)) := by
  have e1 : layB err bs K N B = cntB err bs (wrap64 N) := by unfold layB; rw [if_pos hk]
  have e2 : layE err K N = cntE err (wrap64 N) := by unfold layE; rw [if_pos hk]
  rw [e1, e2]
  unfold put
  have hN := hp.n
  have hk0 := hp.k0
  have hk1 := hp.k1
  clear e1 e2
  have hfit' : bs.length + B.length + 10 ≤ 1099511627776 := hfit
  have hwr : wrap64 (N : Int) ≤ 9223372036854775807 := by unfold wrap64; omega
  go_enter Try.func31, Try.ntmps31
  go_wp2_with (first
    | (go_at_call 35; refine (kind_any _ K hk0 hk1).mono ?_; rintro e w' ⟨rfl, rfl⟩)
    | (go_at_call 103; refine (count_any _ p v bs err (h.alloc _) (wrap64 N) hwr (by unfold Fits; omega)).mono ?_; rintro e w1 ⟨rfl, v1, h1, h2⟩))
  go_ret
  exact ⟨rfl, v1, h1, (step_alloc _ _ _).trans h2⟩

theorem lay_any (w : World) (p : Nat) (v : Value) (bs : List UInt8) (err : Int) (h : WAt w p v bs err) (K : Int) (N : Nat) (x : Value) (B : List UInt8) (hp : PutOk w K N x B) (hap : ∀ k, inFoot x k → ¬ PF p v k) (hfit : Fits (bs.length + B.length + 10)) :
    Calls Try.prog 31 #[.pointer (some ⟨p, 0, none⟩), put K N x] w (Laid w p v (layB err bs K N B) (layE err K N)) := by
  have h9 : K % 9 = 0 ∨ K % 9 = 1 ∨ K % 9 = 2 ∨ K % 9 = 3 ∨ K % 9 = 4 ∨ K % 9 = 5 ∨ K % 9 = 6 ∨ K % 9 = 7 ∨ K % 9 = 8 := by omega
  rcases h9 with h9 | h9 | h9 | h9 | h9 | h9 | h9 | h9 | h9
  · exact lay0 w p v bs err h K N x B hp hfit h9
  · exact lay1 w p v bs err h K N x B hp hfit h9
  · exact lay2 w p v bs err h K N x B hp hfit h9
  · exact lay3 w p v bs err h K N x B hp hfit h9
  · exact lay4 w p v bs err h K N x B hp hfit h9
  · exact lay5 w p v bs err h K N x B hp hap hfit h9
  · exact lay6 w p v bs err h K N x B hp hap hfit h9
  · exact lay7 w p v bs err h K N x B hp hfit h9
  · exact lay8 w p v bs err h K N x B hp hfit h9
end Go.Proofs.Ytdgagpoeefbdjaa
