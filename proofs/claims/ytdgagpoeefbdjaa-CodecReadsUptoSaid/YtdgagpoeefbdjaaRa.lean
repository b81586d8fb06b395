/- The contract of the law's 'read', whatever is read. Conditions: the numbers are ints. -/
import Derived.Test.YtdgagpoeefbdjaaRg
import Derived.Test.YtdgagpoeefbdjaaRn
namespace Go.Proofs.Ytdgagpoeefbdjaa
open Go.RowKit

/-! ### what each read answers: error, length, number, bytes -/
abbrev Rd := Int × Nat × Nat × List UInt8
def rd0 (rest : List UInt8) : Rd := match rest with | [] => (10, 0, 0, []) | x :: _ => (0, 1, x.toNat, [])
def rd1 (rest : List UInt8) : Rd := match rest with | [] => (10, 0, 0, []) | x :: _ => if x.toNat ≤ 1 then (0, 1, x.toNat, []) else (11, 0, 0, [])
def rdF (n : Nat) (rest : List UInt8) : Rd := if n ≤ rest.length then (0, n, leN (rest.take n), []) else (10, 0, 0, [])
def rd4 (rest : List UInt8) : Rd := ((numL rest 0 0).1, (numL rest 0 0).2.2, (numL rest 0 0).2.1, [])
def rd5 (A : Int) (rest : List UInt8) : Rd := if A < 0 then (2, 0, 0, []) else if (rest.length : Int) < A then (10, 0, 0, []) else (0, A.toNat, 0, rest.take A.toNat)
def rd6 (A : Int) (rest : List UInt8) : Rd :=
  if A < 0 then (2, 0, 0, []) else if (numL rest 0 0).1 ≠ 0 then ((numL rest 0 0).1, 0, 0, []) else if A < ((numL rest 0 0).2.1 : Int) then (12, 0, 0, [])
  else if rest.length - (numL rest 0 0).2.2 < (numL rest 0 0).2.1 then (10, 0, 0, []) else (0, (numL rest 0 0).2.2 + (numL rest 0 0).2.1, 0, (rest.drop (numL rest 0 0).2.2).take (numL rest 0 0).2.1)
def rd8 (A B : Int) (rest : List UInt8) : Rd :=
  if A < 0 ∨ B < 0 then (2, 0, 0, []) else if (numL rest 0 0).1 ≠ 0 then ((numL rest 0 0).1, 0, 0, []) else if A < ((numL rest 0 0).2.1 : Int) then (12, 0, 0, [])
  else if rest.length - (numL rest 0 0).2.2 < (numL rest 0 0).2.1 * B.toNat then (10, 0, 0, []) else (0, (numL rest 0 0).2.2, (numL rest 0 0).2.1, [])
def rdD (K A B : Int) (rest : List UInt8) : Rd :=
  if K = 0 then rd0 rest else if K = 1 then rd1 rest else if K = 2 then rdF 4 rest else if K = 3 then rdF 8 rest else if K = 4 then rd4 rest else if K = 5 then rd5 A rest else if K = 6 ∨ K = 7 then rd6 A rest else rd8 A B rest
def rdE (err K A B : Int) (rest : List UInt8) : Rd := if err = 0 then rdD K A B rest else (err, 0, 0, [])

/-- The end of a read at a reader that New made. -/
def Rds (w : World) (p : Nat) (v : Value) (bs : List UInt8) (a : Nat) (r : Rd) (R : Nat → World → Value → Prop) (e : Ending) (w' : World) : Prop := RdEnd w p v bs (a + r.2.1) r.1 (R w.heap.size) e w'

theorem Fresh.le {S S' : Nat} {B : List UInt8} {w : World} {u : Value} (h : Fresh S B w u) (hs : S' ≤ S) : Fresh S' B w u := by
  obtain ⟨ao, cap, h1, h2, h3, h4, h5⟩ := h
  exact ⟨ao, cap, h1, h2, h3, h4, fun k hk => Nat.le_trans hs (h5 k hk)⟩

theorem beside0 {w : World} {p : Nat} {v : Value} {bs : List UInt8} {a : Nat} {err : Int} (h : RdAt w p v bs a err) (T t : TypeId) (z : Value) : Beside ((w.alloc (.cells #[.pointer (some ⟨p, 0, none⟩)] T)).alloc (.cells #[z] t)) p v w.heap.size (w.heap.size + 1) t z := by
  have hp := h.cells.lt
  have hv := h.lt
  refine ⟨((At.new w [.pointer (some ⟨p, 0, none⟩)] T).alloc _).cell 0 rfl, by omega, by omega, ?_, by omega, fun hk => ?_⟩
  · have e : w.heap.size + 1 = (w.alloc (.cells #[.pointer (some ⟨p, 0, none⟩)] T)).heap.size := by simp
    rw [e]
    exact At.new _ [z] _
  · have := hv _ hk; omega
theorem beside1 {w : World} {p : Nat} {v : Value} {bs : List UInt8} {a : Nat} {err : Int} (h : RdAt w p v bs a err) (T I t : TypeId) (m : Int) (z : Value) : Beside (((w.alloc (.cells #[.pointer (some ⟨p, 0, none⟩)] T)).alloc (.cells #[.int .i64 m] I)).alloc (.cells #[z] t)) p v w.heap.size (w.heap.size + 2) t z ∧
    (((w.alloc (.cells #[.pointer (some ⟨p, 0, none⟩)] T)).alloc (.cells #[.int .i64 m] I)).alloc (.cells #[z] t)).cell? ⟨w.heap.size + 1, 0, none⟩ = some (.int .i64 m) := by
  have hp := h.cells.lt
  have hv := h.lt
  refine ⟨⟨(((At.new w [.pointer (some ⟨p, 0, none⟩)] T).alloc _).alloc _).cell 0 rfl, by omega, by omega, ?_, by omega, fun hk => ?_⟩, ?_⟩
  · have e : w.heap.size + 2 = ((w.alloc (.cells #[.pointer (some ⟨p, 0, none⟩)] T)).alloc (.cells #[.int .i64 m] I)).heap.size := by simp
    rw [e]
    exact At.new _ [z] _
  · have := hv _ hk; omega
  · have e : w.heap.size + 1 = (w.alloc (.cells #[.pointer (some ⟨p, 0, none⟩)] T)).heap.size := by simp
    rw [e]
    exact ((At.new _ [.int .i64 m] I).alloc _).cell 0 rfl
theorem beside2 {w : World} {p : Nat} {v : Value} {bs : List UInt8} {a : Nat} {err : Int} (h : RdAt w p v bs a err) (T I t : TypeId) (m l : Int) (z : Value) : Beside ((((w.alloc (.cells #[.pointer (some ⟨p, 0, none⟩)] T)).alloc (.cells #[.int .i64 m] I)).alloc (.cells #[.int .i64 l] I)).alloc (.cells #[z] t)) p v w.heap.size (w.heap.size + 3) t z ∧
    ((((w.alloc (.cells #[.pointer (some ⟨p, 0, none⟩)] T)).alloc (.cells #[.int .i64 m] I)).alloc (.cells #[.int .i64 l] I)).alloc (.cells #[z] t)).cell? ⟨w.heap.size + 1, 0, none⟩ = some (.int .i64 m) ∧
    ((((w.alloc (.cells #[.pointer (some ⟨p, 0, none⟩)] T)).alloc (.cells #[.int .i64 m] I)).alloc (.cells #[.int .i64 l] I)).alloc (.cells #[z] t)).cell? ⟨w.heap.size + 2, 0, none⟩ = some (.int .i64 l) := by
  have hp := h.cells.lt
  have hv := h.lt
  refine ⟨⟨((((At.new w [.pointer (some ⟨p, 0, none⟩)] T).alloc _).alloc _).alloc _).cell 0 rfl, by omega, by omega, ?_, by omega, fun hk => ?_⟩, ?_, ?_⟩
  · have e : w.heap.size + 3 = (((w.alloc (.cells #[.pointer (some ⟨p, 0, none⟩)] T)).alloc (.cells #[.int .i64 m] I)).alloc (.cells #[.int .i64 l] I)).heap.size := by simp
    rw [e]
    exact At.new _ [z] _
  · have := hv _ hk; omega
  · have e : w.heap.size + 1 = (w.alloc (.cells #[.pointer (some ⟨p, 0, none⟩)] T)).heap.size := by simp
    rw [e]
    exact (((At.new _ [.int .i64 m] I).alloc _).alloc _).cell 0 rfl
  · have e : w.heap.size + 2 = ((w.alloc (.cells #[.pointer (some ⟨p, 0, none⟩)] T)).alloc (.cells #[.int .i64 m] I)).heap.size := by simp
    rw [e]
    exact ((At.new _ [.int .i64 l] I).alloc _).cell 0 rfl

def NumIs (k : IntKind) (N : Nat) : Nat → World → Value → Prop := fun _ => Just (.int k N)
theorem drop_one {l : List UInt8} {a : Nat} {x : UInt8} {t : List UInt8} (h : l.drop a = x :: t) : (l.drop a).take 1 = [x] := by rw [h]; rfl
theorem drop_nil' {l : List UInt8} {a : Nat} (h : l.drop a = []) : l.length ≤ a := by simpa using h
theorem drop_len (l : List UInt8) (a : Nat) : (l.drop a).length = l.length - a := by simp

theorem on_byte {w : World} {p : Nat} {v : Value} {bs : List UInt8} {a : Nat} (h : RdAt w p v bs a 0) :
    Calls Try.prog 116 #[.pointer (some ⟨p, 0, none⟩)] w (Rds w p v bs a (rd0 (bs.drop a)) (NumIs .u8 (rd0 (bs.drop a)).2.2.1)) := by
  have h2 : RdAt _ p v bs a 0 := (h.alloc (.cells #[.pointer (some ⟨p, 0, none⟩)] 57)).alloc (.cells #[.int .u8 0] 5)
  rcases hr : bs.drop a with _ | ⟨x, t⟩
  · exact byte_on w p v bs a h 10 0 _ (fun _ _ _ h _ => h) (fun _ _ h => h) (fun _ => rfl) (fun _ u h => ⟨_, h⟩) (byte_cut _ p v bs a h2 _ _ (beside0 h _ _ _) (drop_nil' hr))
  · exact byte_on w p v bs a h 0 1 _ (fun _ _ _ h _ => h) (fun _ _ h => h) (fun h => absurd rfl h) (fun _ u h => ⟨_, h⟩) (byte_clo _ p v bs a h2 _ _ (beside0 h _ _ _) x (drop_one hr))

theorem on_bool {w : World} {p : Nat} {v : Value} {bs : List UInt8} {a : Nat} (h : RdAt w p v bs a 0) :
    Calls Try.prog 118 #[.pointer (some ⟨p, 0, none⟩)] w (Rds w p v bs a (rd1 (bs.drop a)) (fun _ => Just (.bool ((rd1 (bs.drop a)).2.2.1 == 1)))) := by
  have h2 : RdAt _ p v bs a 0 := (h.alloc (.cells #[.pointer (some ⟨p, 0, none⟩)] 57)).alloc (.cells #[.bool false] 4)
  rcases hr : bs.drop a with _ | ⟨x, t⟩
  · exact bool_on w p v bs a h 10 0 _ (fun _ _ _ h _ => h) (fun _ _ h => h) (fun _ => rfl) (fun _ u h => ⟨_, h⟩) (bool_cut _ p v bs a h2 _ _ (beside0 h _ _ _) (drop_nil' hr))
  · by_cases hx : x.toNat ≤ 1
    · have e : rd1 (x :: t) = (0, 1, x.toNat, []) := by simp only [rd1, if_pos hx]
      rw [e]
      exact bool_on w p v bs a h 0 1 _ (fun _ _ _ h _ => h) (fun _ _ h => h) (fun h => absurd rfl h) (fun _ u h => ⟨_, h⟩) (bool_clo _ p v bs a h2 _ _ (beside0 h _ _ _) x (drop_one hr) hx)
    · have e : rd1 (x :: t) = (11, 0, 0, []) := by simp only [rd1, if_neg hx]
      rw [e]
      exact bool_on w p v bs a h 11 0 _ (fun _ _ _ h _ => h) (fun _ _ h => h) (fun _ => rfl) (fun _ u h => ⟨_, h⟩) (bool_form _ p v bs a h2 _ _ (beside0 h _ _ _) x (drop_one hr) hx)

theorem on_fixed {w : World} {p : Nat} {v : Value} {bs : List UInt8} {a : Nat} (h : RdAt w p v bs a 0) (n : Nat) (hn : 0 < n ∧ n ≤ 8) :
    Calls Try.prog 178 #[.pointer (some ⟨p, 0, none⟩), .int .i64 n] w (Rds w p v bs a (rdF n (bs.drop a)) (NumIs .u64 (rdF n (bs.drop a)).2.2.1)) := by
  have h2 : RdAt _ p v bs a 0 := ((h.alloc (.cells #[.pointer (some ⟨p, 0, none⟩)] 57)).alloc (.cells #[.int .i64 n] 3)).alloc (.cells #[.int .u64 0] 37)
  have hb := beside1 h 57 3 37 n (.int .u64 0)
  have hp := h.cells.lt
  have here := h.here
  by_cases hl : n ≤ (bs.drop a).length
  · have e : rdF n (bs.drop a) = (0, n, leN ((bs.drop a).take n), []) := if_pos hl
    rw [e]
    exact fixed_on w p v bs a h n 0 n _ (fun _ _ _ h _ => h) (fun _ _ h => h) (fun h => absurd rfl h) (fun _ u h => ⟨_, h⟩) (fixed_clo _ p v bs a h2 _ _ _ hb.1 n hb.2 hn _ rfl (by rw [List.length_take]; omega) (by omega) (by omega))
  · have e : rdF n (bs.drop a) = (10, 0, 0, []) := if_neg hl
    rw [e]
    rw [drop_len] at hl
    exact fixed_on w p v bs a h n 10 0 _ (fun _ _ _ h _ => h) (fun _ _ h => h) (fun _ => rfl) (fun _ u h => ⟨_, h⟩) (fixed_cut _ p v bs a h2 _ _ _ hb.1 n hb.2 hn (by omega))

theorem on_var {w : World} {p : Nat} {v : Value} {bs : List UInt8} {a : Nat} (h : RdAt w p v bs a 0) :
    Calls Try.prog 121 #[.pointer (some ⟨p, 0, none⟩)] w (Rds w p v bs a (rd4 (bs.drop a)) (NumIs .u64 (rd4 (bs.drop a)).2.2.1)) := by
  have h2 : RdAt _ p v bs a 0 := (h.alloc (.cells #[.pointer (some ⟨p, 0, none⟩)] 57)).alloc (.cells #[.int .u64 0] 37)
  have hf := (numL_front (bs.drop a)).2.1
  exact var_on w p v bs a h _ _ _ (fun _ _ _ h _ => h) (fun _ _ h => h) (fun he => by show (numL (bs.drop a) 0 0).2.2 = 0; rw [hf he]) (fun _ u h => ⟨_, h⟩) (var_clo _ p v bs a h2 _ _ (beside0 h _ _ _) _ rfl)

def BytesAre (B : List UInt8) : Nat → World → Value → Prop := fun S => Fresh S B
theorem fresh_stays {S p : Nat} (hp : p < S) (B : List UInt8) : ∀ w1 w2 u, Fresh S B w1 u → Ext (One p) w1 w2 → Fresh S B w2 u := fun _ _ _ h e => h.ext e fun k hk => by have hk : k = p := hk; omega
theorem fresh_set {S c : Nat} (hp : c < S) (B : List UInt8) : ∀ w1 u, Fresh S B w1 u → Fresh S B (w1.setCell ⟨c, 0, none⟩ u) u := fun w1 u h => h.ext (F := One c) ((Ext.refl (One c) w1).setCell (p := ⟨c, 0, none⟩) (fun _ => (rfl : c = c)) u) fun k hk => by have hk : k = c := hk; omega
theorem fresh_shape {S : Nat} {B : List UInt8} : ∀ w u, Fresh S B w u → IsSlice u := fun _ _ h => by
  obtain ⟨ao, cap, _, _, rfl, _⟩ := h
  exact ⟨_, _, _, _, rfl, rfl⟩
theorem Rds.le {w : World} {p : Nat} {v : Value} {bs : List UInt8} {a' : Nat} {er : Int} {B : List UInt8} {S : Nat} (hs : w.heap.size ≤ S) {e : Ending} {w' : World} (h : RdEnd w p v bs a' er (Fresh S B) e w') : RdEnd w p v bs a' er (Fresh w.heap.size B) e w' := by
  obtain ⟨u, h1, h2, h3⟩ := h
  exact ⟨u, h1, h2.le hs, h3⟩

theorem on_raw {w : World} {p : Nat} {v : Value} {bs : List UInt8} {a : Nat} (h : RdAt w p v bs a 0) (A : Int) (hA : A ≤ 9223372036854775807) :
    Calls Try.prog 122 #[.pointer (some ⟨p, 0, none⟩), .int .i64 A] w (Rds w p v bs a (rd5 A (bs.drop a)) (BytesAre (rd5 A (bs.drop a)).2.2.2)) := by
  have h2 : RdAt _ p v bs a 0 := ((h.alloc (.cells #[.pointer (some ⟨p, 0, none⟩)] 57)).alloc (.cells #[.int .i64 A] 3)).alloc (.cells #[.slice none 0 0] 29)
  have hb := beside1 h 57 3 29 A (.slice none 0 0)
  have hp := h.cells.lt
  have here := h.here
  have hf : bs.length ≤ 1099511627776 := h.fits
  have hS : (((w.alloc (.cells #[.pointer (some ⟨p, 0, none⟩)] 57)).alloc (.cells #[.int .i64 A] 3)).alloc (.cells #[.slice none 0 0] 29)).heap.size = w.heap.size + 3 := by simp
  have fin : ∀ (er : Int) (k : Nat) (B : List UInt8), (er ≠ 0 → k = 0) → Fits B.length → ∀ a', (er = 0 → a' = a + k) →
      Calls Try.prog 176 #[.pointer (some ⟨p, 0, none⟩), .int .i64 A] (((w.alloc (.cells #[.pointer (some ⟨p, 0, none⟩)] 57)).alloc (.cells #[.int .i64 A] 3)).alloc (.cells #[.slice none 0 0] 29)) (Took _ p v bs 0 er B a') →
      Calls Try.prog 122 #[.pointer (some ⟨p, 0, none⟩), .int .i64 A] w (RdEnd w p v bs (a + k) er (Fresh w.heap.size B)) := fun er k B hk hB a' ha H =>
    (raw_on w p v bs a h A er k _ (fresh_stays (by omega) B) (fresh_set (by omega) B) hk fresh_shape (raw_of _ p v bs a _ _ _ hb.1 A hb.2 er B a' k ha hB H)).mono fun e w' hm => Rds.le (by omega) hm
  unfold Rds
  by_cases h0 : A < 0
  · have e : rd5 A (bs.drop a) = (2, 0, 0, []) := if_pos h0
    rw [e]
    exact fin 2 0 [] (fun _ => rfl) (by unfold Fits; simp) a (by simp) (take_neg _ p v bs a 0 h2 A h0)
  · by_cases h1 : ((bs.drop a).length : Int) < A
    · have e : rd5 A (bs.drop a) = (10, 0, 0, []) := by rw [rd5, if_neg h0, if_pos h1]
      rw [e]
      rw [drop_len] at h1
      exact fin 10 0 [] (fun _ => rfl) (by unfold Fits; simp) a (by simp) (take_cut _ p v bs a 0 h2 A h0 hA (by omega))
    · have e : rd5 A (bs.drop a) = (0, A.toNat, 0, (bs.drop a).take A.toNat) := by rw [rd5, if_neg h0, if_neg h1]
      rw [e]
      rw [drop_len] at h1
      have ht := take_ok _ p v bs a 0 h2 A.toNat (by omega)
      rw [Int.toNat_of_nonneg (by omega)] at ht
      exact fin 0 A.toNat _ (fun h => absurd rfl h) (by unfold Fits; simp; omega) _ (fun _ => rfl) ht

theorem on_bytes {w : World} {p : Nat} {v : Value} {bs : List UInt8} {a : Nat} (h : RdAt w p v bs a 0) (A : Int) (hA : A ≤ 9223372036854775807) :
    Calls Try.prog 182 #[.pointer (some ⟨p, 0, none⟩), .int .i64 A] w (Rds w p v bs a (rd6 A (bs.drop a)) (BytesAre (rd6 A (bs.drop a)).2.2.2)) := by
  have h2 : RdAt _ p v bs a 0 := ((h.alloc (.cells #[.pointer (some ⟨p, 0, none⟩)] 57)).alloc (.cells #[.int .i64 A] 3)).alloc (.cells #[.slice none 0 0] 29)
  have hb := beside1 h 57 3 29 A (.slice none 0 0)
  have hp := h.cells.lt
  have hS : (((w.alloc (.cells #[.pointer (some ⟨p, 0, none⟩)] 57)).alloc (.cells #[.int .i64 A] 3)).alloc (.cells #[.slice none 0 0] 29)).heap.size = w.heap.size + 3 := by simp
  have fin : ∀ (er : Int) (k : Nat) (B : List UInt8), (er ≠ 0 → k = 0) →
      Calls Try.prog 201 #[.pointer (some ⟨w.heap.size + 1, 0, none⟩), .pointer (some ⟨w.heap.size, 0, none⟩), .pointer (some ⟨w.heap.size + 2, 0, none⟩)] (((w.alloc (.cells #[.pointer (some ⟨p, 0, none⟩)] 57)).alloc (.cells #[.int .i64 A] 3)).alloc (.cells #[.slice none 0 0] 29)) (Clo _ p (w.heap.size + 2) 29 v bs a er k (Fresh (((w.alloc (.cells #[.pointer (some ⟨p, 0, none⟩)] 57)).alloc (.cells #[.int .i64 A] 3)).alloc (.cells #[.slice none 0 0] 29)).heap.size B)) →
      Calls Try.prog 182 #[.pointer (some ⟨p, 0, none⟩), .int .i64 A] w (RdEnd w p v bs (a + k) er (Fresh w.heap.size B)) := fun er k B hk H =>
    (bytes_on w p v bs a h A er k _ (fresh_stays (by omega) B) (fresh_set (by omega) B) hk fresh_shape H).mono fun e w' hm => Rds.le (by omega) hm
  unfold Rds
  obtain ⟨hf1, hf2, hf3⟩ := numL_front (bs.drop a)
  rcases hr : numL (bs.drop a) 0 0 with ⟨er, z, k⟩
  rw [hr] at hf1 hf2 hf3
  simp only at hf1 hf2 hf3
  by_cases h0 : A < 0
  · have e : rd6 A (bs.drop a) = (2, 0, 0, []) := if_pos h0
    rw [e]
    exact fin 2 0 [] (fun _ => rfl) (bytes_neg _ p v bs a h2 _ _ _ hb.1 A hb.2 h0)
  obtain ⟨m, rfl⟩ := Int.eq_ofNat_of_zero_le (show 0 ≤ A by omega)
  by_cases he : er = 0
  · subst he
    by_cases h1 : m < z
    · have e : rd6 (m : Int) (bs.drop a) = (12, 0, 0, []) := by rw [rd6, if_neg h0, hr, if_neg (by simp), if_pos (by simp only; omega)]
      rw [e]
      exact fin 12 0 [] (fun _ => rfl) (bytes_over _ p v bs a h2 _ _ _ hb.1 m hb.2 (by omega) (by omega) z k hr h1)
    · by_cases h3 : bs.length - (a + k) < z
      · have e : rd6 (m : Int) (bs.drop a) = (10, 0, 0, []) := by rw [rd6, if_neg h0, hr, if_neg (by simp), if_neg (by simp only; omega), if_pos (by simp only [drop_len]; omega)]
        rw [e]
        exact fin 10 0 [] (fun _ => rfl) (bytes_short _ p v bs a h2 _ _ _ hb.1 m hb.2 (by omega) (by omega) z k hr (by omega) h3)
      · have e : rd6 (m : Int) (bs.drop a) = (0, k + z, 0, ((bs.drop a).drop k).take z) := by rw [rd6, if_neg h0, hr, if_neg (by simp), if_neg (by simp only; omega), if_neg (by simp only [drop_len]; omega)]
        rw [e]
        exact fin 0 (k + z) _ (fun h => absurd rfl h) (bytes_ok _ p v bs a h2 _ _ _ hb.1 m hb.2 (by omega) (by omega) z k hr (by omega) (by omega) _ (by rw [List.drop_drop]))
  · have e : rd6 (m : Int) (bs.drop a) = (er, 0, 0, []) := by rw [rd6, if_neg h0, hr, if_pos he]
    rw [e]
    exact fin er 0 [] (fun _ => rfl) (bytes_num _ p v bs a h2 _ _ _ hb.1 m hb.2 er z k hr he)

def StrIs (B : List UInt8) : Nat → World → Value → Prop := fun _ => Just (.string ⟨B.toArray⟩)
theorem on_text {w : World} {p : Nat} {v : Value} {bs : List UInt8} {a : Nat} (h : RdAt w p v bs a 0) (A : Int) (hA : A ≤ 9223372036854775807) :
    Calls Try.prog 183 #[.pointer (some ⟨p, 0, none⟩), .int .i64 A] w (Rds w p v bs a (rd6 A (bs.drop a)) (StrIs (rd6 A (bs.drop a)).2.2.2)) := by
  have h2 : RdAt _ p v bs a 0 := ((h.alloc (.cells #[.pointer (some ⟨p, 0, none⟩)] 57)).alloc (.cells #[.int .i64 A] 3)).alloc (.cells #[.string { data := #[] }] 9)
  have hb := beside1 h 57 3 9 A (.string { data := #[] })
  have hp := h.cells.lt
  have fin : ∀ (er : Int) (k : Nat) (B : List UInt8), (er ≠ 0 → k = 0) →
      Calls Try.prog 202 #[.pointer (some ⟨w.heap.size + 1, 0, none⟩), .pointer (some ⟨w.heap.size, 0, none⟩), .pointer (some ⟨w.heap.size + 2, 0, none⟩)] (((w.alloc (.cells #[.pointer (some ⟨p, 0, none⟩)] 57)).alloc (.cells #[.int .i64 A] 3)).alloc (.cells #[.string { data := #[] }] 9)) (Clo _ p (w.heap.size + 2) 9 v bs a er k (Just (.string ⟨B.toArray⟩))) →
      Calls Try.prog 183 #[.pointer (some ⟨p, 0, none⟩), .int .i64 A] w (RdEnd w p v bs (a + k) er (Just (.string ⟨B.toArray⟩))) := fun er k B hk H =>
    text_on w p v bs a h A er k _ (fun _ _ _ h _ => h) (fun _ _ h => h) hk (fun _ u h => ⟨_, h⟩) H
  unfold Rds
  obtain ⟨hf1, hf2, hf3⟩ := numL_front (bs.drop a)
  rcases hr : numL (bs.drop a) 0 0 with ⟨er, z, k⟩
  rw [hr] at hf1 hf2 hf3
  simp only at hf1 hf2 hf3
  by_cases h0 : A < 0
  · have e : rd6 A (bs.drop a) = (2, 0, 0, []) := if_pos h0
    rw [e]
    exact fin 2 0 [] (fun _ => rfl) (text_neg _ p v bs a h2 _ _ _ hb.1 A hb.2 h0)
  obtain ⟨m, rfl⟩ := Int.eq_ofNat_of_zero_le (show 0 ≤ A by omega)
  by_cases he : er = 0
  · subst he
    by_cases h1 : m < z
    · have e : rd6 (m : Int) (bs.drop a) = (12, 0, 0, []) := by rw [rd6, if_neg h0, hr, if_neg (by simp), if_pos (by simp only; omega)]
      rw [e]
      exact fin 12 0 [] (fun _ => rfl) (text_over _ p v bs a h2 _ _ _ hb.1 m hb.2 (by omega) (by omega) z k hr h1)
    · by_cases h3 : bs.length - (a + k) < z
      · have e : rd6 (m : Int) (bs.drop a) = (10, 0, 0, []) := by rw [rd6, if_neg h0, hr, if_neg (by simp), if_neg (by simp only; omega), if_pos (by simp only [drop_len]; omega)]
        rw [e]
        exact fin 10 0 [] (fun _ => rfl) (text_short _ p v bs a h2 _ _ _ hb.1 m hb.2 (by omega) (by omega) z k hr (by omega) h3)
      · have e : rd6 (m : Int) (bs.drop a) = (0, k + z, 0, ((bs.drop a).drop k).take z) := by rw [rd6, if_neg h0, hr, if_neg (by simp), if_neg (by simp only; omega), if_neg (by simp only [drop_len]; omega)]
        rw [e]
        exact fin 0 (k + z) _ (fun h => absurd rfl h) (text_ok _ p v bs a h2 _ _ _ hb.1 m hb.2 (by omega) (by omega) z k hr (by omega) (by omega) _ (by rw [List.drop_drop]))
  · have e : rd6 (m : Int) (bs.drop a) = (er, 0, 0, []) := by rw [rd6, if_neg h0, hr, if_pos he]
    rw [e]
    exact fin er 0 [] (fun _ => rfl) (text_num _ p v bs a h2 _ _ _ hb.1 m hb.2 er z k hr he)

theorem on_count {w : World} {p : Nat} {v : Value} {bs : List UInt8} {a : Nat} (h : RdAt w p v bs a 0) (A B : Int) (hA : A ≤ 9223372036854775807) (hB : B ≤ 9223372036854775807) :
    Calls Try.prog 125 #[.pointer (some ⟨p, 0, none⟩), .int .i64 A, .int .i64 B] w (Rds w p v bs a (rd8 A B (bs.drop a)) (NumIs .i64 (rd8 A B (bs.drop a)).2.2.1)) := by
  have h2 : RdAt _ p v bs a 0 := (((h.alloc (.cells #[.pointer (some ⟨p, 0, none⟩)] 57)).alloc (.cells #[.int .i64 A] 3)).alloc (.cells #[.int .i64 B] 3)).alloc (.cells #[.int .i64 0] 3)
  have hb := beside2 h 57 3 3 A B (.int .i64 0)
  have hp := h.cells.lt
  have hfit : bs.length ≤ 1099511627776 := h.fits
  have fin : ∀ (er : Int) (k N : Nat), (er ≠ 0 → k = 0) →
      Calls Try.prog 184 #[.pointer (some ⟨w.heap.size + 1, 0, none⟩), .pointer (some ⟨w.heap.size + 2, 0, none⟩), .pointer (some ⟨w.heap.size, 0, none⟩), .pointer (some ⟨w.heap.size + 3, 0, none⟩)] ((((w.alloc (.cells #[.pointer (some ⟨p, 0, none⟩)] 57)).alloc (.cells #[.int .i64 A] 3)).alloc (.cells #[.int .i64 B] 3)).alloc (.cells #[.int .i64 0] 3)) (Clo _ p (w.heap.size + 3) 3 v bs a er k (Just (.int .i64 N))) →
      Calls Try.prog 125 #[.pointer (some ⟨p, 0, none⟩), .int .i64 A, .int .i64 B] w (RdEnd w p v bs (a + k) er (Just (.int .i64 N))) := fun er k N hk H =>
    count_on w p v bs a h A B er k _ (fun _ _ _ h _ => h) (fun _ _ h => h) hk (fun _ u h => ⟨_, h⟩) H
  unfold Rds
  obtain ⟨hf1, hf2, hf3⟩ := numL_front (bs.drop a)
  rcases hr : numL (bs.drop a) 0 0 with ⟨er, z, k⟩
  rw [hr] at hf1 hf2 hf3
  simp only at hf1 hf2 hf3
  by_cases h0 : A < 0 ∨ B < 0
  · have e : rd8 A B (bs.drop a) = (2, 0, 0, []) := if_pos h0
    rw [e]
    exact fin 2 0 0 (fun _ => rfl) (count_neg _ p v bs a h2 _ _ _ _ hb.1 A B hb.2.1 hb.2.2 h0)
  obtain ⟨m, rfl⟩ := Int.eq_ofNat_of_zero_le (show 0 ≤ A by omega)
  obtain ⟨l, rfl⟩ := Int.eq_ofNat_of_zero_le (show 0 ≤ B by omega)
  by_cases he : er = 0
  · subst he
    by_cases h1 : m < z
    · have e : rd8 (m : Int) (l : Int) (bs.drop a) = (12, 0, 0, []) := by rw [rd8, if_neg h0, hr, if_neg (by simp), if_pos (by simp only; omega)]
      rw [e]
      exact fin 12 0 0 (fun _ => rfl) (count_over _ p v bs a h2 _ _ _ _ hb.1 m l hb.2.1 hb.2.2 (by omega) (by omega) z k hr h1)
    · by_cases h3 : bs.length - (a + k) < z * l
      · have e : rd8 (m : Int) (l : Int) (bs.drop a) = (10, 0, 0, []) := by rw [rd8, if_neg h0, hr, if_neg (by simp), if_neg (by simp only; omega), if_pos (by simp only [drop_len, Int.toNat_natCast, Nat.sub_sub]; exact h3)]
        rw [e]
        by_cases h4 : z * l < 18446744073709551616
        · exact fin 10 0 0 (fun _ => rfl) (count_short _ p v bs a h2 _ _ _ _ hb.1 m l hb.2.1 hb.2.2 (by omega) (by omega) (by omega) (by omega) z k hr (by omega) h4 h3)
        · exact fin 10 0 0 (fun _ => rfl) (count_big _ p v bs a h2 _ _ _ _ hb.1 m l hb.2.1 hb.2.2 (by omega) (by omega) (by omega) (by omega) z k hr (by omega) (by omega))
      · have e : rd8 (m : Int) (l : Int) (bs.drop a) = (0, k, z, []) := by rw [rd8, if_neg h0, hr, if_neg (by simp), if_neg (by simp only; omega), if_neg (by simp only [drop_len, Int.toNat_natCast, Nat.sub_sub]; exact h3)]
        rw [e]
        exact fin 0 k z (fun h => absurd rfl h) (count_ok _ p v bs a h2 _ _ _ _ hb.1 m l hb.2.1 hb.2.2 (by omega) (by omega) (by omega) (by omega) z k hr (by omega) (by omega) (by omega))
  · have e : rd8 (m : Int) (l : Int) (bs.drop a) = (er, 0, 0, []) := by rw [rd8, if_neg h0, hr, if_pos he]
    rw [e]
    exact fin er 0 0 (fun _ => rfl) (count_num _ p v bs a h2 _ _ _ _ hb.1 m l hb.2.1 hb.2.2 er z k hr he)
end Go.Proofs.Ytdgagpoeefbdjaa
