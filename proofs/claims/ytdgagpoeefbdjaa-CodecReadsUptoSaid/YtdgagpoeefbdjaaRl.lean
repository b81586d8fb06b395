/- The contract of the law's 'read', whatever is read; At, Left, Err, End, NewReader. Conditions: the numbers are ints. -/
import Derived.Test.YtdgagpoeefbdjaaRa
namespace Go.Proofs.Ytdgagpoeefbdjaa
open Go.RowKit

/-- a number within int -/
def IsInt64 (k : Int) : Prop := -9223372036854775808 ≤ k ∧ k ≤ 9223372036854775807

/-- The end of the law's 'read'. -/
def LawRead (w : World) (p : Nat) (v : Value) (bs : List UInt8) (a : Nat) (r : Rd) (e : Ending) (w' : World) : Prop :=
  ∃ x, e = .returned (.agg #[.int .u64 (r.2.2.1 : Nat), x]) ∧ Fresh w.heap.size r.2.2.2 w' x ∧ RdAt w' p v bs (a + r.2.1) r.1 ∧ Ext (One p) w w'
/-- The end of it where nothing is read. -/
def LawOff (w : World) (e : Ending) (w' : World) : Prop := ∃ x, e = .returned (.agg #[.int .u64 0, x]) ∧ Fresh w.heap.size [] w' x ∧ Ext Nil w w'

theorem inRead_ext (w : World) (K A B : Int) : Ext Nil w (inRead w K A B) := ((Ext.refl _ _).alloc _).alloc _
theorem inRead_size (w : World) (K A B : Int) : (inRead w K A B).heap.size = w.heap.size + 2 := by simp [inRead]
theorem fresh_nil (S : Nat) (w : World) : Fresh S [] w (.slice none 0 0) := ⟨none, 0, Nat.le_refl _, by simp [maxLen], rfl, Own.nil _ _ _, fun k hk => by simp [inFoot, foot] at hk⟩

/-- what stands behind a method's call, at a made reader -/
def OnW (w2 : World) (p : Nat) (v : Value) (bs : List UInt8) (a' : Nat) (er : Int) (w1 : World) : Prop := RdAt w1 p v bs a' er ∧ Ext (One p) w2 w1
theorem OnW.small {w : World} {K A B : Int} {p : Nat} (hp : p < w.heap.size) {v : Value} {bs : List UInt8} {a' : Nat} {er : Int} {w1 : World} (h : OnW (inRead w K A B) p v bs a' er w1) : Ext (fun k => k < w.heap.size) (inRead w K A B) w1 :=
  h.2.mono fun k _ e => by have e : k = p := e; omega

theorem got_on {w : World} {K A B : Int} {p : Nat} {v : Value} {bs : List UInt8} {a : Nat} (h : RdAt w p v bs a 0) {r : Rd} {n : Nat} {x : Value} {w1 w' : World} (hn : n = r.2.2.1) (hx : Fresh w.heap.size r.2.2.2 w1 x) (ho : OnW (inRead w K A B) p v bs (a + r.2.1) r.1 w1) (he : Ext (One (w.heap.size + 1)) w1 w')
    (hfx : ∀ k, inFoot x k → k ≠ w.heap.size + 1) : LawRead w p v bs a r (.returned (.agg #[.int .u64 n, x])) w' := by
  subst hn
  have hp := h.cells.lt
  have hv := h.lt
  refine ⟨x, rfl, ?_, ho.1.ext he fun k hk e => ?_, ?_⟩
  · obtain ⟨ao, cap, h1, h2, rfl, h3, h4⟩ := hx
    exact ⟨ao, cap, h1, h2, rfl, h3.ext he fun k hk e => hfx k hk e, h4⟩
  · have e : k = w.heap.size + 1 := e
    rcases hk with hk | hk
    · omega
    · have := hv k hk; omega
  · have e1 : Ext (fun k => k = p ∨ w.heap.size ≤ k) w w1 := ((inRead_ext w K A B).mono fun _ _ h => h.elim).trans ho.2 fun i _ hi => .inl hi
    exact (e1.trans he fun i _ hi => .inr (by have hi : i = w.heap.size + 1 := hi; omega)).mono fun k hk h => h.resolve_right (by omega)

theorem off_got {w : World} {K A B : Int} {n : Nat} {x : Value} {w1 w' : World} (hn : n = 0) (hx : Fresh w.heap.size [] w1 x) (ho : Ext Nil (inRead w K A B) w1) (he : Ext (One (w.heap.size + 1)) w1 w') (hfx : ∀ k, inFoot x k → k ≠ w.heap.size + 1) : LawOff w (.returned (.agg #[.int .u64 n, x])) w' := by
  subst hn
  refine ⟨x, rfl, ?_, ?_⟩
  · obtain ⟨ao, cap, h1, h2, rfl, h3, h4⟩ := hx
    exact ⟨ao, cap, h1, h2, rfl, h3.ext he fun k hk e => hfx k hk e, h4⟩
  · have e1 : Ext (fun k => w.heap.size ≤ k) w w1 := ((inRead_ext w K A B).trans ho fun i _ hi => hi).mono fun _ _ h => h.elim
    exact (e1.trans he fun i _ hi => by have hi : i = w.heap.size + 1 := hi; omega).mono fun k hk h => by omega

theorem Rds.num {w : World} {p : Nat} {v : Value} {bs : List UInt8} {a : Nat} {r : Rd} {k : IntKind} {M : Nat} (hM : r.2.2.1 ≤ M) {e : Ending} {w' : World} (h : Rds w p v bs a r (NumIs k r.2.2.1) e w') : GivesN k M (fun n w1 => n = r.2.2.1 ∧ OnW w p v bs (a + r.2.1) r.1 w1) e w' := by
  obtain ⟨u, rfl, hu, h1, h2⟩ := h
  have hu : u = _ := hu
  subst hu
  exact ⟨_, rfl, hM, rfl, h1, h2⟩
theorem Rds.bytes {w : World} {p : Nat} {v : Value} {bs : List UInt8} {a : Nat} {r : Rd} {e : Ending} {w' : World} (h : Rds w p v bs a r (BytesAre r.2.2.2) e w') : GivesB (fun x w1 => Fresh w.heap.size r.2.2.2 w1 x ∧ OnW w p v bs (a + r.2.1) r.1 w1) e w' := by
  obtain ⟨u, rfl, hu, h1, h2⟩ := h
  have hu' := hu
  obtain ⟨ao, cap, _, _, rfl, _⟩ := hu'
  exact ⟨ao, _, cap, rfl, hu, h1, h2⟩
theorem Rds.str {w : World} {p : Nat} {v : Value} {bs : List UInt8} {a : Nat} {r : Rd} {e : Ending} {w' : World} (h : Rds w p v bs a r (StrIs r.2.2.2) e w') : GivesS (fun s w1 => s = ⟨r.2.2.2.toArray⟩ ∧ OnW w p v bs (a + r.2.1) r.1 w1) e w' := by
  obtain ⟨u, rfl, hu, h1, h2⟩ := h
  have hu : u = _ := hu
  subst hu
  exact ⟨_, rfl, rfl, h1, h2⟩

theorem rd1_bit (rest : List UInt8) : ((rd1 rest).2.2.1 == 1).toNat = (rd1 rest).2.2.1 := by
  unfold rd1
  split
  · rfl
  · next x t =>
    split
    · next h =>
      simp only
      have : x.toNat = 0 ∨ x.toNat = 1 := by omega
      rcases this with h | h <;> simp [h]
    · rfl
theorem rdF_lt (n : Nat) (rest : List UInt8) : (rdF n rest).2.2.1 < 256 ^ n := by
  unfold rdF
  split
  · have := leN_lt (rest.take n)
    rwa [List.length_take, Nat.min_eq_left (by assumption)] at this
  · exact Nat.pow_pos (by omega)
theorem rd0_lt (rest : List UInt8) : (rd0 rest).2.2.1 ≤ 255 := by
  unfold rd0
  split
  · simp
  · next x t => have := x.toNat_lt; simp only; omega
theorem rd4_lt (rest : List UInt8) : (rd4 rest).2.2.1 ≤ 18446744073709551615 := by
  obtain ⟨h1, h2, -⟩ := numL_front rest
  by_cases h : (numL rest 0 0).1 = 0
  · have := (h1 h).1
    show (numL rest 0 0).2.1 ≤ _
    omega
  · show (numL rest 0 0).2.1 ≤ _
    rw [h2 h]
    simp
theorem rd8_lt (A B : Int) (rest : List UInt8) (hA : A ≤ 9223372036854775807) : (rd8 A B rest).2.2.1 ≤ 9223372036854775807 := by
  unfold rd8
  split
  · simp
  · split
    · simp
    · split
      · simp
      · split
        · simp
        · simp only; omega
theorem rd0_noB (rest : List UInt8) : (rd0 rest).2.2.2 = [] := by unfold rd0; split <;> rfl
theorem rd1_noB (rest : List UInt8) : (rd1 rest).2.2.2 = [] := by
  unfold rd1
  split
  · rfl
  · split <;> rfl
theorem rdF_noB (n : Nat) (rest : List UInt8) : (rdF n rest).2.2.2 = [] := by unfold rdF; split <;> rfl
theorem rd8_noB (A B : Int) (rest : List UInt8) : (rd8 A B rest).2.2.2 = [] := by
  unfold rd8
  repeat' split
  all_goals rfl
theorem rd_noB (K A B : Int) (rest : List UInt8) (h : K ≠ 5 ∧ K ≠ 6 ∧ K ≠ 7) : (rdD K A B rest).2.2.2 = [] := by
  unfold rdD
  split
  · exact rd0_noB _
  split
  · exact rd1_noB _
  split
  · exact rdF_noB _ _
  split
  · exact rdF_noB _ _
  split
  · rfl
  split
  · omega
  split
  · omega
  · exact rd8_noB _ _ _
theorem rd_noN (A : Int) (rest : List UInt8) : (rd5 A rest).2.2.1 = 0 ∧ (rd6 A rest).2.2.1 = 0 := by
  unfold rd5 rd6
  constructor
  all_goals repeat' split
  all_goals rfl

theorem rd6_len (A : Int) (rest : List UInt8) : (rd6 A rest).2.2.2.length ≤ rest.length := by
  unfold rd6
  repeat' split
  all_goals simp
  omega
theorem fresh_str (w0 : World) (B : List UInt8) (hB : B.length ≤ maxLen) : Fresh w0.heap.size B (strWorld w0 ⟨B.toArray⟩) (.slice (some ⟨w0.heap.size, 0, none⟩) (ByteArray.mk B.toArray).size (grownCap w0 (ByteArray.mk B.toArray).size 0 5)) := by
  have hs : (ByteArray.mk B.toArray).size = B.length := by simp [ByteArray.size]
  have h := OwnB.ofString w0 ⟨B.toArray⟩ (by omega)
  have hst := Step.ofString w0 ⟨B.toArray⟩ B.length
  have hge := grownCap_ge w0 B.length 0 5
  have hle := grownCap_le_maxLen w0 B.length 0 5 hB
  rw [hs] at h hst ⊢
  exact ⟨_, _, hge, hle, rfl, h, fun k hk => (hst.2 k hk).resolve_left fun h => h⟩

theorem law_read {w : World} {p : Nat} {v : Value} {bs : List UInt8} {a : Nat} (h : RdAt w p v bs a 0) (K A B : Int) (hK : IsInt64 K) (hA : IsInt64 A) (hB : IsInt64 B) :
    Calls Try.prog 45 #[.pointer (some ⟨p, 0, none⟩), getV K A B] w (LawRead w p v bs a (rdD (K % 9) A B (bs.drop a))) := by
  have h2 : RdAt (inRead w K A B) p v bs a 0 := h.ext (inRead_ext w K A B) fun _ _ h => h
  have hsz := inRead_size w K A B
  have hp := h.cells.lt
  have h9 : K % 9 = 0 ∨ K % 9 = 1 ∨ K % 9 = 2 ∨ K % 9 = 3 ∨ K % 9 = 4 ∨ K % 9 = 5 ∨ K % 9 = 6 ∨ K % 9 = 7 ∨ K % 9 = 8 := by omega
  have nofoot : ∀ (q : Nat), ∀ k, inFoot (.slice none 0 0) k → k ≠ q := fun q k hk => by simp [inFoot, foot] at hk
  rcases h9 with hk | hk | hk | hk | hk | hk | hk | hk | hk
  · rw [hk]
    refine (read_byte w _ K A B hK.1 hK.2 hk _ (fun n w' hq => hq.2.small hp) ((on_byte h2).mono fun e w' hm => hm.num (rd0_lt _))).mono ?_
    rintro e w' ⟨n, x, w1, rfl, ⟨rfl, hn, ho⟩, he⟩
    refine got_on h hn ?_ ho he (nofoot _)
    exact (show (rd0 (bs.drop a)).2.2.2 = [] from rd0_noB _) ▸ fresh_nil _ _
  · rw [hk]
    refine (read_bool w _ K A B hK.1 hK.2 hk (fun n w1 => n = (rd1 (bs.drop a)).2.2.1 ∧ OnW (inRead w K A B) p v bs (a + (rd1 (bs.drop a)).2.1) (rd1 (bs.drop a)).1 w1) (fun n w' hq => hq.2.small hp) ((on_bool h2).mono ?_)).mono ?_
    · rintro e w' ⟨u, rfl, hu, h1, h2⟩
      have hu : u = _ := hu
      subst hu
      exact ⟨_, rfl, rd1_bit _, h1, h2⟩
    · rintro e w' ⟨n, x, w1, rfl, ⟨rfl, hn, ho⟩, he⟩
      refine got_on h hn ?_ ho he (nofoot _)
      have e : (rdD 1 A B (bs.drop a)).2.2.2 = [] := rd_noB 1 A B _ (by omega)
      exact (show (rd1 (bs.drop a)).2.2.2 = [] from e) ▸ fresh_nil _ _
  · rw [hk]
    refine (read_u32 w _ K A B hK.1 hK.2 hk _ (fun n w' hq => hq.2.small hp) (U32_of _ _ _ ((on_fixed h2 4 (by omega)).mono fun e w' hm => hm.num (by have := rdF_lt 4 (bs.drop a); omega)))).mono ?_
    rintro e w' ⟨n, x, w1, rfl, ⟨rfl, hn, ho⟩, he⟩
    refine got_on h hn ?_ ho he (nofoot _)
    exact (show (rdF 4 (bs.drop a)).2.2.2 = [] from rd_noB 2 A B _ (by omega)) ▸ fresh_nil _ _
  · rw [hk]
    refine (read_u64 w _ K A B hK.1 hK.2 hk _ (fun n w' hq => hq.2.small hp) (U64_of _ _ _ ((on_fixed h2 8 (by omega)).mono fun e w' hm => hm.num (by have := rdF_lt 8 (bs.drop a); omega)))).mono ?_
    rintro e w' ⟨n, x, w1, rfl, ⟨rfl, hn, ho⟩, he⟩
    refine got_on h hn ?_ ho he (nofoot _)
    exact (show (rdF 8 (bs.drop a)).2.2.2 = [] from rd_noB 3 A B _ (by omega)) ▸ fresh_nil _ _
  · rw [hk]
    refine (read_var w _ K A B hK.1 hK.2 hk _ (fun n w' hq => hq.2.small hp) ((on_var h2).mono fun e w' hm => hm.num (rd4_lt _))).mono ?_
    rintro e w' ⟨n, x, w1, rfl, ⟨rfl, hn, ho⟩, he⟩
    exact got_on h hn (fresh_nil _ _) ho he (nofoot _)
  · rw [hk]
    refine (read_raw w _ K A B hK.1 hK.2 hk _ (fun n w' hq => hq.2.small hp) ((on_raw h2 A hA.2).mono fun e w' hm => hm.bytes)).mono ?_
    rintro e w' ⟨n, x, w1, rfl, ⟨hn, hx, ho⟩, he⟩
    exact got_on h (hn.trans (rd_noN A _).1.symm) (hx.le (by omega)) ho he fun k hk => by
      obtain ⟨_, _, _, _, _, _, h4⟩ := hx
      have := h4 k hk
      omega
  · rw [hk]
    refine (read_bytes w _ K A B hK.1 hK.2 hk _ (fun n w' hq => hq.2.small hp) (Bytes_of _ _ _ _ ((on_bytes h2 A hA.2).mono fun e w' hm => hm.bytes))).mono ?_
    rintro e w' ⟨n, x, w1, rfl, ⟨hn, hx, ho⟩, he⟩
    exact got_on h (hn.trans (rd_noN A _).2.symm) (hx.le (by omega)) ho he fun k hk => by
      obtain ⟨_, _, _, _, _, _, h4⟩ := hx
      have := h4 k hk
      omega
  · rw [hk]
    refine (read_text w _ K A B hK.1 hK.2 hk _ (fun n w' hq => hq.2.small hp) (Text_of _ _ _ _ ((on_text h2 A hA.2).mono fun e w' hm => hm.str))).mono ?_
    rintro e w' ⟨n, x, w1, rfl, ⟨hn, s, w0, ⟨hs, ho⟩, rfl, rfl⟩, he⟩
    have hl := rd6_len A (bs.drop a)
    rw [drop_len] at hl
    have hfit : bs.length ≤ 1099511627776 := h.fits
    have hfr := fresh_str w0 (rd6 A (bs.drop a)).2.2.2 (by unfold maxLen; omega)
    subst hs
    have hsz0 := ho.2.size
    have ho2 : OnW (inRead w K A B) p v bs (a + (rd6 A (bs.drop a)).2.1) (rd6 A (bs.drop a)).1 (strWorld w0 ⟨(rd6 A (bs.drop a)).2.2.2.toArray⟩) := ⟨ho.1.ext (strWorld_ext _ _) fun _ _ h => h, ho.2.trans (strWorld_ext _ _) fun _ _ h => h.elim⟩
    exact got_on h (hn.trans (rd_noN A _).2.symm) (hfr.le (by omega)) ho2 he fun k hk => by
      obtain ⟨_, _, _, _, _, _, h4⟩ := hfr
      have := h4 k hk
      omega
  · rw [hk]
    refine (read_count w _ K A B hK.1 hK.2 hk _ (fun n w' hq => hq.2.small hp) ((on_count h2 A B hA.2 hB.2).mono fun e w' hm => hm.num (rd8_lt _ _ _ hA.2))).mono ?_
    rintro e w' ⟨n, x, w1, rfl, ⟨rfl, hn, ho⟩, he⟩
    refine got_on h hn ?_ ho he (nofoot _)
    exact (show (rd8 A B (bs.drop a)).2.2.2 = [] from rd_noB 8 A B _ (by omega)) ▸ fresh_nil _ _

theorem offN {w : World} {k : IntKind} {M : Nat} {e : Ending} {w' : World} (h : OffEnd w (.int k 0) e w') : GivesN k M (fun n w1 => n = 0 ∧ Ext Nil w w1) e w' := ⟨0, h.1, Nat.zero_le _, rfl, h.2⟩
theorem offB {w : World} {e : Ending} {w' : World} (h : OffEnd w (.slice none 0 0) e w') : GivesB (fun x w1 => x = .slice none 0 0 ∧ Ext Nil w w1) e w' := ⟨_, _, _, h.1, rfl, h.2⟩
theorem offS {w : World} {e : Ending} {w' : World} (h : OffEnd w (.string { data := #[] }) e w') : GivesS (fun s w1 => s = { data := #[] } ∧ Ext Nil w w1) e w' := ⟨_, h.1, rfl, h.2⟩

theorem law_off {w : World} {rv : Option Addr} (h : Off w rv) (K A B : Int) (hK : IsInt64 K) : Calls Try.prog 45 #[.pointer rv, getV K A B] w (LawOff w) := by
  have h2 : Off (inRead w K A B) rv := h.ext (inRead_ext w K A B) fun _ _ h => h
  have hsz := inRead_size w K A B
  have h9 : K % 9 = 0 ∨ K % 9 = 1 ∨ K % 9 = 2 ∨ K % 9 = 3 ∨ K % 9 = 4 ∨ K % 9 = 5 ∨ K % 9 = 6 ∨ K % 9 = 7 ∨ K % 9 = 8 := by omega
  have nofoot : ∀ (q : Nat), ∀ k, inFoot (.slice none 0 0) k → k ≠ q := fun q k hk => by simp [inFoot, foot] at hk
  have sm : ∀ w', Ext Nil (inRead w K A B) w' → Ext (fun k => k < w.heap.size) (inRead w K A B) w' := fun w' h => h.mono fun _ _ h => h.elim
  rcases h9 with hk | hk | hk | hk | hk | hk | hk | hk | hk
  · refine (read_byte w _ K A B hK.1 hK.2 hk _ (fun n w' hq => sm w' hq.2) ((byte_methf _ rv h2).mono fun e w' hm => offN hm)).mono ?_
    rintro e w' ⟨n, x, w1, rfl, ⟨rfl, hn, ho⟩, he⟩
    exact off_got hn (fresh_nil _ _) ho he (nofoot _)
  · refine (read_bool w _ K A B hK.1 hK.2 hk (fun n w1 => n = 0 ∧ Ext Nil (inRead w K A B) w1) (fun n w' hq => sm w' hq.2) ((bool_methf _ rv h2).mono fun e w' hm => ⟨false, hm.1, rfl, hm.2⟩)).mono ?_
    rintro e w' ⟨n, x, w1, rfl, ⟨rfl, hn, ho⟩, he⟩
    exact off_got hn (fresh_nil _ _) ho he (nofoot _)
  · refine (read_u32 w _ K A B hK.1 hK.2 hk _ (fun n w' hq => sm w' hq.2) (U32_of _ _ _ ((fixed_methf _ rv 4 h2).mono fun e w' hm => offN hm))).mono ?_
    rintro e w' ⟨n, x, w1, rfl, ⟨rfl, hn, ho⟩, he⟩
    exact off_got hn (fresh_nil _ _) ho he (nofoot _)
  · refine (read_u64 w _ K A B hK.1 hK.2 hk _ (fun n w' hq => sm w' hq.2) (U64_of _ _ _ ((fixed_methf _ rv 8 h2).mono fun e w' hm => offN hm))).mono ?_
    rintro e w' ⟨n, x, w1, rfl, ⟨rfl, hn, ho⟩, he⟩
    exact off_got hn (fresh_nil _ _) ho he (nofoot _)
  · refine (read_var w _ K A B hK.1 hK.2 hk _ (fun n w' hq => sm w' hq.2) ((var_methf _ rv h2).mono fun e w' hm => offN hm)).mono ?_
    rintro e w' ⟨n, x, w1, rfl, ⟨rfl, hn, ho⟩, he⟩
    exact off_got hn (fresh_nil _ _) ho he (nofoot _)
  · refine (read_raw w _ K A B hK.1 hK.2 hk _ (fun n w' hq => sm w' hq.2) ((raw_methf _ rv A h2).mono fun e w' hm => offB hm)).mono ?_
    rintro e w' ⟨n, x, w1, rfl, ⟨hn, rfl, ho⟩, he⟩
    exact off_got hn (fresh_nil _ _) ho he (nofoot _)
  · refine (read_bytes w _ K A B hK.1 hK.2 hk _ (fun n w' hq => sm w' hq.2) (Bytes_of _ _ _ _ ((bytes_methf _ rv A h2).mono fun e w' hm => offB hm))).mono ?_
    rintro e w' ⟨n, x, w1, rfl, ⟨hn, rfl, ho⟩, he⟩
    exact off_got hn (fresh_nil _ _) ho he (nofoot _)
  · refine (read_text w _ K A B hK.1 hK.2 hk _ (fun n w' hq => sm w' hq.2) (Text_of _ _ _ _ ((text_methf _ rv A h2).mono fun e w' hm => offS hm))).mono ?_
    rintro e w' ⟨n, x, w1, rfl, ⟨hn, s, w0, ⟨rfl, ho⟩, rfl, rfl⟩, he⟩
    have hfr := fresh_str w0 [] (by simp [maxLen])
    have hs0 := ho.size
    exact off_got hn (hfr.le (by omega)) (ho.same (strWorld_ext _ _)) he fun k hk => by
      obtain ⟨_, _, _, _, _, _, h4⟩ := hfr
      have := h4 k hk
      omega
  · refine (read_count w _ K A B hK.1 hK.2 hk _ (fun n w' hq => sm w' hq.2) ((count_methf _ rv A B h2).mono fun e w' hm => offN hm)).mono ?_
    rintro e w' ⟨n, x, w1, rfl, ⟨rfl, hn, ho⟩, he⟩
    exact off_got hn (fresh_nil _ _) ho he (nofoot _)

theorem RdAt.off {w : World} {p : Nat} {v : Value} {bs : List UInt8} {a : Nat} {err : Int} (h : RdAt w p v bs a err) (he : err ≠ 0) : Off w (some ⟨p, 0, none⟩) :=
  .inr ⟨p, true, v, .int .i64 a, err, rfl, h.cells.cell 0 rfl, h.cells.cell 1 rfl, h.cells.cell 2 rfl, h.cells.cell 3 rfl, .inr ⟨rfl, he⟩⟩

/-- THE CONTRACT of the law's 'read' at a reader that New made, with or without an error. -/
theorem law_any {w : World} {p : Nat} {v : Value} {bs : List UInt8} {a : Nat} {err : Int} (h : RdAt w p v bs a err) (K A B : Int) (hK : IsInt64 K) (hA : IsInt64 A) (hB : IsInt64 B) :
    Calls Try.prog 45 #[.pointer (some ⟨p, 0, none⟩), getV K A B] w (LawRead w p v bs a (rdE err (K % 9) A B (bs.drop a))) := by
  by_cases he : err = 0
  · subst he
    have e : rdE 0 (K % 9) A B (bs.drop a) = rdD (K % 9) A B (bs.drop a) := if_pos rfl
    rw [e]
    exact law_read h K A B hK hA hB
  · have e : rdE err (K % 9) A B (bs.drop a) = (err, 0, 0, []) := if_neg he
    rw [e]
    refine (law_off (h.off he) K A B hK).mono ?_
    rintro e w' ⟨x, rfl, hx, hw⟩
    exact ⟨x, rfl, hx, h.ext hw fun _ _ h => h, hw.mono fun _ _ h => h.elim⟩
end Go.Proofs.Ytdgagpoeefbdjaa
