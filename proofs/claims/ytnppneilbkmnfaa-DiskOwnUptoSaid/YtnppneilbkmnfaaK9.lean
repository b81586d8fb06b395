/- A disk of the program beside one of the document: what it is that both stand, apart; what each call of either leaves of both. Condition: both stand. | The law's Pair.writes: Append, Sync, Replace, Cut, Remove at both disks. Condition: both stand at the same plain disk, apart; what is read is none of theirs. | The law's handed: an image in new memory, with marks behind its files and behind the bytes of each. Condition: the image can be read. | The law's untouched at what handed gave, as it was. -/
import Derived.Test.YtnppneilbkmnfaaK7
import Derived.Test.YtnppneilbkmnfaaK4
import Derived.Test.YtnppneilbkmnfaaK8
namespace Go.Proofs.Ytnppneilbkmnfaa
open Go.RowKit

/-- the program's disk stands at D, the document's at E, and their blocks together are K -/
def PQ (w : World) (d q : Nat) (D E : Dk) (K : Nat → Prop) : Prop := ∃ F G, Disk w d D F ∧ QDisk w q E G ∧ (∀ k, F k → ¬ G k) ∧ ∀ k, K k ↔ F k ∨ G k
theorem PQ.ext {X : Nat → Prop} {w w' : World} {d q : Nat} {D E : Dk} {K : Nat → Prop} (h : PQ w d q D E K) (e : Ext X w w') (hx : ∀ k, K k → ¬ X k) : PQ w' d q D E K := by
  obtain ⟨F, G, h1, h2, h3, h4⟩ := h
  exact ⟨F, G, h1.ext e fun k hk => hx k ((h4 k).2 (.inl hk)), h2.ext e fun k hk => hx k ((h4 k).2 (.inr hk)), h3, h4⟩
theorem PQ.ext0 {w w' : World} {d q : Nat} {D E : Dk} {K : Nat → Prop} (h : PQ w d q D E K) (e : Ext Nil w w') : PQ w' d q D E K := h.ext e fun _ _ h => h
theorem PQ.lt {w : World} {d q : Nat} {D E : Dk} {K : Nat → Prop} (h : PQ w d q D E K) : ∀ k, K k → k < w.heap.size := by
  obtain ⟨F, G, h1, h2, h3, h4⟩ := h
  intro k hk
  exact ((h4 k).1 hk).elim (h1.lt k) (h2.lt k)
theorem PQ.d {w : World} {d q : Nat} {D E : Dk} {K : Nat → Prop} (h : PQ w d q D E K) : K d := by
  obtain ⟨F, G, h1, h2, h3, h4⟩ := h
  exact (h4 d).2 (.inl h1.self)
theorem PQ.q {w : World} {d q : Nat} {D E : Dk} {K : Nat → Prop} (h : PQ w d q D E K) : K q := by
  obtain ⟨F, G, h1, h2, h3, h4⟩ := h
  exact (h4 q).2 (.inr h2.self)
/-- what a call that acts on one of the two leaves -/
def PActed (w : World) (d q : Nat) (K : Nat → Prop) (D E : Dk) (r : Int) (e : Ending) (w' : World) : Prop := e = .returned (.int .i64 r) ∧ ∃ K', PQ w' d q D E K' ∧ Step K w K' w'
theorem PQ.first {w : World} {d q : Nat} {D E : Dk} {K : Nat → Prop} (h : PQ w d q D E K) : ∃ F, Disk w d D F ∧ (∀ k, F k → K k) ∧ ∀ r e w', Acted w d F r e w' → PActed w d q K r.1 E r.2 e w' := by
  obtain ⟨F, G, h1, h2, h3, h4⟩ := h
  refine ⟨F, h1, fun k hk => (h4 k).2 (.inl hk), ?_⟩
  rintro r e w' ⟨he, F', hD, hS⟩
  refine ⟨he, fun k => F' k ∨ G k, ⟨F', G, hD, h2.ext hS.1 fun k hg hf => h3 k hf hg, fun k hf hg => ?_, fun k => Iff.rfl⟩, hS.1.mono fun k _ hf => (h4 k).2 (.inl hf), fun k hk => ?_⟩
  · rcases hS.2 k hf with h | h
    · exact h3 k h hg
    · have := h2.lt k hg
      omega
  · rcases hk with hf | hg
    · exact (hS.2 k hf).imp (fun h => (h4 k).2 (.inl h)) id
    · exact .inl ((h4 k).2 (.inr hg))
theorem PQ.second {w : World} {d q : Nat} {D E : Dk} {K : Nat → Prop} (h : PQ w d q D E K) : ∃ G, QDisk w q E G ∧ (∀ k, G k → K k) ∧ ∀ r e w', QActed w q G r e w' → PActed w d q K D r.1 r.2 e w' := by
  obtain ⟨F, G, h1, h2, h3, h4⟩ := h
  refine ⟨G, h2, fun k hk => (h4 k).2 (.inr hk), ?_⟩
  rintro r e w' ⟨he, G', hD, hS⟩
  refine ⟨he, fun k => F k ∨ G' k, ⟨F, G', h1.ext hS.1 fun k hf hg => h3 k hf hg, hD, fun k hf hg => ?_, fun k => Iff.rfl⟩, hS.1.mono fun k _ hf => (h4 k).2 (.inr hf), fun k hk => ?_⟩
  · rcases hS.2 k hg with h | h
    · exact h3 k hf h
    · have := h1.lt k hf
      omega
  · rcases hk with hf | hg
    · exact .inl ((h4 k).2 (.inl hf))
    · exact (hS.2 k hg).imp (fun h => (h4 k).2 (.inr h)) id

section
variable {w : World} {d q : Nat} {D E : Dk} {K : Nat → Prop} (h : PQ w d q D E K)
include h
theorem pq_append (hc : D.calls ≤ 1099511627776) (s : ByteArray) (hs : s.size ≤ maxLen) (x : Value) (b : List UInt8) (hx : Bytes w x b) (hxK : ∀ k, inFoot x k → ¬ K k) (hb : b.length ≤ 549755813888) :
    Calls Try.prog 20 #[.pointer (some ⟨d, 0, none⟩), .string s, x] w (PActed w d q K (D.append s.data.toList b).1 E (D.append s.data.toList b).2) := by
  obtain ⟨F, h1, h2, h3⟩ := h.first
  exact (append_m w d D F h1 hc s hs x b hx (fun k hk hf => hxK k hk (h2 k hf)) hb).mono fun e w' hq => h3 _ e w' hq
theorem pq_sync (hc : D.calls ≤ 1099511627776) (s : ByteArray) (hs : s.size ≤ maxLen) :
    Calls Try.prog 65 #[.pointer (some ⟨d, 0, none⟩), .string s] w (PActed w d q K (D.sync s.data.toList).1 E (D.sync s.data.toList).2) := by
  obtain ⟨F, h1, h2, h3⟩ := h.first
  exact (sync_m w d D F h1 hc s hs).mono fun e w' hq => h3 _ e w' hq
theorem pq_replace (hc : D.calls ≤ 1099511627776) (s : ByteArray) (hs : s.size ≤ maxLen) (x : Value) (b : List UInt8) (hx : Bytes w x b) (hxK : ∀ k, inFoot x k → ¬ K k) (hb : b.length ≤ 549755813888) :
    Calls Try.prog 52 #[.pointer (some ⟨d, 0, none⟩), .string s, x] w (PActed w d q K (D.replace s.data.toList b).1 E (D.replace s.data.toList b).2) := by
  obtain ⟨F, h1, h2, h3⟩ := h.first
  exact (replace_m w d D F h1 hc s hs x b hx (fun k hk hf => hxK k hk (h2 k hf)) hb).mono fun e w' hq => h3 _ e w' hq
theorem pq_cut (hc : D.calls ≤ 1099511627776) (s : ByteArray) (hs : s.size ≤ maxLen) (n : Int) :
    Calls Try.prog 66 #[.pointer (some ⟨d, 0, none⟩), .string s, .int .i64 n] w (PActed w d q K (D.cut s.data.toList n).1 E (D.cut s.data.toList n).2) := by
  obtain ⟨F, h1, h2, h3⟩ := h.first
  exact (cut_m w d D F h1 hc s hs n).mono fun e w' hq => h3 _ e w' hq
theorem pq_remove (hc : D.calls ≤ 1099511627776) (s : ByteArray) (hs : s.size ≤ maxLen) :
    Calls Try.prog 67 #[.pointer (some ⟨d, 0, none⟩), .string s] w (PActed w d q K (D.remove s.data.toList).1 E (D.remove s.data.toList).2) := by
  obtain ⟨F, h1, h2, h3⟩ := h.first
  exact (remove_m w d D F h1 hc s hs).mono fun e w' hq => h3 _ e w' hq
theorem pq_arm (hc : D.calls ≤ 1099511627776) (ha : D.arms.length ≤ 1099511627776) (a k : Int) (b : Bool) :
    Calls Try.prog 19 #[.pointer (some ⟨d, 0, none⟩), .agg #[.int .i64 a, .int .i64 k, .bool b]] w (PActed w d q K (D.arm a k b).1 E (D.arm a k b).2) := by
  obtain ⟨F, h1, h2, h3⟩ := h.first
  exact (arm_m w d D F h1 hc ha a k b).mono fun e w' hq => h3 _ e w' hq
theorem qq_append (hc : E.calls ≤ 1099511627776) (ha : E.arms.length ≤ 1099511627776) (s : ByteArray) (hs : s.size ≤ maxLen) (x : Value) (b : List UInt8) (hx : Bytes w x b) (hxK : ∀ k, inFoot x k → ¬ K k) (hb : b.length ≤ 549755813888) :
    Calls Try.prog 51 #[.pointer (some ⟨q, 0, none⟩), .string s, x] w (PActed w d q K D (E.append s.data.toList b).1 (E.append s.data.toList b).2) := by
  obtain ⟨G, h1, h2, h3⟩ := h.second
  exact (qappend_m w q E G h1 hc ha s hs x b hx (fun k hk e => hxK k hk (by rw [e]; exact h.q)) hb).mono fun e w' hq => h3 _ e w' hq
theorem qq_sync (hc : E.calls ≤ 1099511627776) (ha : E.arms.length ≤ 1099511627776) (s : ByteArray) (hs : s.size ≤ maxLen) :
    Calls Try.prog 99 #[.pointer (some ⟨q, 0, none⟩), .string s] w (PActed w d q K D (E.sync s.data.toList).1 (E.sync s.data.toList).2) := by
  obtain ⟨G, h1, h2, h3⟩ := h.second
  exact (qsync_m w q E G h1 hc ha s hs).mono fun e w' hq => h3 _ e w' hq
theorem qq_replace (hc : E.calls ≤ 1099511627776) (ha : E.arms.length ≤ 1099511627776) (s : ByteArray) (hs : s.size ≤ maxLen) (x : Value) (b : List UInt8) (hx : Bytes w x b) (hxK : ∀ k, inFoot x k → ¬ K k) (hb : b.length ≤ 549755813888) :
    Calls Try.prog 53 #[.pointer (some ⟨q, 0, none⟩), .string s, x] w (PActed w d q K D (E.replace s.data.toList b).1 (E.replace s.data.toList b).2) := by
  obtain ⟨G, h1, h2, h3⟩ := h.second
  exact (qreplace_m w q E G h1 hc ha s hs x b hx (fun k hk e => hxK k hk (by rw [e]; exact h.q)) hb).mono fun e w' hq => h3 _ e w' hq
theorem qq_cut (hc : E.calls ≤ 1099511627776) (ha : E.arms.length ≤ 1099511627776) (s : ByteArray) (hs : s.size ≤ maxLen) (n : Int) :
    Calls Try.prog 100 #[.pointer (some ⟨q, 0, none⟩), .string s, .int .i64 n] w (PActed w d q K D (E.cut s.data.toList n).1 (E.cut s.data.toList n).2) := by
  obtain ⟨G, h1, h2, h3⟩ := h.second
  exact (qcut_m w q E G h1 hc ha s hs n).mono fun e w' hq => h3 _ e w' hq
theorem qq_remove (hc : E.calls ≤ 1099511627776) (ha : E.arms.length ≤ 1099511627776) (s : ByteArray) (hs : s.size ≤ maxLen) :
    Calls Try.prog 101 #[.pointer (some ⟨q, 0, none⟩), .string s] w (PActed w d q K D (E.remove s.data.toList).1 (E.remove s.data.toList).2) := by
  obtain ⟨G, h1, h2, h3⟩ := h.second
  exact (qremove_m w q E G h1 hc ha s hs).mono fun e w' hq => h3 _ e w' hq
theorem qq_arm (hc : E.calls ≤ 1099511627776) (ha : E.arms.length ≤ 1099511627776) (a k : Int) (b : Bool) :
    Calls Try.prog 80 #[.pointer (some ⟨q, 0, none⟩), .agg #[.int .i64 a, .int .i64 k, .bool b]] w (PActed w d q K D (E.arm a k b).1 (E.arm a k b).2) := by
  obtain ⟨G, h1, h2, h3⟩ := h.second
  exact (qarm_m w q E G h1 hc ha a k b).mono fun e w' hq => h3 _ e w' hq
theorem pq_read (s : ByteArray) (hs : s.size ≤ maxLen) :
    Calls Try.prog 29 #[.pointer (some ⟨d, 0, none⟩), .string s] w fun e w' => ∃ ao cap, e = .returned (.tuple #[.slice ao (D.bytes s.data.toList).length cap, .int .i64 (D.seek s.data.toList)]) ∧ OwnB w' (.slice ao (D.bytes s.data.toList).length cap) (D.bytes s.data.toList) ∧ Step Nil w (inFoot (.slice ao (D.bytes s.data.toList).length cap)) w' := by
  obtain ⟨F, h1, h2, h3⟩ := h.first
  exact read_m w d D F h1 s hs
theorem qq_read (s : ByteArray) (hs : s.size ≤ maxLen) :
    Calls Try.prog 76 #[.pointer (some ⟨q, 0, none⟩), .string s] w fun e w' => ∃ ao cap, e = .returned (.tuple #[.slice ao (E.bytes s.data.toList).length cap, .int .i64 (E.seek s.data.toList)]) ∧ OwnB w' (.slice ao (E.bytes s.data.toList).length cap) (E.bytes s.data.toList) ∧ Step Nil w (inFoot (.slice ao (E.bytes s.data.toList).length cap)) w' := by
  obtain ⟨G, h1, h2, h3⟩ := h.second
  exact qread_m w q E G h1 s hs
theorem pq_size (s : ByteArray) (hs : s.size ≤ maxLen) :
    Calls Try.prog 68 #[.pointer (some ⟨d, 0, none⟩), .string s] w fun e w' => e = .returned (.tuple #[.int .i64 (D.bytes s.data.toList).length, .int .i64 (D.synced s.data.toList), .int .i64 (D.seek s.data.toList)]) ∧ ∃ n, w' = w.drewN n := by
  obtain ⟨F, h1, h2, h3⟩ := h.first
  exact size_m w d D F h1 s hs
theorem qq_size (s : ByteArray) (hs : s.size ≤ maxLen) :
    Calls Try.prog 77 #[.pointer (some ⟨q, 0, none⟩), .string s] w fun e w' => e = .returned (.tuple #[.int .i64 (E.bytes s.data.toList).length, .int .i64 (E.synced s.data.toList), .int .i64 (E.seek s.data.toList)]) ∧ ∃ n, w' = w.drewN n := by
  obtain ⟨G, h1, h2, h3⟩ := h.second
  exact qsize_m w q E G h1 s hs
theorem pq_names :
    Calls Try.prog 37 #[.pointer (some ⟨d, 0, none⟩)] w fun e w' => ∃ ao cap, e = .returned (.slice ao D.names.length cap) ∧ Own w' 9 1 (.slice ao D.names.length cap) D.names.length (namesV D.names) ∧ Step Nil w (inFoot (.slice ao D.names.length cap)) w' := by
  obtain ⟨F, h1, h2, h3⟩ := h.first
  exact names_m w d D F h1
theorem qq_names :
    Calls Try.prog 40 #[.pointer (some ⟨q, 0, none⟩)] w fun e w' => ∃ ao cap, e = .returned (.slice ao E.names.length cap) ∧ Own w' 9 1 (.slice ao E.names.length cap) E.names.length (namesV E.names) ∧ Step Nil w (inFoot (.slice ao E.names.length cap)) w' := by
  obtain ⟨G, h1, h2, h3⟩ := h.second
  exact qnames_m w q E G h1
theorem pq_on : Calls Try.prog 21 #[.pointer (some ⟨d, 0, none⟩)] w fun e w' => e = .returned (.bool (!D.off)) ∧ w = w' := by
  obtain ⟨F, ⟨mb, av, fbs, h1, -⟩, h2, h3⟩ := h.first
  exact on_at w d mb av fbs D h1
theorem qq_on : Calls Try.prog 79 #[.pointer (some ⟨q, 0, none⟩)] w fun e w' => e = .returned (.bool (!E.off)) ∧ w = w' := by
  obtain ⟨G, ⟨fv, av, fl, h1, -⟩, h2, h3⟩ := h.second
  exact qon_m w q fv av fl E h1
theorem pq_calls : Calls Try.prog 22 #[.pointer (some ⟨d, 0, none⟩)] w fun e w' => e = .returned (.int .i64 D.calls) ∧ w = w' := by
  obtain ⟨F, ⟨mb, av, fbs, h1, -⟩, h2, h3⟩ := h.first
  exact calls_at w d mb av fbs D h1
theorem qq_calls : Calls Try.prog 78 #[.pointer (some ⟨q, 0, none⟩)] w fun e w' => e = .returned (.int .i64 E.calls) ∧ w = w' := by
  obtain ⟨G, ⟨fv, av, fl, h1, -⟩, h2, h3⟩ := h.second
  exact qcalls_m w q fv av fl E h1
theorem PQ.wf : D.Wf ∧ E.Wf := by
  obtain ⟨F, G, ⟨mb, av, fbs, h1, -⟩, ⟨gv, bv, gl, h2, -⟩, -, -⟩ := h
  exact ⟨h1.wf, h2.wf⟩
end
end Go.Proofs.Ytnppneilbkmnfaa
namespace Go.Proofs.Ytnppneilbkmnfaa
open Go.RowKit

/-- what a step leaves of the two disks -/
def Stepped (w : World) (d q : Nat) (K : Nat → Prop) (D : Dk) (e : Ending) (w' : World) : Prop := e = .returned (.bool true) ∧ ∃ K', PQ w' d q D D K' ∧ Step K w K' w'
theorem spoil_n (w : World) (g n cap : Nat) (l : List UInt8) (hn : l.length = n) (hl : OwnB w (.slice (some ⟨g, 0, none⟩) n cap) l) (h0 : 0 < n) (hfit : Fits n) :
    Calls Try.prog 54 #[.slice (some ⟨g, 0, none⟩) n cap] w fun e w' => e = .returned (.tuple #[]) ∧ (∃ l', l'.length = n ∧ OwnB w' (.slice (some ⟨g, 0, none⟩) n cap) l') ∧ Ext (One g) w w' := by
  subst hn
  exact spoil_m w g cap l hl (by intro e; rw [e] at h0; simp at h0) hfit
theorem OwnB.first {w : World} {g n m cap : Nat} {A B : List UInt8} (h : OwnB w (.slice (some ⟨g, 0, none⟩) n cap) (A ++ B)) (hm : A.length = m) : Bytes w (.slice (some ⟨g, 0, none⟩) m cap) A := by
  subst hm
  have hs := h
  obtain ⟨ao, c, e, h1, h2⟩ := Own.shape hs
  simp only [Value.slice.injEq] at e
  obtain ⟨-, e1, rfl⟩ := e
  have hr := h.bytes
  refine ⟨by simp [bvs], _, cap, rfl, ?_, h2, fun hne => ⟨g, 0, rfl, fun j u hj => ?_⟩⟩
  · rw [List.length_append] at e1 h1
    omega
  · have hj' : j < A.length := by
      have := (List.getElem?_eq_some_iff.1 hj).1
      simpa [bvs] using this
    rw [Nat.zero_add, (h.at j (by rw [List.length_append]; omega)).1, ← hj]
    simp [bvs, bv, hj', List.getElem_append_left hj']
theorem PQ.notK {w : World} {d q : Nat} {D E : Dk} {K : Nat → Prop} (h : PQ w d q D E K) {k : Nat} (hk : w.heap.size ≤ k) : ¬ K k := fun e => by have := h.lt k e; omega

set_option maxRecDepth 20000 in
set_option maxHeartbeats 1000000 in
theorem writes1_m (w : World) (d q : Nat) (D : Dk) (K : Nat → Prop) (h : PQ w d q D D K) (o : OpD) (B : List UInt8) (ks : List Int) (ho : OpOk w o B ks) (hoK : ∀ k, inFoot (.slice o.dx o.dn o.dc) k → ¬ K k) (hc : D.calls ≤ 1099511627776) (ha : D.arms.length ≤ 1099511627776) (hb : B.length ≤ 1073741824) (hk : o.K = 1) :
    Calls Try.prog 75 #[.agg #[.pointer (some ⟨d, 0, none⟩), .pointer (some ⟨q, 0, none⟩)], .agg o.cells.toArray] w (Stepped w d q K (D.does o B).1) := by
  obtain ⟨KK, who, s, dx, dn, dc, N, t0, t1, t2, kx, kn, kc, junk⟩ := o
  obtain ⟨hs, hdn, hdata, hdlt, -, -, -, -⟩ := ho
  simp only [] at hs hdn hdata hdlt hoK hk
  subst hk hdn
  have hdef : D.does ⟨1, who, s, dx, B.length, dc, N, t0, t1, t2, kx, kn, kc, junk⟩ B = D.append s.data.toList B := rfl
  rw [hdef]
  unfold OpD.cells
  simp only []
  have e1 : Ext Nil w (w.alloc (.cells #[.pointer (some ⟨d, 0, none⟩), .pointer (some ⟨q, 0, none⟩)] 82 (0, 0))) := (Ext.refl _ _).alloc _
  have a1 := At.new w [.pointer (some ⟨d, 0, none⟩), .pointer (some ⟨q, 0, none⟩)] 82
  obtain ⟨W1, hW1⟩ : ∃ W1, W1 = w.alloc (.cells #[.pointer (some ⟨d, 0, none⟩), .pointer (some ⟨q, 0, none⟩)] 82 (0, 0)) := ⟨_, rfl⟩
  rw [← hW1] at e1
  have s1 : W1.heap.size = w.heap.size + 1 := by rw [hW1]; simp
  have e2 : Ext Nil W1 (W1.alloc (.cells #[.int .i64 1, .int .i64 who, .string s, .slice dx B.length dc, .int .i64 N, .int .i64 t0, .int .i64 t1, .bool t2, .slice kx kn kc, .int .u8 junk] 47 (0, 0))) := (Ext.refl _ _).alloc _
  have a2 := At.new W1 [.int .i64 1, .int .i64 who, .string s, .slice dx B.length dc, .int .i64 N, .int .i64 t0, .int .i64 t1, .bool t2, .slice kx kn kc, .int .u8 junk] 47
  rw [s1] at a2
  have eW := e1.same e2
  have a1 : At (W1.alloc (.cells #[.int .i64 1, .int .i64 who, .string s, .slice dx B.length dc, .int .i64 N, .int .i64 t0, .int .i64 t1, .bool t2, .slice kx kn kc, .int .u8 junk] 47 (0, 0))) w.heap.size 82 _ := (by rw [hW1]; exact a1 : At W1 w.heap.size 82 _).ext e2 fun h => h
  have hRM := room_m _ _ B (hdata.ext eW fun _ _ h => h) (show Fits (B.length + 3) by unfold Fits; omega)
  have hP := h.ext0 eW
  have hX := hdata.ext eW fun _ _ h => h
  have sW : (W1.alloc (.cells #[.int .i64 1, .int .i64 who, .string s, .slice dx B.length dc, .int .i64 N, .int .i64 t0, .int .i64 t1, .bool t2, .slice kx kn kc, .int .u8 junk] 47 (0, 0))).heap.size = w.heap.size + 2 := by simp [s1]
  have HXL := Lib.hid hdlt; have HK0 := Lib.hid h; have EW := Lib.hid eW; have HRM := Lib.hid hRM; have HP := Lib.hid hP; have HX := Lib.hid hX; have HA1 := Lib.hid a1; have HA2 := Lib.hid a2; have HOK := Lib.hid hoK; have HSW := Lib.hid sW
  subst hW1
  have hbn : B.length + 3 ≤ 1073741827 := by omega
  clear h eW hRM hP hX a1 a2 e1 e2 hoK hdata hdlt hdef s1 sW
  have hff : ∀ {i c : Nat} {g : Nat}, inFoot (.slice (some ⟨g, 0, none⟩) i c) = inFoot (.slice (some ⟨g, 0, none⟩) i c) := rfl
  clear hff
  have HBIG := Lib.hid (And.intro hb hbn)
  go_enter Try.func75, Try.ntmps75
  go_wp2_with (first
    | (go_at_call 50; refine (HRM.out).mono ?_; rintro e w3 ⟨g, cap, hg1, hg2, rfl, O3, S3⟩; obtain ⟨cc, rfl⟩ : ∃ cc, cap = cc + 1 := ⟨cap - 1, by omega⟩; have HP3 := Lib.hid (HP.out.ext0 S3.1); have HA13 := Lib.hid (HA1.out.ext S3.1 fun h => h); have HA23 := Lib.hid (HA2.out.ext S3.1 fun h => h); have HX3 := Lib.hid (HX.out.ext S3.1 fun _ _ h => h); have HO3 := Lib.hid O3; have HS3 := Lib.hid S3; have HG3 := Lib.hid (show w.heap.size + 2 ≤ g from by have := (S3.2 g rfl).resolve_left fun h => h; have := HSW.out; omega); have HGL := Lib.hid (show g < w3.heap.size from O3.lt g rfl); have p0 := HA13.out.cell 0 rfl; have p1 := HA13.out.cell 1 rfl; have o0 := HA23.out.cell 0 rfl; have o2 := HA23.out.cell 2 rfl; have o3 := HA23.out.cell 3 rfl; have o4 := HA23.out.cell 4 rfl; clear O3 S3)
    | (go_at_call 20; refine (pq_append HP3.out hc s hs (.slice (some ⟨g, 0, none⟩) B.length (cc + 1)) B (HO3.out.first rfl) (fun i hi => by obtain rfl : i = g := (Option.some.inj hi).symm; exact HK0.out.notK (by have := HG3.out; omega)) (by have := HBIG.out.1; omega)).mono ?_; rintro e w4 ⟨rfl, K4, hP4, hS4⟩; have HN4 := Lib.hid (fun i (h1 : w.heap.size ≤ i) (h2 : i < w3.heap.size) (h3 : K4 i) => (hS4.2 i h3).elim (HK0.out.notK h1) fun h => absurd h2 (by omega)); have HP4 := Lib.hid hP4; have HS4 := Lib.hid hS4; have HA14 := Lib.hid (HA13.out.ext hS4.1 (HK0.out.notK (Nat.le_refl _))); have HA24 := Lib.hid (HA23.out.ext hS4.1 (HK0.out.notK (by omega))); have HX4 := Lib.hid (HX3.out.ext hS4.1 HOK.out); have HO4 := Lib.hid (HO3.out.ext hS4.1 fun i hi => by obtain rfl : i = g := (Option.some.inj hi).symm; exact HK0.out.notK (by have := HG3.out; omega)); have HKX := Lib.hid (fun i (hi : inFoot (.slice dx B.length dc) i) (h3 : K4 i) => (hS4.2 i h3).elim (HOK.out i hi) fun h => by have := HXL.out i hi; have := EW.out.size; have := HS3.out.1.size; omega); clear p0 p1 o0 o2 o3 o4; have p1 := HA14.out.cell 1 rfl; have o0 := HA24.out.cell 0 rfl; have o2 := HA24.out.cell 2 rfl; have o3 := HA24.out.cell 3 rfl; have o4 := HA24.out.cell 4 rfl; clear hP4 hS4)
    | (go_at_call 51; refine (qq_append HP4.out hc ha s hs (.slice dx B.length dc) B HX4.out HKX.out (by have := HBIG.out.1; omega)).mono ?_; rintro e w5 ⟨rfl, K5, hP5, hS5⟩; have HN5 := Lib.hid (fun i (h1 : w.heap.size ≤ i) (h2 : i < w3.heap.size) (h3 : K5 i) => (hS5.2 i h3).elim (HN4.out i h1 h2) fun h => absurd h2 (by have := HS4.out.1.size; omega)); have HP5 := Lib.hid hP5; have HS5 := Lib.hid hS5; have HA25 := Lib.hid (HA24.out.ext hS5.1 (HN4.out _ (by omega) (by have := HG3.out; have := HGL.out; omega))); have HX5 := Lib.hid (HX4.out.ext hS5.1 HKX.out); have HO5 := Lib.hid (HO4.out.ext hS5.1 fun i hi => by obtain rfl : i = g := (Option.some.inj hi).symm; exact HN4.out _ (by have := HG3.out; omega) HGL.out); clear p1 o0 o2 o3 o4; have o3 := HA25.out.cell 3 rfl; clear hP5 hS5)
    | (go_at_call 98; refine (left6_m _ g (cc + 1) _ B HO5.out HX5.out (by have := HBIG.out.2; unfold Fits; omega)).mono ?_; rintro e w6 ⟨rfl, e6⟩; have HP6 := Lib.hid (HP5.out.ext0 e6); have HO6 := Lib.hid (HO5.out.ext e6 fun _ _ h => h); have HE6 := Lib.hid e6; clear e6 o3)
    | (go_at_call 54; refine (spoil_n _ g (B.length + 3) (cc + 1) _ (by simp) HO6.out (by omega) (by have := HBIG.out.2; unfold Fits; omega)).mono ?_; rintro e w7 ⟨rfl, -, e7⟩; have HP7 := Lib.hid (HP6.out.ext e7 fun i hi e => HN5.out i (by have e : i = g := e; have := HG3.out; omega) (by have e : i = g := e; have := HGL.out; omega) hi); have HE7 := Lib.hid e7; clear e7)
    | (go_at_call 18; refine (num_any _ _).mono ?_; rintro e w' ⟨rfl, rfl⟩))
  go_ret
  refine ⟨rfl, K5, HP7.out, ?_, fun i hi => ?_⟩
  · have hsz := EW.out.size
    have hs3 := HS3.out.1.size
    have f1 : Ext K w w3 := (EW.out.same HS3.out.1).mono fun _ _ h => h.elim
    have f2 : Ext K w w4 := f1.same HS4.out.1
    have f3 : Ext K w w5 := f2.trans HS5.out.1 fun i hi hk => (HS4.out.2 i hk).elim id fun h => by omega
    have f4 : Ext K w w6 := f3.trans HE6.out fun _ _ h => h.elim
    exact f4.trans HE7.out fun i hi e => by have e : i = g := e; have := HG3.out; omega
  · have hsz := EW.out.size
    have hs3 := HS3.out.1.size
    have hs4 := HS4.out.1.size
    rcases HS5.out.2 i hi with h | h
    · rcases HS4.out.2 i h with h | h
      · exact .inl h
      · exact .inr (by omega)
    · exact .inr (by omega)
set_option maxRecDepth 20000 in
set_option maxHeartbeats 1000000 in
theorem writes2_m (w : World) (d q : Nat) (D : Dk) (K : Nat → Prop) (h : PQ w d q D D K) (o : OpD) (B : List UInt8) (ks : List Int) (ho : OpOk w o B ks) (hoK : ∀ k, inFoot (.slice o.dx o.dn o.dc) k → ¬ K k) (hc : D.calls ≤ 1099511627776) (ha : D.arms.length ≤ 1099511627776) (hb : B.length ≤ 1073741824) (hk : o.K = 2) :
    Calls Try.prog 75 #[.agg #[.pointer (some ⟨d, 0, none⟩), .pointer (some ⟨q, 0, none⟩)], .agg o.cells.toArray] w (Stepped w d q K (D.does o B).1) := by
  obtain ⟨KK, who, s, dx, dn, dc, N, t0, t1, t2, kx, kn, kc, junk⟩ := o
  obtain ⟨hs, hdn, hdata, hdlt, -, -, -, -⟩ := ho
  simp only [] at hs hdn hdata hdlt hoK hk
  subst hk hdn
  have hdef : D.does ⟨2, who, s, dx, B.length, dc, N, t0, t1, t2, kx, kn, kc, junk⟩ B = D.sync s.data.toList := rfl
  rw [hdef]
  unfold OpD.cells
  simp only []
  have e1 : Ext Nil w (w.alloc (.cells #[.pointer (some ⟨d, 0, none⟩), .pointer (some ⟨q, 0, none⟩)] 82 (0, 0))) := (Ext.refl _ _).alloc _
  have a1 := At.new w [.pointer (some ⟨d, 0, none⟩), .pointer (some ⟨q, 0, none⟩)] 82
  obtain ⟨W1, hW1⟩ : ∃ W1, W1 = w.alloc (.cells #[.pointer (some ⟨d, 0, none⟩), .pointer (some ⟨q, 0, none⟩)] 82 (0, 0)) := ⟨_, rfl⟩
  rw [← hW1] at e1
  have s1 : W1.heap.size = w.heap.size + 1 := by rw [hW1]; simp
  have e2 : Ext Nil W1 (W1.alloc (.cells #[.int .i64 2, .int .i64 who, .string s, .slice dx B.length dc, .int .i64 N, .int .i64 t0, .int .i64 t1, .bool t2, .slice kx kn kc, .int .u8 junk] 47 (0, 0))) := (Ext.refl _ _).alloc _
  have a2 := At.new W1 [.int .i64 2, .int .i64 who, .string s, .slice dx B.length dc, .int .i64 N, .int .i64 t0, .int .i64 t1, .bool t2, .slice kx kn kc, .int .u8 junk] 47
  rw [s1] at a2
  have eW := e1.same e2
  have a1 : At (W1.alloc (.cells #[.int .i64 2, .int .i64 who, .string s, .slice dx B.length dc, .int .i64 N, .int .i64 t0, .int .i64 t1, .bool t2, .slice kx kn kc, .int .u8 junk] 47 (0, 0))) w.heap.size 82 _ := (by rw [hW1]; exact a1 : At W1 w.heap.size 82 _).ext e2 fun h => h
  have hRM := room_m _ _ B (hdata.ext eW fun _ _ h => h) (show Fits (B.length + 3) by unfold Fits; omega)
  have hP := h.ext0 eW
  have hX := hdata.ext eW fun _ _ h => h
  have sW : (W1.alloc (.cells #[.int .i64 2, .int .i64 who, .string s, .slice dx B.length dc, .int .i64 N, .int .i64 t0, .int .i64 t1, .bool t2, .slice kx kn kc, .int .u8 junk] 47 (0, 0))).heap.size = w.heap.size + 2 := by simp [s1]
  have HXL := Lib.hid hdlt; have HK0 := Lib.hid h; have EW := Lib.hid eW; have HRM := Lib.hid hRM; have HP := Lib.hid hP; have HX := Lib.hid hX; have HA1 := Lib.hid a1; have HA2 := Lib.hid a2; have HOK := Lib.hid hoK; have HSW := Lib.hid sW
  subst hW1
  have hbn : B.length + 3 ≤ 1073741827 := by omega
  clear h eW hRM hP hX a1 a2 e1 e2 hoK hdata hdlt hdef s1 sW
  have hff : ∀ {i c : Nat} {g : Nat}, inFoot (.slice (some ⟨g, 0, none⟩) i c) = inFoot (.slice (some ⟨g, 0, none⟩) i c) := rfl
  clear hff
  have HBIG := Lib.hid (And.intro hb hbn)
  go_enter Try.func75, Try.ntmps75
  go_wp2_with (first
    | (go_at_call 50; refine (HRM.out).mono ?_; rintro e w3 ⟨g, cap, hg1, hg2, rfl, O3, S3⟩; obtain ⟨cc, rfl⟩ : ∃ cc, cap = cc + 1 := ⟨cap - 1, by omega⟩; have HP3 := Lib.hid (HP.out.ext0 S3.1); have HA13 := Lib.hid (HA1.out.ext S3.1 fun h => h); have HA23 := Lib.hid (HA2.out.ext S3.1 fun h => h); have HX3 := Lib.hid (HX.out.ext S3.1 fun _ _ h => h); have HO3 := Lib.hid O3; have HS3 := Lib.hid S3; have HG3 := Lib.hid (show w.heap.size + 2 ≤ g from by have := (S3.2 g rfl).resolve_left fun h => h; have := HSW.out; omega); have HGL := Lib.hid (show g < w3.heap.size from O3.lt g rfl); have p0 := HA13.out.cell 0 rfl; have p1 := HA13.out.cell 1 rfl; have o0 := HA23.out.cell 0 rfl; have o2 := HA23.out.cell 2 rfl; have o3 := HA23.out.cell 3 rfl; have o4 := HA23.out.cell 4 rfl; clear O3 S3)
    | (go_at_call 65; refine (pq_sync HP3.out hc s hs).mono ?_; rintro e w4 ⟨rfl, K4, hP4, hS4⟩; have HN4 := Lib.hid (fun i (h1 : w.heap.size ≤ i) (h2 : i < w3.heap.size) (h3 : K4 i) => (hS4.2 i h3).elim (HK0.out.notK h1) fun h => absurd h2 (by omega)); have HP4 := Lib.hid hP4; have HS4 := Lib.hid hS4; have HA14 := Lib.hid (HA13.out.ext hS4.1 (HK0.out.notK (Nat.le_refl _))); have HA24 := Lib.hid (HA23.out.ext hS4.1 (HK0.out.notK (by omega))); have HX4 := Lib.hid (HX3.out.ext hS4.1 HOK.out); have HO4 := Lib.hid (HO3.out.ext hS4.1 fun i hi => by obtain rfl : i = g := (Option.some.inj hi).symm; exact HK0.out.notK (by have := HG3.out; omega)); have HKX := Lib.hid (fun i (hi : inFoot (.slice dx B.length dc) i) (h3 : K4 i) => (hS4.2 i h3).elim (HOK.out i hi) fun h => by have := HXL.out i hi; have := EW.out.size; have := HS3.out.1.size; omega); clear p0 p1 o0 o2 o3 o4; have p1 := HA14.out.cell 1 rfl; have o0 := HA24.out.cell 0 rfl; have o2 := HA24.out.cell 2 rfl; have o3 := HA24.out.cell 3 rfl; have o4 := HA24.out.cell 4 rfl; clear hP4 hS4)
    | (go_at_call 99; refine (qq_sync HP4.out hc ha s hs).mono ?_; rintro e w5 ⟨rfl, K5, hP5, hS5⟩; have HN5 := Lib.hid (fun i (h1 : w.heap.size ≤ i) (h2 : i < w3.heap.size) (h3 : K5 i) => (hS5.2 i h3).elim (HN4.out i h1 h2) fun h => absurd h2 (by have := HS4.out.1.size; omega)); have HP5 := Lib.hid hP5; have HS5 := Lib.hid hS5; have HA25 := Lib.hid (HA24.out.ext hS5.1 (HN4.out _ (by omega) (by have := HG3.out; have := HGL.out; omega))); have HX5 := Lib.hid (HX4.out.ext hS5.1 HKX.out); have HO5 := Lib.hid (HO4.out.ext hS5.1 fun i hi => by obtain rfl : i = g := (Option.some.inj hi).symm; exact HN4.out _ (by have := HG3.out; omega) HGL.out); clear p1 o0 o2 o3 o4; have o3 := HA25.out.cell 3 rfl; clear hP5 hS5)
    | (go_at_call 98; refine (left6_m _ g (cc + 1) _ B HO5.out HX5.out (by have := HBIG.out.2; unfold Fits; omega)).mono ?_; rintro e w6 ⟨rfl, e6⟩; have HP6 := Lib.hid (HP5.out.ext0 e6); have HO6 := Lib.hid (HO5.out.ext e6 fun _ _ h => h); have HE6 := Lib.hid e6; clear e6 o3)
    | (go_at_call 54; refine (spoil_n _ g (B.length + 3) (cc + 1) _ (by simp) HO6.out (by omega) (by have := HBIG.out.2; unfold Fits; omega)).mono ?_; rintro e w7 ⟨rfl, -, e7⟩; have HP7 := Lib.hid (HP6.out.ext e7 fun i hi e => HN5.out i (by have e : i = g := e; have := HG3.out; omega) (by have e : i = g := e; have := HGL.out; omega) hi); have HE7 := Lib.hid e7; clear e7)
    | (go_at_call 18; refine (num_any _ _).mono ?_; rintro e w' ⟨rfl, rfl⟩))
  go_ret
  refine ⟨rfl, K5, HP7.out, ?_, fun i hi => ?_⟩
  · have hsz := EW.out.size
    have hs3 := HS3.out.1.size
    have f1 : Ext K w w3 := (EW.out.same HS3.out.1).mono fun _ _ h => h.elim
    have f2 : Ext K w w4 := f1.same HS4.out.1
    have f3 : Ext K w w5 := f2.trans HS5.out.1 fun i hi hk => (HS4.out.2 i hk).elim id fun h => by omega
    have f4 : Ext K w w6 := f3.trans HE6.out fun _ _ h => h.elim
    exact f4.trans HE7.out fun i hi e => by have e : i = g := e; have := HG3.out; omega
  · have hsz := EW.out.size
    have hs3 := HS3.out.1.size
    have hs4 := HS4.out.1.size
    rcases HS5.out.2 i hi with h | h
    · rcases HS4.out.2 i h with h | h
      · exact .inl h
      · exact .inr (by omega)
    · exact .inr (by omega)
set_option maxRecDepth 20000 in
set_option maxHeartbeats 1000000 in
theorem writes3_m (w : World) (d q : Nat) (D : Dk) (K : Nat → Prop) (h : PQ w d q D D K) (o : OpD) (B : List UInt8) (ks : List Int) (ho : OpOk w o B ks) (hoK : ∀ k, inFoot (.slice o.dx o.dn o.dc) k → ¬ K k) (hc : D.calls ≤ 1099511627776) (ha : D.arms.length ≤ 1099511627776) (hb : B.length ≤ 1073741824) (hk : o.K = 3) :
    Calls Try.prog 75 #[.agg #[.pointer (some ⟨d, 0, none⟩), .pointer (some ⟨q, 0, none⟩)], .agg o.cells.toArray] w (Stepped w d q K (D.does o B).1) := by
  obtain ⟨KK, who, s, dx, dn, dc, N, t0, t1, t2, kx, kn, kc, junk⟩ := o
  obtain ⟨hs, hdn, hdata, hdlt, -, -, -, -⟩ := ho
  simp only [] at hs hdn hdata hdlt hoK hk
  subst hk hdn
  have hdef : D.does ⟨3, who, s, dx, B.length, dc, N, t0, t1, t2, kx, kn, kc, junk⟩ B = D.replace s.data.toList B := rfl
  rw [hdef]
  unfold OpD.cells
  simp only []
  have e1 : Ext Nil w (w.alloc (.cells #[.pointer (some ⟨d, 0, none⟩), .pointer (some ⟨q, 0, none⟩)] 82 (0, 0))) := (Ext.refl _ _).alloc _
  have a1 := At.new w [.pointer (some ⟨d, 0, none⟩), .pointer (some ⟨q, 0, none⟩)] 82
  obtain ⟨W1, hW1⟩ : ∃ W1, W1 = w.alloc (.cells #[.pointer (some ⟨d, 0, none⟩), .pointer (some ⟨q, 0, none⟩)] 82 (0, 0)) := ⟨_, rfl⟩
  rw [← hW1] at e1
  have s1 : W1.heap.size = w.heap.size + 1 := by rw [hW1]; simp
  have e2 : Ext Nil W1 (W1.alloc (.cells #[.int .i64 3, .int .i64 who, .string s, .slice dx B.length dc, .int .i64 N, .int .i64 t0, .int .i64 t1, .bool t2, .slice kx kn kc, .int .u8 junk] 47 (0, 0))) := (Ext.refl _ _).alloc _
  have a2 := At.new W1 [.int .i64 3, .int .i64 who, .string s, .slice dx B.length dc, .int .i64 N, .int .i64 t0, .int .i64 t1, .bool t2, .slice kx kn kc, .int .u8 junk] 47
  rw [s1] at a2
  have eW := e1.same e2
  have a1 : At (W1.alloc (.cells #[.int .i64 3, .int .i64 who, .string s, .slice dx B.length dc, .int .i64 N, .int .i64 t0, .int .i64 t1, .bool t2, .slice kx kn kc, .int .u8 junk] 47 (0, 0))) w.heap.size 82 _ := (by rw [hW1]; exact a1 : At W1 w.heap.size 82 _).ext e2 fun h => h
  have hRM := room_m _ _ B (hdata.ext eW fun _ _ h => h) (show Fits (B.length + 3) by unfold Fits; omega)
  have hP := h.ext0 eW
  have hX := hdata.ext eW fun _ _ h => h
  have sW : (W1.alloc (.cells #[.int .i64 3, .int .i64 who, .string s, .slice dx B.length dc, .int .i64 N, .int .i64 t0, .int .i64 t1, .bool t2, .slice kx kn kc, .int .u8 junk] 47 (0, 0))).heap.size = w.heap.size + 2 := by simp [s1]
  have HXL := Lib.hid hdlt; have HK0 := Lib.hid h; have EW := Lib.hid eW; have HRM := Lib.hid hRM; have HP := Lib.hid hP; have HX := Lib.hid hX; have HA1 := Lib.hid a1; have HA2 := Lib.hid a2; have HOK := Lib.hid hoK; have HSW := Lib.hid sW
  subst hW1
  have hbn : B.length + 3 ≤ 1073741827 := by omega
  clear h eW hRM hP hX a1 a2 e1 e2 hoK hdata hdlt hdef s1 sW
  have hff : ∀ {i c : Nat} {g : Nat}, inFoot (.slice (some ⟨g, 0, none⟩) i c) = inFoot (.slice (some ⟨g, 0, none⟩) i c) := rfl
  clear hff
  have HBIG := Lib.hid (And.intro hb hbn)
  go_enter Try.func75, Try.ntmps75
  go_wp2_with (first
    | (go_at_call 50; refine (HRM.out).mono ?_; rintro e w3 ⟨g, cap, hg1, hg2, rfl, O3, S3⟩; obtain ⟨cc, rfl⟩ : ∃ cc, cap = cc + 1 := ⟨cap - 1, by omega⟩; have HP3 := Lib.hid (HP.out.ext0 S3.1); have HA13 := Lib.hid (HA1.out.ext S3.1 fun h => h); have HA23 := Lib.hid (HA2.out.ext S3.1 fun h => h); have HX3 := Lib.hid (HX.out.ext S3.1 fun _ _ h => h); have HO3 := Lib.hid O3; have HS3 := Lib.hid S3; have HG3 := Lib.hid (show w.heap.size + 2 ≤ g from by have := (S3.2 g rfl).resolve_left fun h => h; have := HSW.out; omega); have HGL := Lib.hid (show g < w3.heap.size from O3.lt g rfl); have p0 := HA13.out.cell 0 rfl; have p1 := HA13.out.cell 1 rfl; have o0 := HA23.out.cell 0 rfl; have o2 := HA23.out.cell 2 rfl; have o3 := HA23.out.cell 3 rfl; have o4 := HA23.out.cell 4 rfl; clear O3 S3)
    | (go_at_call 52; refine (pq_replace HP3.out hc s hs (.slice (some ⟨g, 0, none⟩) B.length (cc + 1)) B (HO3.out.first rfl) (fun i hi => by obtain rfl : i = g := (Option.some.inj hi).symm; exact HK0.out.notK (by have := HG3.out; omega)) (by have := HBIG.out.1; omega)).mono ?_; rintro e w4 ⟨rfl, K4, hP4, hS4⟩; have HN4 := Lib.hid (fun i (h1 : w.heap.size ≤ i) (h2 : i < w3.heap.size) (h3 : K4 i) => (hS4.2 i h3).elim (HK0.out.notK h1) fun h => absurd h2 (by omega)); have HP4 := Lib.hid hP4; have HS4 := Lib.hid hS4; have HA14 := Lib.hid (HA13.out.ext hS4.1 (HK0.out.notK (Nat.le_refl _))); have HA24 := Lib.hid (HA23.out.ext hS4.1 (HK0.out.notK (by omega))); have HX4 := Lib.hid (HX3.out.ext hS4.1 HOK.out); have HO4 := Lib.hid (HO3.out.ext hS4.1 fun i hi => by obtain rfl : i = g := (Option.some.inj hi).symm; exact HK0.out.notK (by have := HG3.out; omega)); have HKX := Lib.hid (fun i (hi : inFoot (.slice dx B.length dc) i) (h3 : K4 i) => (hS4.2 i h3).elim (HOK.out i hi) fun h => by have := HXL.out i hi; have := EW.out.size; have := HS3.out.1.size; omega); clear p0 p1 o0 o2 o3 o4; have p1 := HA14.out.cell 1 rfl; have o0 := HA24.out.cell 0 rfl; have o2 := HA24.out.cell 2 rfl; have o3 := HA24.out.cell 3 rfl; have o4 := HA24.out.cell 4 rfl; clear hP4 hS4)
    | (go_at_call 53; refine (qq_replace HP4.out hc ha s hs (.slice dx B.length dc) B HX4.out HKX.out (by have := HBIG.out.1; omega)).mono ?_; rintro e w5 ⟨rfl, K5, hP5, hS5⟩; have HN5 := Lib.hid (fun i (h1 : w.heap.size ≤ i) (h2 : i < w3.heap.size) (h3 : K5 i) => (hS5.2 i h3).elim (HN4.out i h1 h2) fun h => absurd h2 (by have := HS4.out.1.size; omega)); have HP5 := Lib.hid hP5; have HS5 := Lib.hid hS5; have HA25 := Lib.hid (HA24.out.ext hS5.1 (HN4.out _ (by omega) (by have := HG3.out; have := HGL.out; omega))); have HX5 := Lib.hid (HX4.out.ext hS5.1 HKX.out); have HO5 := Lib.hid (HO4.out.ext hS5.1 fun i hi => by obtain rfl : i = g := (Option.some.inj hi).symm; exact HN4.out _ (by have := HG3.out; omega) HGL.out); clear p1 o0 o2 o3 o4; have o3 := HA25.out.cell 3 rfl; clear hP5 hS5)
    | (go_at_call 98; refine (left6_m _ g (cc + 1) _ B HO5.out HX5.out (by have := HBIG.out.2; unfold Fits; omega)).mono ?_; rintro e w6 ⟨rfl, e6⟩; have HP6 := Lib.hid (HP5.out.ext0 e6); have HO6 := Lib.hid (HO5.out.ext e6 fun _ _ h => h); have HE6 := Lib.hid e6; clear e6 o3)
    | (go_at_call 54; refine (spoil_n _ g (B.length + 3) (cc + 1) _ (by simp) HO6.out (by omega) (by have := HBIG.out.2; unfold Fits; omega)).mono ?_; rintro e w7 ⟨rfl, -, e7⟩; have HP7 := Lib.hid (HP6.out.ext e7 fun i hi e => HN5.out i (by have e : i = g := e; have := HG3.out; omega) (by have e : i = g := e; have := HGL.out; omega) hi); have HE7 := Lib.hid e7; clear e7)
    | (go_at_call 18; refine (num_any _ _).mono ?_; rintro e w' ⟨rfl, rfl⟩))
  go_ret
  refine ⟨rfl, K5, HP7.out, ?_, fun i hi => ?_⟩
  · have hsz := EW.out.size
    have hs3 := HS3.out.1.size
    have f1 : Ext K w w3 := (EW.out.same HS3.out.1).mono fun _ _ h => h.elim
    have f2 : Ext K w w4 := f1.same HS4.out.1
    have f3 : Ext K w w5 := f2.trans HS5.out.1 fun i hi hk => (HS4.out.2 i hk).elim id fun h => by omega
    have f4 : Ext K w w6 := f3.trans HE6.out fun _ _ h => h.elim
    exact f4.trans HE7.out fun i hi e => by have e : i = g := e; have := HG3.out; omega
  · have hsz := EW.out.size
    have hs3 := HS3.out.1.size
    have hs4 := HS4.out.1.size
    rcases HS5.out.2 i hi with h | h
    · rcases HS4.out.2 i h with h | h
      · exact .inl h
      · exact .inr (by omega)
    · exact .inr (by omega)
set_option maxRecDepth 20000 in
set_option maxHeartbeats 1000000 in
theorem writes4_m (w : World) (d q : Nat) (D : Dk) (K : Nat → Prop) (h : PQ w d q D D K) (o : OpD) (B : List UInt8) (ks : List Int) (ho : OpOk w o B ks) (hoK : ∀ k, inFoot (.slice o.dx o.dn o.dc) k → ¬ K k) (hc : D.calls ≤ 1099511627776) (ha : D.arms.length ≤ 1099511627776) (hb : B.length ≤ 1073741824) (hk : o.K = 4) :
    Calls Try.prog 75 #[.agg #[.pointer (some ⟨d, 0, none⟩), .pointer (some ⟨q, 0, none⟩)], .agg o.cells.toArray] w (Stepped w d q K (D.does o B).1) := by
  obtain ⟨KK, who, s, dx, dn, dc, N, t0, t1, t2, kx, kn, kc, junk⟩ := o
  obtain ⟨hs, hdn, hdata, hdlt, -, -, -, -⟩ := ho
  simp only [] at hs hdn hdata hdlt hoK hk
  subst hk hdn
  have hdef : D.does ⟨4, who, s, dx, B.length, dc, N, t0, t1, t2, kx, kn, kc, junk⟩ B = D.cut s.data.toList N := rfl
  rw [hdef]
  unfold OpD.cells
  simp only []
  have e1 : Ext Nil w (w.alloc (.cells #[.pointer (some ⟨d, 0, none⟩), .pointer (some ⟨q, 0, none⟩)] 82 (0, 0))) := (Ext.refl _ _).alloc _
  have a1 := At.new w [.pointer (some ⟨d, 0, none⟩), .pointer (some ⟨q, 0, none⟩)] 82
  obtain ⟨W1, hW1⟩ : ∃ W1, W1 = w.alloc (.cells #[.pointer (some ⟨d, 0, none⟩), .pointer (some ⟨q, 0, none⟩)] 82 (0, 0)) := ⟨_, rfl⟩
  rw [← hW1] at e1
  have s1 : W1.heap.size = w.heap.size + 1 := by rw [hW1]; simp
  have e2 : Ext Nil W1 (W1.alloc (.cells #[.int .i64 4, .int .i64 who, .string s, .slice dx B.length dc, .int .i64 N, .int .i64 t0, .int .i64 t1, .bool t2, .slice kx kn kc, .int .u8 junk] 47 (0, 0))) := (Ext.refl _ _).alloc _
  have a2 := At.new W1 [.int .i64 4, .int .i64 who, .string s, .slice dx B.length dc, .int .i64 N, .int .i64 t0, .int .i64 t1, .bool t2, .slice kx kn kc, .int .u8 junk] 47
  rw [s1] at a2
  have eW := e1.same e2
  have a1 : At (W1.alloc (.cells #[.int .i64 4, .int .i64 who, .string s, .slice dx B.length dc, .int .i64 N, .int .i64 t0, .int .i64 t1, .bool t2, .slice kx kn kc, .int .u8 junk] 47 (0, 0))) w.heap.size 82 _ := (by rw [hW1]; exact a1 : At W1 w.heap.size 82 _).ext e2 fun h => h
  have hRM := room_m _ _ B (hdata.ext eW fun _ _ h => h) (show Fits (B.length + 3) by unfold Fits; omega)
  have hP := h.ext0 eW
  have hX := hdata.ext eW fun _ _ h => h
  have sW : (W1.alloc (.cells #[.int .i64 4, .int .i64 who, .string s, .slice dx B.length dc, .int .i64 N, .int .i64 t0, .int .i64 t1, .bool t2, .slice kx kn kc, .int .u8 junk] 47 (0, 0))).heap.size = w.heap.size + 2 := by simp [s1]
  have HXL := Lib.hid hdlt; have HK0 := Lib.hid h; have EW := Lib.hid eW; have HRM := Lib.hid hRM; have HP := Lib.hid hP; have HX := Lib.hid hX; have HA1 := Lib.hid a1; have HA2 := Lib.hid a2; have HOK := Lib.hid hoK; have HSW := Lib.hid sW
  subst hW1
  have hbn : B.length + 3 ≤ 1073741827 := by omega
  clear h eW hRM hP hX a1 a2 e1 e2 hoK hdata hdlt hdef s1 sW
  have hff : ∀ {i c : Nat} {g : Nat}, inFoot (.slice (some ⟨g, 0, none⟩) i c) = inFoot (.slice (some ⟨g, 0, none⟩) i c) := rfl
  clear hff
  have HBIG := Lib.hid (And.intro hb hbn)
  go_enter Try.func75, Try.ntmps75
  go_wp2_with (first
    | (go_at_call 50; refine (HRM.out).mono ?_; rintro e w3 ⟨g, cap, hg1, hg2, rfl, O3, S3⟩; obtain ⟨cc, rfl⟩ : ∃ cc, cap = cc + 1 := ⟨cap - 1, by omega⟩; have HP3 := Lib.hid (HP.out.ext0 S3.1); have HA13 := Lib.hid (HA1.out.ext S3.1 fun h => h); have HA23 := Lib.hid (HA2.out.ext S3.1 fun h => h); have HX3 := Lib.hid (HX.out.ext S3.1 fun _ _ h => h); have HO3 := Lib.hid O3; have HS3 := Lib.hid S3; have HG3 := Lib.hid (show w.heap.size + 2 ≤ g from by have := (S3.2 g rfl).resolve_left fun h => h; have := HSW.out; omega); have HGL := Lib.hid (show g < w3.heap.size from O3.lt g rfl); have p0 := HA13.out.cell 0 rfl; have p1 := HA13.out.cell 1 rfl; have o0 := HA23.out.cell 0 rfl; have o2 := HA23.out.cell 2 rfl; have o3 := HA23.out.cell 3 rfl; have o4 := HA23.out.cell 4 rfl; clear O3 S3)
    | (go_at_call 66; refine (pq_cut HP3.out hc s hs N).mono ?_; rintro e w4 ⟨rfl, K4, hP4, hS4⟩; have HN4 := Lib.hid (fun i (h1 : w.heap.size ≤ i) (h2 : i < w3.heap.size) (h3 : K4 i) => (hS4.2 i h3).elim (HK0.out.notK h1) fun h => absurd h2 (by omega)); have HP4 := Lib.hid hP4; have HS4 := Lib.hid hS4; have HA14 := Lib.hid (HA13.out.ext hS4.1 (HK0.out.notK (Nat.le_refl _))); have HA24 := Lib.hid (HA23.out.ext hS4.1 (HK0.out.notK (by omega))); have HX4 := Lib.hid (HX3.out.ext hS4.1 HOK.out); have HO4 := Lib.hid (HO3.out.ext hS4.1 fun i hi => by obtain rfl : i = g := (Option.some.inj hi).symm; exact HK0.out.notK (by have := HG3.out; omega)); have HKX := Lib.hid (fun i (hi : inFoot (.slice dx B.length dc) i) (h3 : K4 i) => (hS4.2 i h3).elim (HOK.out i hi) fun h => by have := HXL.out i hi; have := EW.out.size; have := HS3.out.1.size; omega); clear p0 p1 o0 o2 o3 o4; have p1 := HA14.out.cell 1 rfl; have o0 := HA24.out.cell 0 rfl; have o2 := HA24.out.cell 2 rfl; have o3 := HA24.out.cell 3 rfl; have o4 := HA24.out.cell 4 rfl; clear hP4 hS4)
    | (go_at_call 100; refine (qq_cut HP4.out hc ha s hs N).mono ?_; rintro e w5 ⟨rfl, K5, hP5, hS5⟩; have HN5 := Lib.hid (fun i (h1 : w.heap.size ≤ i) (h2 : i < w3.heap.size) (h3 : K5 i) => (hS5.2 i h3).elim (HN4.out i h1 h2) fun h => absurd h2 (by have := HS4.out.1.size; omega)); have HP5 := Lib.hid hP5; have HS5 := Lib.hid hS5; have HA25 := Lib.hid (HA24.out.ext hS5.1 (HN4.out _ (by omega) (by have := HG3.out; have := HGL.out; omega))); have HX5 := Lib.hid (HX4.out.ext hS5.1 HKX.out); have HO5 := Lib.hid (HO4.out.ext hS5.1 fun i hi => by obtain rfl : i = g := (Option.some.inj hi).symm; exact HN4.out _ (by have := HG3.out; omega) HGL.out); clear p1 o0 o2 o3 o4; have o3 := HA25.out.cell 3 rfl; clear hP5 hS5)
    | (go_at_call 98; refine (left6_m _ g (cc + 1) _ B HO5.out HX5.out (by have := HBIG.out.2; unfold Fits; omega)).mono ?_; rintro e w6 ⟨rfl, e6⟩; have HP6 := Lib.hid (HP5.out.ext0 e6); have HO6 := Lib.hid (HO5.out.ext e6 fun _ _ h => h); have HE6 := Lib.hid e6; clear e6 o3)
    | (go_at_call 54; refine (spoil_n _ g (B.length + 3) (cc + 1) _ (by simp) HO6.out (by omega) (by have := HBIG.out.2; unfold Fits; omega)).mono ?_; rintro e w7 ⟨rfl, -, e7⟩; have HP7 := Lib.hid (HP6.out.ext e7 fun i hi e => HN5.out i (by have e : i = g := e; have := HG3.out; omega) (by have e : i = g := e; have := HGL.out; omega) hi); have HE7 := Lib.hid e7; clear e7)
    | (go_at_call 18; refine (num_any _ _).mono ?_; rintro e w' ⟨rfl, rfl⟩))
  go_ret
  refine ⟨rfl, K5, HP7.out, ?_, fun i hi => ?_⟩
  · have hsz := EW.out.size
    have hs3 := HS3.out.1.size
    have f1 : Ext K w w3 := (EW.out.same HS3.out.1).mono fun _ _ h => h.elim
    have f2 : Ext K w w4 := f1.same HS4.out.1
    have f3 : Ext K w w5 := f2.trans HS5.out.1 fun i hi hk => (HS4.out.2 i hk).elim id fun h => by omega
    have f4 : Ext K w w6 := f3.trans HE6.out fun _ _ h => h.elim
    exact f4.trans HE7.out fun i hi e => by have e : i = g := e; have := HG3.out; omega
  · have hsz := EW.out.size
    have hs3 := HS3.out.1.size
    have hs4 := HS4.out.1.size
    rcases HS5.out.2 i hi with h | h
    · rcases HS4.out.2 i h with h | h
      · exact .inl h
      · exact .inr (by omega)
    · exact .inr (by omega)
set_option maxRecDepth 20000 in
set_option maxHeartbeats 1000000 in
theorem writes5_m (w : World) (d q : Nat) (D : Dk) (K : Nat → Prop) (h : PQ w d q D D K) (o : OpD) (B : List UInt8) (ks : List Int) (ho : OpOk w o B ks) (hoK : ∀ k, inFoot (.slice o.dx o.dn o.dc) k → ¬ K k) (hc : D.calls ≤ 1099511627776) (ha : D.arms.length ≤ 1099511627776) (hb : B.length ≤ 1073741824) (hk : o.K = 5) :
    Calls Try.prog 75 #[.agg #[.pointer (some ⟨d, 0, none⟩), .pointer (some ⟨q, 0, none⟩)], .agg o.cells.toArray] w (Stepped w d q K (D.does o B).1) := by
  obtain ⟨KK, who, s, dx, dn, dc, N, t0, t1, t2, kx, kn, kc, junk⟩ := o
  obtain ⟨hs, hdn, hdata, hdlt, -, -, -, -⟩ := ho
  simp only [] at hs hdn hdata hdlt hoK hk
  subst hk hdn
  have hdef : D.does ⟨5, who, s, dx, B.length, dc, N, t0, t1, t2, kx, kn, kc, junk⟩ B = D.remove s.data.toList := rfl
  rw [hdef]
  unfold OpD.cells
  simp only []
  have e1 : Ext Nil w (w.alloc (.cells #[.pointer (some ⟨d, 0, none⟩), .pointer (some ⟨q, 0, none⟩)] 82 (0, 0))) := (Ext.refl _ _).alloc _
  have a1 := At.new w [.pointer (some ⟨d, 0, none⟩), .pointer (some ⟨q, 0, none⟩)] 82
  obtain ⟨W1, hW1⟩ : ∃ W1, W1 = w.alloc (.cells #[.pointer (some ⟨d, 0, none⟩), .pointer (some ⟨q, 0, none⟩)] 82 (0, 0)) := ⟨_, rfl⟩
  rw [← hW1] at e1
  have s1 : W1.heap.size = w.heap.size + 1 := by rw [hW1]; simp
  have e2 : Ext Nil W1 (W1.alloc (.cells #[.int .i64 5, .int .i64 who, .string s, .slice dx B.length dc, .int .i64 N, .int .i64 t0, .int .i64 t1, .bool t2, .slice kx kn kc, .int .u8 junk] 47 (0, 0))) := (Ext.refl _ _).alloc _
  have a2 := At.new W1 [.int .i64 5, .int .i64 who, .string s, .slice dx B.length dc, .int .i64 N, .int .i64 t0, .int .i64 t1, .bool t2, .slice kx kn kc, .int .u8 junk] 47
  rw [s1] at a2
  have eW := e1.same e2
  have a1 : At (W1.alloc (.cells #[.int .i64 5, .int .i64 who, .string s, .slice dx B.length dc, .int .i64 N, .int .i64 t0, .int .i64 t1, .bool t2, .slice kx kn kc, .int .u8 junk] 47 (0, 0))) w.heap.size 82 _ := (by rw [hW1]; exact a1 : At W1 w.heap.size 82 _).ext e2 fun h => h
  have hRM := room_m _ _ B (hdata.ext eW fun _ _ h => h) (show Fits (B.length + 3) by unfold Fits; omega)
  have hP := h.ext0 eW
  have hX := hdata.ext eW fun _ _ h => h
  have sW : (W1.alloc (.cells #[.int .i64 5, .int .i64 who, .string s, .slice dx B.length dc, .int .i64 N, .int .i64 t0, .int .i64 t1, .bool t2, .slice kx kn kc, .int .u8 junk] 47 (0, 0))).heap.size = w.heap.size + 2 := by simp [s1]
  have HXL := Lib.hid hdlt; have HK0 := Lib.hid h; have EW := Lib.hid eW; have HRM := Lib.hid hRM; have HP := Lib.hid hP; have HX := Lib.hid hX; have HA1 := Lib.hid a1; have HA2 := Lib.hid a2; have HOK := Lib.hid hoK; have HSW := Lib.hid sW
  subst hW1
  have hbn : B.length + 3 ≤ 1073741827 := by omega
  clear h eW hRM hP hX a1 a2 e1 e2 hoK hdata hdlt hdef s1 sW
  have hff : ∀ {i c : Nat} {g : Nat}, inFoot (.slice (some ⟨g, 0, none⟩) i c) = inFoot (.slice (some ⟨g, 0, none⟩) i c) := rfl
  clear hff
  have HBIG := Lib.hid (And.intro hb hbn)
  go_enter Try.func75, Try.ntmps75
  go_wp2_with (first
    | (go_at_call 50; refine (HRM.out).mono ?_; rintro e w3 ⟨g, cap, hg1, hg2, rfl, O3, S3⟩; obtain ⟨cc, rfl⟩ : ∃ cc, cap = cc + 1 := ⟨cap - 1, by omega⟩; have HP3 := Lib.hid (HP.out.ext0 S3.1); have HA13 := Lib.hid (HA1.out.ext S3.1 fun h => h); have HA23 := Lib.hid (HA2.out.ext S3.1 fun h => h); have HX3 := Lib.hid (HX.out.ext S3.1 fun _ _ h => h); have HO3 := Lib.hid O3; have HS3 := Lib.hid S3; have HG3 := Lib.hid (show w.heap.size + 2 ≤ g from by have := (S3.2 g rfl).resolve_left fun h => h; have := HSW.out; omega); have HGL := Lib.hid (show g < w3.heap.size from O3.lt g rfl); have p0 := HA13.out.cell 0 rfl; have p1 := HA13.out.cell 1 rfl; have o0 := HA23.out.cell 0 rfl; have o2 := HA23.out.cell 2 rfl; have o3 := HA23.out.cell 3 rfl; have o4 := HA23.out.cell 4 rfl; clear O3 S3)
    | (go_at_call 67; refine (pq_remove HP3.out hc s hs).mono ?_; rintro e w4 ⟨rfl, K4, hP4, hS4⟩; have HN4 := Lib.hid (fun i (h1 : w.heap.size ≤ i) (h2 : i < w3.heap.size) (h3 : K4 i) => (hS4.2 i h3).elim (HK0.out.notK h1) fun h => absurd h2 (by omega)); have HP4 := Lib.hid hP4; have HS4 := Lib.hid hS4; have HA14 := Lib.hid (HA13.out.ext hS4.1 (HK0.out.notK (Nat.le_refl _))); have HA24 := Lib.hid (HA23.out.ext hS4.1 (HK0.out.notK (by omega))); have HX4 := Lib.hid (HX3.out.ext hS4.1 HOK.out); have HO4 := Lib.hid (HO3.out.ext hS4.1 fun i hi => by obtain rfl : i = g := (Option.some.inj hi).symm; exact HK0.out.notK (by have := HG3.out; omega)); have HKX := Lib.hid (fun i (hi : inFoot (.slice dx B.length dc) i) (h3 : K4 i) => (hS4.2 i h3).elim (HOK.out i hi) fun h => by have := HXL.out i hi; have := EW.out.size; have := HS3.out.1.size; omega); clear p0 p1 o0 o2 o3 o4; have p1 := HA14.out.cell 1 rfl; have o0 := HA24.out.cell 0 rfl; have o2 := HA24.out.cell 2 rfl; have o3 := HA24.out.cell 3 rfl; have o4 := HA24.out.cell 4 rfl; clear hP4 hS4)
    | (go_at_call 101; refine (qq_remove HP4.out hc ha s hs).mono ?_; rintro e w5 ⟨rfl, K5, hP5, hS5⟩; have HN5 := Lib.hid (fun i (h1 : w.heap.size ≤ i) (h2 : i < w3.heap.size) (h3 : K5 i) => (hS5.2 i h3).elim (HN4.out i h1 h2) fun h => absurd h2 (by have := HS4.out.1.size; omega)); have HP5 := Lib.hid hP5; have HS5 := Lib.hid hS5; have HA25 := Lib.hid (HA24.out.ext hS5.1 (HN4.out _ (by omega) (by have := HG3.out; have := HGL.out; omega))); have HX5 := Lib.hid (HX4.out.ext hS5.1 HKX.out); have HO5 := Lib.hid (HO4.out.ext hS5.1 fun i hi => by obtain rfl : i = g := (Option.some.inj hi).symm; exact HN4.out _ (by have := HG3.out; omega) HGL.out); clear p1 o0 o2 o3 o4; have o3 := HA25.out.cell 3 rfl; clear hP5 hS5)
    | (go_at_call 98; refine (left6_m _ g (cc + 1) _ B HO5.out HX5.out (by have := HBIG.out.2; unfold Fits; omega)).mono ?_; rintro e w6 ⟨rfl, e6⟩; have HP6 := Lib.hid (HP5.out.ext0 e6); have HO6 := Lib.hid (HO5.out.ext e6 fun _ _ h => h); have HE6 := Lib.hid e6; clear e6 o3)
    | (go_at_call 54; refine (spoil_n _ g (B.length + 3) (cc + 1) _ (by simp) HO6.out (by omega) (by have := HBIG.out.2; unfold Fits; omega)).mono ?_; rintro e w7 ⟨rfl, -, e7⟩; have HP7 := Lib.hid (HP6.out.ext e7 fun i hi e => HN5.out i (by have e : i = g := e; have := HG3.out; omega) (by have e : i = g := e; have := HGL.out; omega) hi); have HE7 := Lib.hid e7; clear e7)
    | (go_at_call 18; refine (num_any _ _).mono ?_; rintro e w' ⟨rfl, rfl⟩))
  go_ret
  refine ⟨rfl, K5, HP7.out, ?_, fun i hi => ?_⟩
  · have hsz := EW.out.size
    have hs3 := HS3.out.1.size
    have f1 : Ext K w w3 := (EW.out.same HS3.out.1).mono fun _ _ h => h.elim
    have f2 : Ext K w w4 := f1.same HS4.out.1
    have f3 : Ext K w w5 := f2.trans HS5.out.1 fun i hi hk => (HS4.out.2 i hk).elim id fun h => by omega
    have f4 : Ext K w w6 := f3.trans HE6.out fun _ _ h => h.elim
    exact f4.trans HE7.out fun i hi e => by have e : i = g := e; have := HG3.out; omega
  · have hsz := EW.out.size
    have hs3 := HS3.out.1.size
    have hs4 := HS4.out.1.size
    rcases HS5.out.2 i hi with h | h
    · rcases HS4.out.2 i h with h | h
      · exact .inl h
      · exact .inr (by omega)
    · exact .inr (by omega)
theorem writes_m (w : World) (d q : Nat) (D : Dk) (K : Nat → Prop) (h : PQ w d q D D K) (o : OpD) (B : List UInt8) (ks : List Int) (ho : OpOk w o B ks) (hoK : ∀ k, inFoot (.slice o.dx o.dn o.dc) k → ¬ K k) (hc : D.calls ≤ 1099511627776) (ha : D.arms.length ≤ 1099511627776) (hb : B.length ≤ 1073741824) (hk : o.K = 1 ∨ o.K = 2 ∨ o.K = 3 ∨ o.K = 4 ∨ o.K = 5) :
    Calls Try.prog 75 #[.agg #[.pointer (some ⟨d, 0, none⟩), .pointer (some ⟨q, 0, none⟩)], .agg o.cells.toArray] w (Stepped w d q K (D.does o B).1) := by
  rcases hk with hk | hk | hk | hk | hk
  · exact writes1_m w d q D K h o B ks ho hoK hc ha hb hk
  · exact writes2_m w d q D K h o B ks ho hoK hc ha hb hk
  · exact writes3_m w d q D K h o B ks ho hoK hc ha hb hk
  · exact writes4_m w d q D K h o B ks ho hoK hc ha hb hk
  · exact writes5_m w d q D K h o B ks ho hoK hc ha hb hk
end Go.Proofs.Ytnppneilbkmnfaa
namespace Go.Proofs.Ytnppneilbkmnfaa
open Go.RowKit

def marks : List UInt8 := [201, 202, 203]
def markF : FI := ⟨[109, 97, 114, 107], [], .slice none 0 0⟩
/-- a file that is handed in: its bytes lie at the head of block g -/
structure HI where
  nm : Nm
  b : List UInt8
  g : Nat
  cap : Nat
def HI.v (x : HI) : Value := .slice (some ⟨x.g, 0, none⟩) x.b.length x.cap
def HI.fv (x : HI) : Value := .slice (some ⟨x.g, 0, none⟩) (x.b.length + 3) x.cap
def HI.fi (x : HI) : FI := ⟨x.nm, x.b, x.v⟩
structure Hand (w : World) (base : Nat) (fu uv : Value) (fs : List FI) (L : List HI) : Prop where
  files : OwnI w fu fs
  full : Own w 31 1 uv L.length (L.map HI.fv)
  each : ∀ x ∈ L, OwnB w x.fv (x.b ++ marks) ∧ x.b.length + 3 ≤ x.cap
  pair : L.Pairwise fun x y => x.g ≠ y.g
  apg : ∀ x ∈ L, base ≤ x.g ∧ x.g < w.heap.size ∧ ¬ inFoot fu x.g ∧ ¬ inFoot uv x.g
  apf : ∀ k, inFoot fu k → base ≤ k ∧ k < w.heap.size ∧ ¬ inFoot uv k
  apu : ∀ k, inFoot uv k → base ≤ k ∧ k < w.heap.size
theorem HI.foot {x : HI} (h : x.b.length + 3 ≤ x.cap) {k : Nat} (hk : inFoot x.fv k) : k = x.g := by
  unfold HI.fv at hk
  obtain ⟨c, hc⟩ : ∃ c, x.cap = c + 1 := ⟨x.cap - 1, by omega⟩
  rw [hc] at hk
  have hk : some x.g = some k := hk
  exact (Option.some.inj hk).symm
theorem HI.head {x : HI} (h : x.b.length + 3 ≤ x.cap) : inFoot x.fv x.g := by
  unfold HI.fv
  obtain ⟨c, hc⟩ : ∃ c, x.cap = c + 1 := ⟨x.cap - 1, by omega⟩
  rw [hc]
  rfl
theorem Hand.nil (w : World) (base : Nat) : Hand w base (.slice none 0 0) (.slice none 0 0) [] [] :=
  ⟨Own.nil _ _ _, Own.nil _ _ _, by simp, List.Pairwise.nil, by simp, by simp [inFoot, Go.Proofs.Ytnppneilbkmnfaa.foot], by simp [inFoot, Go.Proofs.Ytnppneilbkmnfaa.foot]⟩
theorem Hand.ext0 {w w' : World} {base : Nat} {fu uv : Value} {fs : List FI} {L : List HI} (h : Hand w base fu uv fs L) (e : Ext Nil w w') : Hand w' base fu uv fs L :=
  ⟨h.files.ext e fun _ _ h => h, h.full.ext e fun _ _ h => h, fun x hx => ⟨(h.each x hx).1.ext e fun _ _ h => h, (h.each x hx).2⟩, h.pair, fun x hx => ⟨(h.apg x hx).1, Nat.lt_of_lt_of_le (h.apg x hx).2.1 e.size, (h.apg x hx).2.2⟩,
    fun k hk => ⟨(h.apf k hk).1, Nat.lt_of_lt_of_le (h.apf k hk).2.1 e.size, (h.apf k hk).2.2⟩, fun k hk => ⟨(h.apu k hk).1, Nat.lt_of_lt_of_le (h.apu k hk).2 e.size⟩⟩
theorem Hand.next {wr w1 w2 w3 : World} {base : Nat} {fu uv fu' uv' : Value} {fs : List FI} {L : List HI} {y : HI} (h : Hand wr base fu uv fs L) (hb : base ≤ wr.heap.size) (hy : y.b.length + 3 ≤ y.cap) (hO : OwnB w1 y.fv (y.b ++ marks)) (e1 : Step Nil wr (One y.g) w1)
    (hU : Own w2 31 1 uv' (L.length + 1) (L.map HI.fv ++ [y.fv])) (S2 : Step (inFoot uv) w1 (inFoot uv') w2) (hF : OwnI w3 fu' (fs ++ [y.fi])) (S3 : Step (inFoot fu) w2 (inFoot fu') w3) : Hand w3 base fu' uv' (fs ++ [y.fi]) (L ++ [y]) := by
  have z1 := e1.1.size
  have z2 := S2.1.size
  have z3 := S3.1.size
  have hg1 : wr.heap.size ≤ y.g := (e1.2 y.g rfl).resolve_left fun h => h
  have hg2 : y.g < w1.heap.size := hO.lt y.g (HI.head hy)
  have hul : ∀ k, inFoot uv k → k < wr.heap.size := fun k hk => (h.apu k hk).2
  have hfl : ∀ k, inFoot fu k → k < wr.heap.size := fun k hk => (h.apf k hk).2.1
  have hfu : ∀ k, inFoot uv' k → ¬ inFoot fu k := fun k hk hf => by
    rcases S2.2 k hk with h1 | h1
    · exact (h.apf k hf).2.2 h1
    · have := hfl k hf
      omega
  have hul' : ∀ k, inFoot uv' k → k < w2.heap.size := hU.lt
  refine ⟨hF, ?_, ?_, ?_, ?_, ?_, ?_⟩
  · rw [List.length_append, List.map_append]
    exact hU.ext S3.1 hfu
  · intro x hx
    rcases List.mem_append.1 hx with hx | hx
    · have hf := (h.each x hx).2
      have hap := (h.apg x hx).2.2
      exact ⟨(((h.each x hx).1.ext e1.1 fun _ _ h => h).ext S2.1 fun k hk hf' => hap.2 (by rwa [← HI.foot hf hk])).ext S3.1 fun k hk hf' => hap.1 (by rwa [← HI.foot hf hk]), hf⟩
    · rw [List.mem_singleton] at hx
      subst hx
      refine ⟨(hO.ext S2.1 fun k hk hf' => ?_).ext S3.1 fun k hk hf' => ?_, hy⟩
      · have := HI.foot hy hk
        have := hul k hf'
        omega
      · have := HI.foot hy hk
        have := hfl k hf'
        omega
  · rw [List.pairwise_append]
    refine ⟨h.pair, List.pairwise_singleton .., fun x hx z hz => ?_⟩
    rw [List.mem_singleton] at hz
    subst hz
    have := (h.apg x hx).2.1
    omega
  · intro x hx
    rcases List.mem_append.1 hx with hx | hx
    · obtain ⟨h1, h2, h3, h4⟩ := h.apg x hx
      refine ⟨h1, by omega, fun hk => ?_, fun hk => ?_⟩
      · rcases S3.2 _ hk with h5 | h5
        · exact h3 h5
        · omega
      · rcases S2.2 _ hk with h5 | h5
        · exact h4 h5
        · omega
    · rw [List.mem_singleton] at hx
      subst hx
      refine ⟨by omega, by omega, fun hk => ?_, fun hk => ?_⟩
      · rcases S3.2 _ hk with h5 | h5
        · have := hfl _ h5; omega
        · omega
      · rcases S2.2 _ hk with h5 | h5
        · have := hul _ h5; omega
        · omega
  · intro k hk
    have hk3 := Own.lt hF k hk
    rcases S3.2 k hk with h5 | h5
    · exact ⟨(h.apf k h5).1, hk3, fun hu => hfu k hu h5⟩
    · exact ⟨by omega, hk3, fun hu => by have := hul' k hu; omega⟩
  · intro k hk
    have := hul' k hk
    rcases S2.2 k hk with h5 | h5
    · exact ⟨(h.apu k h5).1, by omega⟩
    · exact ⟨by omega, by omega⟩
/-- the mark behind the files -/
theorem Hand.marked {w w' : World} {base : Nat} {fu fu' uv : Value} {fs fs' : List FI} {L : List HI} (h : Hand w base fu uv fs L) (hb : base ≤ w.heap.size) (hF : OwnI w' fu' fs') (S : Step (inFoot fu) w (inFoot fu') w') : Hand w' base fu' uv fs' L := by
  have z := S.1.size
  have hfu : ∀ k, inFoot uv k → ¬ inFoot fu k := fun k hk hf => (h.apf k hf).2.2 hk
  refine ⟨hF, h.full.ext S.1 hfu, fun x hx => ⟨(h.each x hx).1.ext S.1 fun k hk hf => (h.apg x hx).2.2.1 (by rwa [← HI.foot (h.each x hx).2 hk]), (h.each x hx).2⟩, h.pair, fun x hx => ?_, fun k hk => ?_, fun k hk => ⟨(h.apu k hk).1, by have := (h.apu k hk).2; omega⟩⟩
  · obtain ⟨h1, h2, h3, h4⟩ := h.apg x hx
    exact ⟨h1, by omega, fun hk => (S.2 _ hk).elim h3 fun h => by omega, h4⟩
  · have hk3 := Own.lt hF k hk
    rcases S.2 k hk with h5 | h5
    · exact ⟨(h.apf k h5).1, hk3, (h.apf k h5).2.2⟩
    · exact ⟨by omega, hk3, fun hu => by have := (h.apu k hu).2; omega⟩
theorem info_bytes31 : (Try.prog.info? 31).map (fun i => (i.zero, i.size, i.bytes)) = some (some (.slice none 0 0), 1, 24) := by kernel_rfl
/-- append of a slice of bytes onto a row of such -/
theorem run_appendF {w : World} {v : Value} {n : Nat} {xs : List Value} (hown : Own w 31 1 v n xs) (ga : Option Addr) (gn gc : Nat) (hfit : n ≤ 1099511627776) (ty : TypeId) :
    ∃ ao cap w', (Builtin.append_ #[92, 92] ty #[v, .slice (some ⟨w.heap.size, 0, none⟩) 1 1]).run Try.prog (w.alloc (.cells #[.slice ga gn gc] 31 (0, 0))) = .ok (.slice ao (n + 1) cap) w' ∧
      Own w' 31 1 (.slice ao (n + 1) cap) (n + 1) (xs ++ [.slice ga gn gc]) ∧ Step (inFoot v) w (inFoot (.slice ao (n + 1) cap)) w' := by
  have e : Ext Nil w (w.alloc (.cells #[.slice ga gn gc] 31 (0, 0))) := (Ext.refl _ _).alloc _
  obtain ⟨i, hi, hz', h1, h2⟩ := info_parts info_bytes31
  obtain ⟨v', w', hr, h3, h4, h5⟩ := run_append (P := Try.prog) (w.alloc (.cells #[.slice ga gn gc] 31 (0, 0))) 92 92 ty 31 i (.slice none 0 0) 1 24 Try.underlying92 hi hz' h1 h2 rfl v n xs (hown.ext e fun _ _ h => h) (.slice (some ⟨w.heap.size, 0, none⟩) 1 1) 1 [.slice ga gn gc]
    (Reads.src (P := Try.prog) (Reads.item w [.slice ga gn gc] 31 1 rfl) Try.underlying92 (by intro u hu; rw [List.mem_singleton] at hu; subst hu; rfl)) (by unfold maxLen; omega) (by omega)
  obtain ⟨ao, cap, rfl, h6, h7⟩ := h3.shape
  exact ⟨ao, cap, w', hr, h3, (e.mono fun _ _ h => h.elim).same h4, fun k hk => (h5 k hk).imp id fun h => Nat.le_trans e.size h⟩
set_option maxRecDepth 20000 in
set_option maxHeartbeats 2000000 in
theorem handed_m (w : World) (vi : Value) (I : List FI) (hI : ImgR w vi I) (hfew : I.length ≤ 1048576) (hbyt : ∀ x ∈ I, x.b.length ≤ 1073741824) :
    Calls Try.prog 71 #[.agg #[vi]] w fun e w' => ∃ fu uv L, e = .returned (.tuple #[fu, uv]) ∧ Hand w' (w.heap.size + 1) fu uv (L.map HI.fi ++ [markF]) L ∧ (L.map HI.fi).map FI.pair = I.map FI.pair ∧ Ext Nil w w' := by
  obtain ⟨ai, ci, rfl, hi1, hi2⟩ := hI.see.shape
  unfold maxLen at hi2
  have eW : Ext Nil w (w.alloc (.cells #[.slice ai I.length ci] 36 (0, 0))) := (Ext.refl _ _).alloc _
  have bW := (At.new w [.slice ai I.length ci] 36).cell 0 rfl
  have HI' := Lib.hid hI; have HEW := Lib.hid eW; have HBW := Lib.hid bW; have HBY := Lib.hid hbyt
  clear hI eW bW hbyt
  go_enter Try.func71, Try.ntmps71
  go_wp2_with fail
  go_loopw [4, 5, 6] (fun fu uv i wr => ∃ (L : List HI), i = .int .i64 L.length ∧ L.length ≤ I.length ∧ (L.map HI.fi).map FI.pair = (I.map FI.pair).take L.length ∧ Hand wr (w.heap.size + 1) fu uv (L.map HI.fi) L ∧ Ext Nil w wr ∧ wr.cell? ⟨w.heap.size, 0, none⟩ = some (.slice ai I.length ci)) (fun _ _ i _ => I.length - (intOf i).toNat)
  case atStart => exact ⟨[], rfl, Nat.zero_le _, rfl, Hand.nil _ _, HEW.out, HBW.out⟩
  case round =>
    obtain ⟨L, rfl, hle, hpr, hH, hE, hbw⟩ := hrel
    have hwl : w.heap.size < wr.heap.size := (cell_spot hbw).2
    obtain ⟨fa, fc, hfu, hf1, hf2⟩ := Own.shape hH.files
    rw [List.length_map] at hfu hf1
    subst hfu
    obtain ⟨ua, uc, rfl, hu1, hu2⟩ := Own.shape hH.full
    by_cases hlt : L.length < I.length
    · obtain ⟨b, off, cap', hao, -, -, hcell⟩ := HI'.out.open (by omega)
      simp only [Value.slice.injEq, true_and] at hao
      obtain ⟨rfl, rfl⟩ := hao
      obtain ⟨x, hx⟩ : ∃ x, I[L.length]? = some x := ⟨_, List.getElem?_eq_getElem hlt⟩
      obtain ⟨c0, c1⟩ := hcell _ x hx
      have hB := HI'.out.bytes x (List.mem_of_getElem? hx)
      obtain ⟨bx, cx, hxv, hxc, hxm, -⟩ := hB.open
      rw [hxv] at c1 hB
      replace c0 := hE.cell c0 fun h => h
      replace c1 := hE.cell c1 fun h => h
      have hxl := HBY.out x (List.mem_of_getElem? hx)
      have hws := hE.size
      have HRM := Lib.hid (room_m wr (.slice bx x.b.length cx) x.b (hB.ext hE fun _ _ h => h) (by unfold Fits; omega))
      have HH := Lib.hid hH; have HE := Lib.hid hE; have HX := Lib.hid hx; have HPR := Lib.hid hpr
      clear hH hE hx hpr hB hxv hcell
      go_wp2_with (first
        | (go_at_call 50; refine (HRM.out).mono ?_; rintro e w1 ⟨g, cap, hg1, hg2, rfl, O1, S1⟩; have b1 := S1.1.cell hbw fun h => h; have b0 := S1.1.cell c0 fun h => h; have bb := S1.1.cell c1 fun h => h; obtain ⟨ao2, cap2, w2, hrun2, O2, S2⟩ := run_appendF (HH.out.full.ext S1.1 fun _ _ h => h) (some ⟨g, 0, none⟩) (x.b.length + 3) cap (by omega) 92; have HO1 := Lib.hid O1; have HS1 := Lib.hid S1; have HO2 := Lib.hid O2; have HS2 := Lib.hid S2; clear O1 S1 O2 S2)
        | (at_builtin; refine wpList_append_run rfl (.tmp 22) (.tmp 24) 92 92 rfl _ _ _ rfl rfl hrun2 ?_))
      have hnu : ∀ k, k ≤ w.heap.size → ¬ inFoot (.slice ua L.length uc) k := fun k hk hf => by have := (HH.out.apu k hf).1; omega
      have hnf : ∀ k, k ≤ w.heap.size → ¬ inFoot (.slice fa L.length fc) k := fun k hk hf => by have := (HH.out.apf k hf).1; omega
      have hbl : b < w.heap.size := by
        have := (HI'.out.open (by omega)); obtain ⟨b', off', c', e', -, -, hc'⟩ := this
        simp only [Value.slice.injEq, Option.some.injEq, Addr.mk.injEq, and_true, true_and] at e'
        obtain ⟨⟨rfl, rfl⟩, rfl⟩ := e'
        exact (cell_spot (hc' _ x HX.out).1).2
      have k3 := HS2.out.1.cell b1 (hnu _ (Nat.le_refl _))
      have k0 := HS2.out.1.cell b0 (hnu b (by omega))
      have k1 := HS2.out.1.cell bb (hnu b (by omega))
      have eX : Ext Nil w2 (w2.drew.alloc (.cells #[.string ⟨x.nm.toArray⟩, .slice (some ⟨g, 0, none⟩) x.b.length cap] 41 (0, 0))) := (Ext.refl Nil w2).drew.alloc _
      have hRo : OwnI w2 (.slice fa L.length fc) (L.map HI.fi) := ((HH.out.files.ext HS1.out.1 fun _ _ h => h).ext HS2.out.1 fun k hk => (HH.out.apf k hk).2.2)
      obtain ⟨ao3, cap3, w3, hrun3, O3, S3⟩ := run_appendI (hRo.ext eX fun _ _ h => h) (x := ⟨x.nm, x.b, .slice (some ⟨g, 0, none⟩) x.b.length cap⟩) (Reads.oneFI w2.drew ⟨x.nm, x.b, .slice (some ⟨g, 0, none⟩) x.b.length cap⟩) ⟨_, _, _, rfl⟩ (by rw [List.length_map]; omega) 34
      rw [List.length_map] at hrun3 O3 S3
      have hrun3 : (Builtin.append_ #[34, 34] 34 #[.slice fa L.length fc, .slice (some ⟨w2.heap.size, 0, none⟩) 1 1]).run Try.prog (w2.drew.alloc (.cells #[.string ⟨x.nm.toArray⟩, .slice (some ⟨g, 0, none⟩) x.b.length cap] 41 (0, 0))) = .ok (.slice ao3 (L.length + 1) cap3) w3 := hrun3
      have S3' : Step (inFoot (.slice fa L.length fc)) w2 (inFoot (.slice ao3 (L.length + 1) cap3)) w3 := by exact ⟨(eX.mono fun _ _ h => h.elim).same S3.1, fun k hk => (S3.2 k hk).imp id fun h => Nat.le_trans eX.size h⟩
      have hN := HH.out.next (y := ⟨x.nm, x.b, g, cap⟩) (by omega) hg1 HO1.out HS1.out HO2.out HS2.out O3 S3'
      have hE9 : Ext Nil w w3 := ((HE.out.same HS1.out.1).trans HS2.out.1 fun k hk hf => hnu k (by omega) hf).trans S3'.1 fun k hk hf => hnf k (by omega) hf
      have y3 := S3.1.cell (eX.cell k3 fun h => h) (hnf _ (Nat.le_refl _))
      have y0 := S3.1.cell (eX.cell k0 fun h => h) (hnf b (by omega))
      have y1 := S3.1.cell (eX.cell k1 fun h => h) (hnf b (by omega))
      have hxcap : x.b.length ≤ cap := by omega
      have HZ := Lib.hid (And.intro y3 (And.intro y0 y1)); have HN := Lib.hid hN; have HE9 := Lib.hid hE9
      clear hnu hnf eX hRo O3 S3 S3' hN hE9 y3 y0 y1 hrun2
      refine wp_region_held_drew (S := fun w' => w'.cell? ⟨w.heap.size, 0, none⟩ = some (.slice (some ⟨b, off, none⟩) I.length ci) ∧ w'.cell? ⟨b, off + L.length * 2, none⟩ = some (.string ⟨x.nm.toArray⟩) ∧ w'.cell? ⟨b, off + L.length * 2 + 1, none⟩ = some (.slice bx x.b.length cx)) (by kernel_rfl) ⟨k3, k0, k1⟩ (fun hHeld => ?_)
      refine wpAnyH_take (i := 0) (v := .slice fa L.length fc) rfl (by kernel_rfl) (by kernel_rfl) (by kernel_rfl) (fun _ _ _ h => h) (Or.inl ⟨by rfl, ?y1⟩) (by assumption) ?r1
      case y1 => (intro w hSw; obtain ⟨s1, s2, s3⟩ := hSw; go_simp)
      simp only [Act.put]
      refine wpAnyH_take (i := 1) (v := .pointer (some ⟨w.heap.size, 0, none⟩)) rfl (by kernel_rfl) (by kernel_rfl) (by kernel_rfl) (fun _ _ _ h => h) (Or.inl ⟨by rfl, ?y2⟩) (by assumption) ?r2
      case y2 => (intro w hSw; obtain ⟨s1, s2, s3⟩ := hSw; go_simp)
      simp only [Act.put]
      refine wpAnyH_take (i := 2) (v := .slice (some ⟨b, off, none⟩) I.length ci) rfl (by kernel_rfl) (by kernel_rfl) (by kernel_rfl) (fun _ _ _ h => h) (Or.inl ⟨by rfl, ?y3⟩) (by assumption) ?r3
      case y3 => (intro w hSw; obtain ⟨s1, s2, s3⟩ := hSw; go_simp)
      simp only [Act.put]
      refine wpAnyH_take (i := 3) (v := .int .i64 (L.length : Int)) rfl (by kernel_rfl) (by kernel_rfl) (by kernel_rfl) (fun _ _ _ h => h) (Or.inl ⟨by rfl, ?y4⟩) (by assumption) ?r4
      case y4 => (intro w hSw; obtain ⟨s1, s2, s3⟩ := hSw; go_simp)
      simp only [Act.put]
      refine wpAnyH_take (i := 4) (v := .pointer (some ⟨b, off + L.length * 2, none⟩)) rfl (by kernel_rfl) (by kernel_rfl) (by kernel_rfl) (fun _ _ _ h => h) (Or.inl ⟨by rfl, ?y5⟩) (by assumption) ?r5
      case y5 => (intro w hSw; obtain ⟨s1, s2, s3⟩ := hSw; go_simp)
      simp only [Act.put]
      refine wpAnyH_take (i := 5) (v := .pointer (some ⟨b, off + L.length * 2, none⟩)) rfl (by kernel_rfl) (by kernel_rfl) (by kernel_rfl) (fun _ _ _ h => h) (Or.inl ⟨by rfl, ?y6⟩) (by assumption) ?r6
      case y6 => (intro w hSw; obtain ⟨s1, s2, s3⟩ := hSw; go_simp)
      simp only [Act.put]
      refine wpAnyH_take (i := 6) (v := .string ⟨x.nm.toArray⟩) rfl (by kernel_rfl) (by kernel_rfl) (by kernel_rfl) (fun _ _ _ h => h) (Or.inl ⟨by rfl, ?y7⟩) (by assumption) ?r7
      case y7 => (intro w hSw; obtain ⟨s1, s2, s3⟩ := hSw; go_simp)
      simp only [Act.put]
      refine wpAnyH_take (i := 7) (v := .slice (some ⟨g, 0, none⟩) (x.b.length + 3) cap) rfl (by kernel_rfl) (by kernel_rfl) (by kernel_rfl) (fun _ _ _ h => h) (Or.inl ⟨by rfl, ?y8⟩) (by assumption) ?r8
      case y8 => (intro w hSw; obtain ⟨s1, s2, s3⟩ := hSw; go_simp)
      simp only [Act.put]
      refine wpAnyH_take (i := 8) (v := .pointer (some ⟨w.heap.size, 0, none⟩)) rfl (by kernel_rfl) (by kernel_rfl) (by kernel_rfl) (fun _ _ _ h => h) (Or.inl ⟨by rfl, ?y9⟩) (by assumption) ?r9
      case y9 => (intro w hSw; obtain ⟨s1, s2, s3⟩ := hSw; go_simp)
      simp only [Act.put]
      refine wpAnyH_take (i := 9) (v := .slice (some ⟨b, off, none⟩) I.length ci) rfl (by kernel_rfl) (by kernel_rfl) (by kernel_rfl) (fun _ _ _ h => h) (Or.inl ⟨by rfl, ?y10⟩) (by assumption) ?r10
      case y10 => (intro w hSw; obtain ⟨s1, s2, s3⟩ := hSw; go_simp)
      simp only [Act.put]
      refine wpAnyH_take (i := 10) (v := .int .i64 (L.length : Int)) rfl (by kernel_rfl) (by kernel_rfl) (by kernel_rfl) (fun _ _ _ h => h) (Or.inl ⟨by rfl, ?y11⟩) (by assumption) ?r11
      case y11 => (intro w hSw; obtain ⟨s1, s2, s3⟩ := hSw; go_simp)
      simp only [Act.put]
      refine wpAnyH_take (i := 11) (v := .pointer (some ⟨b, off + L.length * 2, none⟩)) rfl (by kernel_rfl) (by kernel_rfl) (by kernel_rfl) (fun _ _ _ h => h) (Or.inl ⟨by rfl, ?y12⟩) (by assumption) ?r12
      case y12 => (intro w hSw; obtain ⟨s1, s2, s3⟩ := hSw; go_simp)
      simp only [Act.put]
      refine wpAnyH_take (i := 12) (v := .pointer (some ⟨b, off + L.length * 2 + 1, none⟩)) rfl (by kernel_rfl) (by kernel_rfl) (by kernel_rfl) (fun _ _ _ h => h) (Or.inl ⟨by rfl, ?y13⟩) (by assumption) ?r13
      case y13 => (intro w hSw; obtain ⟨s1, s2, s3⟩ := hSw; go_simp)
      simp only [Act.put]
      refine wpAnyH_take (i := 13) (v := .slice bx x.b.length cx) rfl (by kernel_rfl) (by kernel_rfl) (by kernel_rfl) (fun _ _ _ h => h) (Or.inl ⟨by rfl, ?y14⟩) (by assumption) ?r14
      case y14 => (intro w hSw; obtain ⟨s1, s2, s3⟩ := hSw; go_simp)
      simp only [Act.put]
      refine wpAnyH_take (i := 14) (v := .int .i64 x.b.length) rfl (by kernel_rfl) (by kernel_rfl) (by kernel_rfl) (fun _ _ _ h => h) (Or.inl ⟨by rfl, ?y15⟩) (by assumption) ?r15
      case y15 => (intro w hSw; obtain ⟨s1, s2, s3⟩ := hSw; go_simp)
      simp only [Act.put]
      refine wpAnyH_take (i := 15) (v := .slice (some ⟨g, 0, none⟩) x.b.length cap) rfl (by kernel_rfl) (by kernel_rfl) (by kernel_rfl) (fun _ _ _ h => h) (Or.inl ⟨by rfl, ?y16⟩) (by assumption) ?r16
      case y16 => (intro w hSw; obtain ⟨s1, s2, s3⟩ := hSw; go_simp)
      simp only [Act.put]
      refine wpAnyH_take (i := 16) (v := .agg #[.string ⟨x.nm.toArray⟩, .slice (some ⟨g, 0, none⟩) x.b.length cap]) rfl (by kernel_rfl) (by kernel_rfl) (by kernel_rfl) (fun _ _ _ h => h) (Or.inl ⟨by rfl, ?y17⟩) (by assumption) ?r17
      case y17 => (intro w hSw; obtain ⟨s1, s2, s3⟩ := hSw; go_simp)
      simp only [Act.put]
      refine wpAnyH_ready (rs := [17]) (by kernel_rfl) (by simp) (AllReadyH.cons rfl (fun K hK => ?_) AllReadyH.nil)
      go_simp
      refine hK.out _ _ ⟨(((Ext.refl Nil w2).drew.alloc _).cell k3 fun h => h), (((Ext.refl Nil w2).drew.alloc _).cell k0 fun h => h), (((Ext.refl Nil w2).drew.alloc _).cell k1 fun h => h)⟩ (fun hHeld => ?_)
      clear hK K
      refine wpAnyH_ready (rs := [18]) (by kernel_rfl) (by simp) (AllReadyH.cons rfl (fun K hK => ?_) AllReadyH.nil)
      refine step_append_run rfl _ _ _ _ rfl _ _ _ rfl rfl hrun3 ?_
      refine hK.out _ _ HZ.out (fun hHeld => ?_)
      clear hK K
      simp only [Act.put]
      refine wpAnyH_take (i := 19) (v := .slice ao3 (L.length + 1) cap3) rfl (by kernel_rfl) (by kernel_rfl) (by kernel_rfl) (fun _ _ _ h => h) (Or.inl ⟨by rfl, ?y18⟩) (by assumption) ?r18
      case y18 => (intro w hSw; obtain ⟨s1, s2, s3⟩ := hSw; go_simp)
      simp only [Act.put]
      refine wpAnyH_done (by kernel_rfl) ?_ _
      go_wp2_with fail
      have hpr2 : ((L ++ [(⟨x.nm, x.b, g, cap⟩ : HI)]).map HI.fi).map FI.pair = (I.map FI.pair).take (L ++ [(⟨x.nm, x.b, g, cap⟩ : HI)]).length := by
        rw [List.map_append, List.map_append, HPR.out, List.length_append, List.length_singleton, List.take_add_one, pairs_at HX.out]
        rfl
      exact ⟨⟨L ++ [⟨x.nm, x.b, g, cap⟩], by simp, by simp; omega, hpr2, by rw [List.map_append]; exact HN.out, HE9.out, HZ.out.1⟩, by simp [intOf]; omega⟩
    · have hle2 : L.length = I.length := by omega
      have hX := (Ext.refl Nil wr).alloc (.cells #[.string ⟨#[109, 97, 114, 107]⟩, .slice none 0 0] 41 (0, 0))
      obtain ⟨ao3, cap3, w3, hrun3, O3, S3⟩ := run_appendI (hH.files.ext hX fun _ _ h => h) (x := markF) (Reads.oneFI wr markF) ⟨_, _, _, rfl⟩ (by rw [List.length_map]; omega) 34
      rw [List.length_map] at hrun3 O3 S3
      have hrun3 : (Builtin.append_ #[34, 34] 34 #[.slice fa L.length fc, .slice (some ⟨wr.heap.size, 0, none⟩) 1 1]).run Try.prog (wr.alloc (.cells #[.string ⟨#[109, 97, 114, 107]⟩, .slice none 0 0] 41 (0, 0))) = .ok (.slice ao3 (L.length + 1) cap3) w3 := hrun3
      have hws := hE.size
      have hSW : Step (inFoot (.slice fa L.length fc)) wr (inFoot (.slice ao3 (L.length + 1) cap3)) w3 := ⟨(hX.mono fun _ _ h => h.elim).same S3.1, fun k hk => (S3.2 k hk).imp id fun h => Nat.le_trans hX.size h⟩
      have hM := hH.marked (by omega) O3 hSW
      have hE9 : Ext Nil w w3 := hE.trans hSW.1 fun k hk hf => by have := (hH.apf k hf).1; omega
      have HM := Lib.hid hM; have HE9 := Lib.hid hE9; have HPR := Lib.hid hpr; have HL2 := Lib.hid hle2
      have hnot : ¬ (L.length : Int) < (I.length : Int) := by omega
      clear hM hE9 hSW hX O3 S3 hH hE hpr hle2 hlt
      go_wp2_with (at_builtin; refine wpList_append_run rfl (.tmp 45) (.tmp 47) 34 34 rfl _ _ _ rfl rfl hrun3 ?_)
      go_ret2
      refine ⟨_, _, rfl, L, HM.out, by rw [← List.map_map, HPR.out, HL2.out, List.take_of_length_le (by simp)], HE9.out⟩
end Go.Proofs.Ytnppneilbkmnfaa
namespace Go.Proofs.Ytnppneilbkmnfaa
open Go.RowKit

theorem left6_q (w : World) (g cap : Nat) (x : Value) (ys : List UInt8) (hl : OwnB w (.slice (some ⟨g, 0, none⟩) (ys.length + 3) cap) (ys ++ [201, 202, 203])) (hx : Bytes w x ys) (hfit : Fits (ys.length + 3)) :
    Calls Try.prog 98 #[.slice (some ⟨g, 0, none⟩) (ys.length + 3) cap, x] w fun e w' => e = .returned (.bool true) ∧ ∃ n, w' = w.drewN n := by
  have hfit' : ys.length + 3 ≤ 1099511627776 := hfit
  obtain ⟨ao, capx, rfl, hcapx, hmaxx, hc⟩ := hx.open
  have hle : ys.length ≤ cap := by
    obtain ⟨_, _, e, h, _⟩ := Own.shape hl
    simp only [Value.slice.injEq] at e
    simp at h
    omega
  have hB : Bytes w (.slice (some ⟨g, 0, none⟩) ys.length cap) ys := hl.first rfl
  have a0 := (hl.at ys.length (by simp)).1
  have a1 := (hl.at (ys.length + 1) (by simp)).1
  have a2 := (hl.at (ys.length + 2) (by simp)).1
  simp at a0 a1 a2
  have s1 := fun n => to_str (w.drewN n) _ _ (hB.drewN n)
  have s2 := fun n => to_str (w.drewN n) _ _ (hx.drewN n)
  have hbb : (ys == ys) = true := by simp
  have w3 : IntKind.i64.wrap ((ys.length : Int) + 3) = ((ys.length + 3 : Nat) : Int) := by rw [IntWalk.i64_in _ (by omega)]; omega
  have w1 : IntKind.i64.wrap ((ys.length : Int) + 1) = ((ys.length + 1 : Nat) : Int) := by rw [IntWalk.i64_in _ (by omega)]; omega
  have w2 : IntKind.i64.wrap ((ys.length : Int) + 2) = ((ys.length + 2 : Nat) : Int) := by rw [IntWalk.i64_in _ (by omega)]; omega
  clear hc hl hx hB
  generalize ys.length = n at *
  go_enter Try.func98, Try.ntmps98
  go_wp2_with fail
  go_quiet (fail)
  go_wp2_with fail
  go_ret
  exact ⟨rfl, _, rfl⟩
theorem Hand.see {w : World} {base : Nat} {fu uv : Value} {L : List HI} (h : Hand w base fu uv (L.map HI.fi ++ [markF]) L) : ImgV w fu (L.map HI.fi ++ [markF]) := by
  refine ⟨Own.reads h.files, fun x hx => ?_⟩
  rcases List.mem_append.1 hx with hx | hx
  · obtain ⟨y, hy, rfl⟩ := List.mem_map.1 hx
    exact (h.each y hy).1.first rfl
  · rw [List.mem_singleton] at hx
    subst hx
    exact ⟨rfl, _, _, rfl, Nat.le_refl _, by simp [maxLen], fun h => absurd rfl h⟩
theorem full_at {w : World} {ao : Option Addr} {n cap : Nat} {L : List HI} (h : Own w 31 1 (.slice ao n cap) n (L.map HI.fv)) (hn : 0 < n) : ∃ g c, ao = some ⟨g, 0, none⟩ ∧ cap = c + 1 ∧ g < w.heap.size ∧ ∀ k x, L[k]? = some x → w.cell? ⟨g, k, none⟩ = some x.fv := by
  have hr := h.reads
  rcases h.2 with ⟨ao', h1, h2⟩ | ⟨g, c, cs, h1, h2, h3, h4, h5, h6⟩
  · omega
  · simp only [Value.slice.injEq, true_and] at h1
    obtain ⟨rfl, rfl⟩ := h1
    obtain ⟨-, ao', cap', h7, -, -, h8⟩ := hr
    simp only [Value.slice.injEq, true_and] at h7
    obtain ⟨rfl, rfl⟩ := h7
    refine ⟨g, c, rfl, rfl, h2.lt, fun k x hx => ?_⟩
    obtain ⟨b, off, h9, hc⟩ := h8 (by intro e; rw [List.map_eq_nil_iff] at e; subst e; simp at hx)
    simp only [Option.some.injEq, Addr.mk.injEq, and_true] at h9
    obtain ⟨rfl, rfl⟩ := h9
    have := hc k x.fv (by rw [List.getElem?_map, hx]; rfl)
    rwa [Nat.zero_add] at this
theorem hi_at {L : List HI} {I : List FI} (h : (L.map HI.fi).map FI.pair = I.map FI.pair) {k : Nat} {x : HI} {y : FI} (hx : L[k]? = some x) (hy : I[k]? = some y) : y.nm = x.nm ∧ y.b = x.b := by
  have h1 := congrArg (·[k]?) h
  simp only [List.getElem?_map, hx, hy, Option.map_some, Option.some.injEq] at h1
  have h1 : (x.nm, x.b) = (y.nm, y.b) := h1
  simp only [Prod.mk.injEq] at h1
  exact ⟨h1.1.symm, h1.2.symm⟩

set_option maxRecDepth 20000 in
set_option maxHeartbeats 2000000 in
theorem untouched_m (w : World) (base : Nat) (fu uv vi : Value) (L : List HI) (I : List FI) (h : Hand w base fu uv (L.map HI.fi ++ [markF]) L) (hI : ImgV w vi I) (hp : (L.map HI.fi).map FI.pair = I.map FI.pair) (hfew : I.length ≤ 1048576) (hbyt : ∀ x ∈ I, x.b.length ≤ 1073741824) :
    Calls Try.prog 73 #[fu, uv, .agg #[vi]] w fun e w' => e = .returned (.bool true) ∧ Ext Nil w w' := by
  have hlen : L.length = I.length := by have := congrArg List.length hp; simpa using this
  obtain ⟨fa, fc, hfu, hf1, hf2⟩ := Own.shape h.files
  simp only [List.length_append, List.length_map, List.length_singleton] at hfu hf1
  rw [hlen] at hfu hf1
  subst hfu
  obtain ⟨ua, uc, huv, hu1, hu2⟩ := Own.shape h.full
  rw [hlen] at huv hu1
  subst huv
  obtain ⟨ai, ci, rfl, hi1, hi2⟩ := hI.shape
  have eW : Ext Nil w (w.alloc (.cells #[.slice ai I.length ci] 36 (0, 0))) := (Ext.refl _ _).alloc _
  have bW := (At.new w [.slice ai I.length ci] 36).cell 0 rfl
  have hS := h.see.ext0 eW
  have hV := hI.ext0 eW
  have hF := h.full.ext eW fun _ _ h => h
  rw [hlen] at hF
  obtain ⟨bf, of, bm, cm, rfl, hm, f0, f1, hbf, -⟩ := hS.at (k := I.length) (x := markF) (by rw [List.getElem?_append_right (by simp [hlen]), List.length_map, hlen]; simp)
  have hm : (Value.slice none 0 0) = .slice bm 0 cm := hm
  simp only [Value.slice.injEq, true_and] at hm
  obtain ⟨rfl, rfl⟩ := hm
  have w1 : IntKind.i64.wrap ((I.length : Int) + 1) = ((I.length + 1 : Nat) : Int) := by rw [IntWalk.i64_in _ (by omega)]; omega
  replace f0 : (w.alloc (.cells #[.slice ai I.length ci] 36 (0, 0))).cell? ⟨bf, of + I.length * 2, none⟩ = some (.string ⟨#[109, 97, 114, 107]⟩) := f0
  replace f1 : (w.alloc (.cells #[.slice ai I.length ci] 36 (0, 0))).cell? ⟨bf, of + I.length * 2 + 1, none⟩ = some (.slice none 0 0) := f1
  have HS := Lib.hid hS; have HV := Lib.hid hV; have HF := Lib.hid hF; have HP := Lib.hid hp; have HEA := Lib.hid (fun x hx => (h.each x hx).1.ext eW fun _ _ h => h); have HBY := Lib.hid hbyt; have HEW := Lib.hid eW; have HLEN := Lib.hid hlen; have HIM := Lib.hid bW
  clear hS hV hF hp h hI hbyt eW hlen
  go_enter Try.func73, Try.ntmps73
  go_wp2_with fail
  clear f0 f1 w1 bW
  generalize w.alloc (.cells #[.slice ai I.length ci] 36 (0, 0)) = W at *
  go_loopw [8] (fun i wr => ∃ k : Nat, k ≤ I.length ∧ i = .int .i64 k ∧ ∃ n, wr = W.drewN n) (fun i _ => I.length - (intOf i).toNat)
  case atStart => exact ⟨0, Nat.zero_le _, rfl, 0, rfl⟩
  case round =>
    obtain ⟨k, hk, rfl, n, rfl⟩ := hrel
    by_cases hlt : k < I.length
    · obtain ⟨x, hx⟩ : ∃ x, L[k]? = some x := ⟨_, List.getElem?_eq_getElem (by have := HLEN.out; omega)⟩
      obtain ⟨y, hy⟩ : ∃ y, I[k]? = some y := ⟨_, List.getElem?_eq_getElem hlt⟩
      obtain ⟨e1, e2⟩ := hi_at HP.out hx hy
      obtain ⟨bf', of', bx, cx, hao, hv, g0, g1, hbf2, hxB⟩ := HS.out.at (k := k) (x := x.fi) (by rw [List.getElem?_append_left (by rw [List.length_map]; have := HLEN.out; omega), List.getElem?_map, hx]; rfl)
      simp only [Option.some.injEq, Addr.mk.injEq, and_true] at hao
      obtain ⟨rfl, rfl⟩ := hao
      obtain ⟨bi, oi, by_, cy, rfl, -, i0, i1, hbi, hyB⟩ := HV.out.at hy
      obtain ⟨gu, cu, rfl, rfl, hgu, hful⟩ := full_at HF.out (by omega)
      have u0 := hful k x hx
      have hO := HEA.out x (List.mem_of_getElem? hx)
      have hyl := HBY.out y (List.mem_of_getElem? hy)
      rw [e1] at i0
      rw [e2] at i1 hyB hyl
      have hb3 := HIM.out
      replace g0 : W.cell? ⟨bf, of + k * 2, none⟩ = some (.string ⟨x.nm.toArray⟩) := g0
      replace g1 : W.cell? ⟨bf, of + k * 2 + 1, none⟩ = some (.slice bx x.b.length cx) := g1
      replace hxB : Bytes W (.slice bx x.b.length cx) x.b := hxB
      replace u0 : W.cell? ⟨gu, k, none⟩ = some (.slice (some ⟨x.g, 0, none⟩) (x.b.length + 3) x.cap) := u0
      have s1 := fun n => to_str (W.drewN n) _ _ (hxB.drewN n)
      have s2 := fun n => to_str (W.drewN n) _ _ (hyB.drewN n)
      have hbb : (x.b == x.b) = true := by simp
      have hnn : (x.nm == x.nm) = true := by simp
      have HXB := Lib.hid hxB; have HYB := Lib.hid hyB; have HO := Lib.hid hO; have HFIT := Lib.hid (show Fits (x.b.length + 3) by unfold Fits; omega)
      have hlt1 : k < I.length + 1 := by omega
      have hlt2 : (k : Int) < (I.length : Int) + 1 := by omega
      clear hxB hyB hO hful e1 e2 hx hy hv
      go_wp2_with fail
      go_quiet ((go_at_call 98; exact quiet_behind (left6_q _ _ _ _ _ (HO.out.drewN _) (HYB.out.drewN _) HFIT.out)))
      go_wp2_with fail
      exact ⟨⟨k + 1, by omega, by go_num, _, rfl⟩, by simp [intOf]; omega⟩
    · obtain rfl : k = I.length := by omega
      have hnot : ¬ ((I.length : Nat) : Int) < (I.length : Int) := by omega
      go_wp2_with fail
      go_ret
      exact ⟨rfl, HEW.out.drewN _⟩
end Go.Proofs.Ytnppneilbkmnfaa
