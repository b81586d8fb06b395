/- The contract of the disk's Crash, whole; a disk of one's own over the memory that was there. Condition: the disk stands, and what its numbers lie in is none of its blocks. -/
import Derived.Test.YtnppneilbkmnfaaDw
namespace Go.Proofs.Ytnppneilbkmnfaa
open Go.RowKit

/-- what a crash tells -/
def Dk.told (D : Dk) (keep : List Int) (junk : UInt8) : List (Nm × List UInt8) := if D.out then [] else D.image keep junk
/-- what Crash does -/
structure Crashed (w : World) (d : Nat) (F : Nat → Prop) (D : Dk) (keep : List Int) (junk : UInt8) (v : Value) (l : List FI) (w' : World) : Prop where
  pairs : l.map FI.pair = D.told keep junk
  own : ImgO w' v l
  new : ∀ k ∈ ibl v l, w.heap.size ≤ k
  disk : Disk w' d D.crash.1 F
  ext : Ext (One d) w w'
theorem crash_m (w : World) (d : Nat) (D : Dk) (F : Nat → Prop) (hD : Disk w d D F) (kv : Value) (keep : List Int) (hk : Reads w 1 kv keep.length (keep.map (.int .i64 ·))) (hkF : ∀ k, inFoot kv k → ¬ F k) (junk : UInt8) :
    Calls Try.prog 23 #[.pointer (some ⟨d, 0, none⟩), kv, .int .u8 junk.toNat] w fun e w' => ∃ v l, e = .returned (.tuple #[.agg #[v], .int .i64 D.crash.2]) ∧ Crashed w d F D keep junk v l w' := by
  cases ho : D.out
  · refine (crash_in_m w d D F hD kv keep hk hkF junk ho).mono ?_
    rintro e w' ⟨v, l, rfl, h1, h2, h3, h4, h5⟩
    refine ⟨v, l, ?_, ?_, h2, h3, ?_, h5⟩
    · unfold Dk.crash; rw [ho]; rfl
    · unfold Dk.told; rw [ho]; exact h1
    · unfold Dk.crash; rw [ho]; exact h4
  · refine (crash_out_m w d D F hD kv junk.toNat ho).mono ?_
    rintro e w' ⟨rfl, h1⟩
    refine ⟨.slice none 0 0, [], ?_, ?_, ImgO.nil _, by simp [ibl, footL, foot], ?_, h1.mono fun _ _ h => h.elim⟩
    · unfold Dk.crash; rw [ho]; rfl
    · unfold Dk.told; rw [ho]; rfl
    · unfold Dk.crash; rw [ho]; exact hD.ext h1 fun _ _ h => h

/-- a disk of one's own: it stands in memory that was not there in w0, and of that nothing has turned -/
def Life (w0 w : World) (d : Nat) (D : Dk) : Prop := ∃ F, Disk w d D F ∧ (∀ k, F k → w0.heap.size ≤ k) ∧ Ext Nil w0 w
theorem Disk.self {w : World} {d : Nat} {D : Dk} {F : Nat → Prop} (h : Disk w d D F) : F d := by
  obtain ⟨mb, av, fbs, h, rfl⟩ := h
  simp [dbl]
theorem Life.of_new {w0 w : World} {d mb : Nat} {av : Value} {fbs : List FB} {D : Dk} (h : DAt w d mb av fbs D) (hk : ∀ k ∈ dbl d mb av fbs, w0.heap.size ≤ k) (e : Ext Nil w0 w) : Life w0 w d D := ⟨_, ⟨mb, av, fbs, h, rfl⟩, hk, e⟩
theorem Life.ext {w0 w w' : World} {d : Nat} {D : Dk} (h : Life w0 w d D) (e : Ext Nil w w') : Life w0 w' d D := by
  obtain ⟨F, h1, h2, h3⟩ := h
  exact ⟨F, h1.ext e fun _ _ h => h, h2, h3.same e⟩
theorem Life.acted {w0 w w' : World} {d : Nat} {r : Dk × Int} {e : Ending} {F : Nat → Prop} (h2 : ∀ k, F k → w0.heap.size ≤ k) (h3 : Ext Nil w0 w) (h : Acted w d F r e w') : e = .returned (.int .i64 r.2) ∧ Life w0 w' d r.1 := by
  obtain ⟨he, F', h4, h5⟩ := h
  have hs := h3.size
  exact ⟨he, F', h4, fun k hk => (h5.2 k hk).elim (h2 k) fun h => by omega, h3.trans h5.1 fun i hi hF => by have := h2 i hF; omega⟩
theorem Life.crashed {w0 w w' : World} {d : Nat} {D : Dk} {F : Nat → Prop} {keep : List Int} {junk : UInt8} {v : Value} {l : List FI} (h1 : Disk w d D F) (h2 : ∀ k, F k → w0.heap.size ≤ k) (h3 : Ext Nil w0 w) (h : Crashed w d F D keep junk v l w') : Life w0 w' d D.crash.1 :=
  ⟨F, h.disk, h2, h3.trans h.ext fun i hi e => by
    have e : i = d := e
    have := h2 d h1.self
    omega⟩
end Go.Proofs.Ytnppneilbkmnfaa
