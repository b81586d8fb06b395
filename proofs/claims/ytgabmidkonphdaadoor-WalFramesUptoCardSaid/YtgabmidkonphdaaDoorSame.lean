/- Contracts of the law's small functions over bytes (same, kind). Conditions: the slices can be read. -/
import Derived.Test.YtgabmidkonphdaaDoorMem
import Derived.Test.YtgabmidkonphdaaDoorProg
import Derived.Deep.QuietTactic
import Derived.BigQuiet
import Derived.Deep.LoopGhost
namespace Go.Proofs.YtgabmidkonphdaaDoor
open Go.RowKit

/-- a byte as a cell -/
def bv (b : UInt8) : Value := .int .u8 (b.toNat : Int)
def bvs (l : List UInt8) : List Value := l.map bv
/-- a slice of bytes that reads as l -/
def Bytes (w : World) (v : Value) (l : List UInt8) : Prop := Reads w 1 v l.length (bvs l)

theorem Bytes.open {w : World} {v : Value} {l : List UInt8} (h : Bytes w v l) : ∃ ao cap, v = .slice ao l.length cap ∧ l.length ≤ cap ∧ cap ≤ maxLen ∧
    (l ≠ [] → ∃ b off, ao = some ⟨b, off, none⟩ ∧ ∀ j (hj : j < l.length), w.cell? ⟨b, off + j, none⟩ = some (.int .u8 (l[j].toNat : Int))) := by
  obtain ⟨_, ao, cap, rfl, h2, h3, h4⟩ := h
  refine ⟨ao, cap, rfl, h2, h3, fun hne => ?_⟩
  obtain ⟨b, off, rfl, hc⟩ := h4 (by simpa [bvs] using hne)
  exact ⟨b, off, rfl, fun j hj => hc j _ (by simp [bvs, bv, hj])⟩

theorem ret_bool {a b : Bool} (h : a = b) : Ending.returned (.bool a) = .returned (.bool b) := by rw [h]
theorem ret_int {k : IntKind} {a b : Int} (h : a = b) : Ending.returned (.int k a) = .returned (.int k b) := by rw [h]

theorem same_len (xs ys : List UInt8) (w : World) (vx vy : Value) (hx : Bytes w vx xs) (hy : Bytes w vy ys) (hl : xs.length ≠ ys.length) :
    Calls Tryd.prog 8 #[vx, vy] w fun e w' => e = .returned (.bool false) ∧ ∃ n, w' = w.drewN n := by
  obtain ⟨ax, cx, rfl, hxc, hxm, -⟩ := hx.open
  obtain ⟨ay, cy, rfl, hyc, hym, -⟩ := hy.open
  unfold maxLen at hxm hym
  have h1 : ((xs.length : Int) != (ys.length : Int)) = true := by rw [bne_iff_ne]; omega
  go_enter Tryd.func8, Tryd.ntmps8
  go_wp2
  go_ret
  exact ⟨rfl, 0, rfl⟩

theorem same_any (xs ys : List UInt8) (w : World) (vx vy : Value) (hx : Bytes w vx xs) (hy : Bytes w vy ys) :
    Calls Tryd.prog 8 #[vx, vy] w fun e w' => e = .returned (.bool (decide (xs = ys))) ∧ ∃ n, w' = w.drewN n := by
  by_cases hl : xs.length = ys.length
  · obtain ⟨ax, cx, rfl, hxc, hxm, hxr⟩ := hx.open
    obtain ⟨ay, cy, rfl, hyc, hym, hyr⟩ := hy.open
    unfold maxLen at hxm hym
    have h1 : ((xs.length : Int) != (ys.length : Int)) = false := by rw [hl]; simp
    have HL := Lib.hid hl
    clear hl
    go_enter Tryd.func8, Tryd.ntmps8
    go_wp2
    go_loopw [5] (fun i wr => ∃ k : Nat, k ≤ xs.length ∧ i = .int .i64 k ∧ (∃ n, wr = w.drewN n) ∧ xs.take k = ys.take k) (fun i _ => xs.length - (intOf i).toNat)
    case atStart => exact ⟨0, Nat.zero_le _, rfl, ⟨0, rfl⟩, rfl⟩
    case round =>
      obtain ⟨k, hk, rfl, ⟨n, rfl⟩, htk⟩ := hrel
      have HT := Lib.hid htk
      clear htk
      by_cases hlt : k < xs.length
      · have hlty : k < ys.length := by have := HL.out; omega
        obtain ⟨bx, ox, rfl, hcx⟩ := hxr (by intro h; subst h; simp at hlt)
        obtain ⟨by', oy, rfl, hcy⟩ := hyr (by intro h; subst h; simp at hlty)
        have gx := hcx k hlt
        have gy := hcy k hlty
        clear hcx hcy hxr hyr
        go_wp2
        go_quiet (fail)
        go_wp2
        · have hne : ((xs[k].toNat : Int) != (ys[k].toNat : Int)) = true := by assumption
          go_ret
          refine ⟨ret_bool ?_, _, World.drewN_drewN _ _ _⟩
          refine (decide_eq_false fun h => ?_).symm
          subst h
          simp at hne
        · have hne : ((xs[k].toNat : Int) != (ys[k].toNat : Int)) = false := by assumption
          refine ⟨⟨k + 1, by omega, by go_num, ⟨_, rfl⟩, ?_⟩, by simp [intOf]; omega⟩
          have he : xs[k] = ys[k] := UInt8.toNat_inj.1 (by have := bne_eq_false_iff_eq.1 hne; omega)
          rw [List.take_succ_eq_append_getElem hlt, List.take_succ_eq_append_getElem hlty, HT.out, he]
      · go_wp2
        go_ret
        refine ⟨ret_bool ?_, _, rfl⟩
        have h := HT.out
        rw [List.take_of_length_le (by omega), List.take_of_length_le (by have := HL.out; omega)] at h
        exact (decide_eq_true h).symm
  · have := same_len xs ys w vx vy hx hy hl
    refine this.mono ?_
    rintro e w' ⟨rfl, h⟩
    refine ⟨?_, h⟩
    have : ¬ xs = ys := fun h => hl (by rw [h])
    simp [this]
end Go.Proofs.YtgabmidkonphdaaDoor
