/- Plain laws: what laying a file down, taking one away and the like do to the disk's sums (no program in sight). -/
import Derived.Test.YtnppneilbkmnfaaDp
namespace Go.Proofs.Ytnppneilbkmnfaa
open Go.RowKit

theorem sumF_append (A B : List FileM) : sumF (A ++ B) = sumF A + sumF B := by simp [sumF]
theorem sumF_cons (f : FileM) (A : List FileM) : sumF (f :: A) = f.b.length + sumF A := by simp [sumF]
namespace Dk
variable {D : Dk}
theorem size_some {s : Nm} {f : FileM} (h : D.find s = some f) : D.size s = f.b.length := by unfold size; rw [h]
theorem size_none {s : Nm} (h : D.find s = none) : D.size s = 0 := by unfold size; rw [h]
theorem used_put (h : D.Wf) (f : FileM) : (D.put f).used + D.size f.nm = D.used + f.b.length ∧ (D.put f).fs.length = D.fs.length + (if (D.find f.nm).isSome then 0 else 1) := by
  have hr := h.rises
  rcases putK_part FileM.nm hr f with ⟨A, a, B, hf, e1, e2, _, _, _⟩ | ⟨A, B, hf, e1, e2, _, _⟩
  · have hs : D.size f.nm = a.b.length := size_some hf
    have hfd : D.find f.nm = some a := hf
    unfold used put
    rw [hs, hfd]
    simp only [e2]
    rw [e1]
    simp only [sumF_append, sumF_cons, List.length_append, List.length_cons]
    exact ⟨by omega, by simp⟩
  · have hs : D.size f.nm = 0 := size_none hf
    have hfd : D.find f.nm = none := hf
    unfold used put
    rw [hs, hfd]
    simp only [e2]
    rw [e1]
    simp only [sumF_append, sumF_cons, List.length_append, List.length_cons]
    exact ⟨by omega, by simp; omega⟩
theorem put_wf (h : D.Wf) (f : FileM) (hs : f.sy ≤ f.b.length) (hn : nmOk f.nm = true) (hu : D.used + f.b.length ≤ D.lim + D.size f.nm) (hc : (D.find f.nm).isSome = true ∨ D.fs.length < 65536) : (D.put f).Wf where
  rises := rises_put _ h.rises f
  lim0 := h.lim0
  lim1 := h.lim1
  used := by
    have := (used_put h f).1
    show (D.put f).used ≤ D.lim
    omega
  synced := by
    intro g hg
    rcases mem_put _ h.rises f g hg with rfl | hg
    · exact hs
    · exact h.synced g hg.1
  names := by
    intro g hg
    rcases mem_put _ h.rises f g hg with rfl | hg
    · exact hn
    · exact h.names g hg.1
  count := by
    have h1 := (used_put h f).2
    have h2 := h.count
    rcases hc with hc | hc
    · rw [hc] at h1; simp at h1; omega
    · split at h1 <;> omega
  kinds := h.kinds
  outOff := h.outOff
theorem used_del (h : D.Wf) (s : Nm) : (D.del s).used + D.size s = D.used := by
  cases hf : D.find s with
  | none =>
    rw [size_none hf]
    unfold used del
    simp only [delK_none _ _ _ ((findK_none _ _ _).1 hf)]
    rfl
  | some f =>
    rw [size_some hf]
    obtain ⟨A, B, e1, _, _, _, e2⟩ := rises_at FileM.nm h.rises hf
    unfold used del
    simp only [e2]
    rw [e1]
    simp only [sumF_append, sumF_cons]
    omega
theorem del_wf (h : D.Wf) (s : Nm) : (D.del s).Wf where
  rises := rises_del _ h.rises s
  lim0 := h.lim0
  lim1 := h.lim1
  used := by
    have := used_del h s
    have := h.used
    show (D.del s).used ≤ D.lim
    unfold used at *
    omega
  synced := fun g hg => h.synced g (List.mem_filter.1 hg).1
  names := fun g hg => h.names g (List.mem_filter.1 hg).1
  count := Nat.le_trans (List.length_filter_le _ _) h.count
  kinds := h.kinds
  outOff := h.outOff
theorem room_spec {s : Nm} {n : Nat} : D.room s n = true ↔ D.used + n ≤ D.lim + D.size s ∧ ((D.find s).isSome = true ∨ D.fs.length < 65536) := by
  unfold room
  simp
end Dk

/-- a file's place among the files -/
theorem DAt.at {w : World} {d mb : Nat} {av : Value} {fbs : List FB} {D : Dk} (h : DAt w d mb av fbs D) {s : Nm} {x : FB} (hf : findK FB.nm s fbs = some x) :
    ∃ A B, fbs = A ++ [x] ++ B ∧ x.f.nm = s ∧ D.find s = some x.f ∧ FileOk w x ∧ delK FB.nm s fbs = A ++ B ∧ ∀ f : FileM, f.nm = s → (D.put f).fs = A.map FB.f ++ [f] ++ B.map FB.f := by
  obtain ⟨A, B, e1, hA, hB, hk, e2⟩ := rises_at FB.nm h.rises hf
  have hfd := h.find s
  rw [hf] at hfd
  refine ⟨A, B, by rw [e1]; simp, hk, hfd, h.files x (findK_some _ hf).1, e2, fun f hn => ?_⟩
  have hr : Rises FileM.nm (A.map FB.f ++ x.f :: B.map FB.f) := by
    have := h.wf.rises
    rw [← h.same, e1] at this
    simpa using this
  have hpa := putK_part FileM.nm h.wf.rises f
  show putK FileM.nm f D.fs = _
  unfold putK
  have hd : delK FileM.nm f.nm D.fs = A.map FB.f ++ B.map FB.f := by
    rw [← h.same, ← delK_map FB.nm FileM.nm FB.f (fun _ => rfl), hn, e2, List.map_append]
  rw [hd, insK_part FileM.nm f (B.map FB.f) ?_ (A.map FB.f) ?_]
  · simp
  · intro a ha
    obtain ⟨y, hy, rfl⟩ := List.mem_map.1 ha
    rw [hn]
    exact hB y hy
  · intro a ha
    obtain ⟨y, hy, rfl⟩ := List.mem_map.1 ha
    rw [hn]
    exact hA y hy
end Go.Proofs.Ytnppneilbkmnfaa
