/- Plain: a disk without troubles, as DiskTurns uses it; images that are alike but for their bytes. No condition. | Auxiliary for DiskTurns: the law's spoil at any bytes of one's own; a read of what was mounted; an image whose bytes are written over. -/
import Derived.Test.YtnppneilbkmnfaaZYh
import Derived.Test.YtnppneilbkmnfaaZBk
namespace Go.Proofs.Ytnppneilbkmnfaa
open Go.RowKit

/-- a disk without troubles, with bounds on what it was told -/
structure Ease (D : Dk) (c u m : Nat) : Prop where
  off : D.off = false
  out : D.out = false
  arms : D.arms = []
  lim : D.lim = 1048576
  calls : D.calls ≤ c
  used : D.used ≤ u
  count : D.fs.length ≤ m
theorem ease_bef {D : Dk} (h : D.arms = []) : befDo D = true ∧ befE D = 0 ∧ (befD D).arms = [] ∧ (befD D).off = D.off ∧ (befD D).out = D.out ∧ (befD D).calls = D.calls + 1 := by
  have h1 : D.hit = none := by unfold Dk.hit; rw [h]; rfl
  refine ⟨?_, ?_, ?_, ?_, ?_, ?_⟩
  · unfold befDo; rw [h1]
  · unfold befE; rw [h1]
  · unfold befD; rw [h1]; unfold Dk.tick; simp [h]
  · unfold befD; rw [h1]; rfl
  · unfold befD; rw [h1]; rfl
  · unfold befD; rw [h1]; rfl
theorem ease_put {D : Dk} (hw : D.Wf) {c u m : Nat} (h : Ease D c u m) (f : FileM) (n : Nat) (hn : f.b.length ≤ D.size f.nm + n) (hf : putK FileM.nm f D.fs = (D.put f).fs := by rfl) : Ease { befD D with fs := putK FileM.nm f D.fs } (c + 1) (u + n) (m + 1) := by
  obtain ⟨b1, b2, b3, b4, b5, b6⟩ := ease_bef h.arms
  obtain ⟨p1, p2⟩ := Dk.used_put hw f
  have hu : ({ befD D with fs := putK FileM.nm f D.fs } : Dk).used = (D.put f).used := rfl
  have h1 := h.used
  have h2 := h.count
  have h3 := h.calls
  refine ⟨b4.trans h.off, b5.trans h.out, b3, (befD_parts D).1.trans h.lim, by show (befD D).calls ≤ c + 1; omega, by rw [hu]; omega, ?_⟩
  show (putK FileM.nm f D.fs).length ≤ m + 1
  rw [hf]
  split at p2 <;> omega
theorem ease_refuse {D : Dk} {c u m : Nat} (h : Ease D c u m) {s : Nm} (hs : nmOk s = true) : D.refuse s = 0 := by
  unfold Dk.refuse
  rw [h.off, hs]
  rfl
theorem ease_append {D : Dk} (hw : D.Wf) {c u m : Nat} (h : Ease D c u m) {s : Nm} (hs : nmOk s = true) (b : List UInt8) (hu : u + b.length ≤ 1048576) (hm : m < 65536) : (D.append s b).2 = 0 ∧ Ease (D.append s b).1 (c + 1) (u + b.length) (m + 1) := by
  have hr := ease_refuse h hs
  have h1 := h.used
  have h2 := h.count
  have h3 := h.lim
  obtain ⟨b1, b2, -⟩ := ease_bef h.arms
  cases hf : D.find s with
  | none =>
    have hz : D.size s = 0 := by unfold Dk.size; rw [hf]
    rw [qapp_new D s b hr hf (Dk.room_spec.2 ⟨by omega, .inr (by omega)⟩), b1, b2]
    exact ⟨rfl, ease_put hw h ⟨s, b, 0⟩ b.length (by show b.length ≤ _; omega)⟩
  | some f =>
    have hz : D.size s = f.b.length := by unfold Dk.size; rw [hf]
    rw [qapp_old D s b hr hf (Dk.room_spec.2 ⟨by omega, .inl (by rw [hf]; rfl)⟩), b1, b2]
    exact ⟨rfl, ease_put hw h ⟨s, f.b ++ b, f.sy⟩ b.length (by show (f.b ++ b).length ≤ D.size s + _; rw [List.length_append]; omega)⟩
theorem ease_replace {D : Dk} (hw : D.Wf) {c u m : Nat} (h : Ease D c u m) {s : Nm} (hs : nmOk s = true) (b : List UInt8) (hu : u + b.length ≤ 1048576) (hm : m < 65536) : (D.replace s b).2 = 0 ∧ Ease (D.replace s b).1 (c + 1) (u + b.length) (m + 1) := by
  have hr := ease_refuse h hs
  have h1 := h.used
  have h2 := h.count
  have h3 := h.lim
  obtain ⟨b1, b2, -⟩ := ease_bef h.arms
  rw [replace_num D s b hr (Dk.room_spec.2 ⟨by omega, .inr (by omega)⟩), b1, b2]
  exact ⟨rfl, ease_put hw h ⟨s, b, b.length⟩ b.length (by show b.length ≤ _; omega)⟩

/-- images with the same names and as many bytes -/
def Alike (l l' : List FI) : Prop := l.map (fun x => (x.nm, x.b.length)) = l'.map fun x => (x.nm, x.b.length)
theorem Alike.len {l l' : List FI} (h : Alike l l') : l.length = l'.length := by have := congrArg List.length h; simpa using this
theorem Alike.get {l l' : List FI} (h : Alike l l') {i : Nat} {x : FI} (hx : l[i]? = some x) : ∃ y, l'[i]? = some y ∧ y.nm = x.nm ∧ y.b.length = x.b.length := by
  have h1 := congrArg (·[i]?) h
  simp only [List.getElem?_map, hx, Option.map_some] at h1
  cases hy : l'[i]? with
  | none => rw [hy] at h1; cases h1
  | some y =>
    rw [hy] at h1
    have h1 : (x.nm, x.b.length) = (y.nm, y.b.length) := Option.some.inj h1
    simp only [Prod.mk.injEq] at h1
    exact ⟨y, rfl, h1.1.symm, h1.2.symm⟩
theorem Alike.set {l : List FI} {j : Nat} {x y : FI} (hx : l[j]? = some x) (h1 : y.nm = x.nm) (h2 : y.b.length = x.b.length) : Alike (l.set j y) l := by
  unfold Alike
  rw [List.map_set]
  obtain ⟨hj, rfl⟩ := List.getElem?_eq_some_iff.1 hx
  rw [h1, h2]
  have : (l[j].nm, l[j].b.length) = (l.map fun x => (x.nm, x.b.length))[j]'(by simpa using hj) := by simp
  rw [this, List.set_getElem_self]
theorem mntSum_alike {l l' : List FI} (h : Alike l l') : mntSum l = mntSum l' := by
  have e : ∀ m : List FI, mntSum m = ((m.map fun x => (x.nm, x.b.length)).map Prod.snd).sum := fun m => by
    unfold mntSum
    rw [List.map_map, List.map_map]
    rfl
  rw [e, e, h]
theorem mountE_alike {l l' : List FI} (h : Alike l l') {lim : Int} (h0 : mountE lim l' = 0) (hn : ∀ i < l'.length, nameOk l' i) : mountE lim l = 0 := by
  have hlen := h.len
  have h1 : ∀ i < l.length, nameOk l i := fun i hi => by
    obtain ⟨x, hx, a1, a2⟩ := hn i (by omega)
    obtain ⟨y, hy, e1, -⟩ := Alike.get (show Alike l' l from h.symm) hx
    refine ⟨y, hy, by rw [e1]; exact a1, fun z hz0 hz => ?_⟩
    obtain ⟨u, hu, e3, -⟩ := h.get hz
    rw [e1, ← e3]
    exact a2 u hz0 hu
  have n1 : ¬ ¬ ∀ i < l.length, nameOk l i := fun e => e h1
  have n2 : ¬ ¬ ∀ i < l'.length, nameOk l' i := fun e => e hn
  unfold mountE at h0 ⊢
  rw [if_neg n2] at h0
  rw [if_neg n1, mntSum_alike h, hlen]
  exact h0
theorem mountE_names {l : List FI} {lim : Int} (h0 : mountE lim l = 0) : ∀ i < l.length, nameOk l i := by
  apply Classical.byContradiction
  intro h
  unfold mountE at h0
  rw [if_pos h] at h0
  cases h0
/-- what a crash of a disk without troubles leaves can be mounted at the same limit -/
theorem mount_ease {D : Dk} (hw : D.Wf) (hl : D.lim = 1048576) {l : List FI} {keep : List Int} {junk : UInt8} (h : l.map FI.pair = imgOf D.fs keep junk) : mountE 1048576 l = 0 := by
  have h1 := (mount_img hw h).1
  have hn := mountE_names h1
  have hlen := (mount_img hw h).2.1
  have hle : ∀ (i : Nat) (x : FI) (f : FileM), l[i]? = some x → D.fs[i]? = some f → x.b.length ≤ f.b.length := by
    intro i x f hx hf
    obtain ⟨g, hg, -, hb⟩ := pair_at h hx
    rw [hf] at hg
    obtain rfl := Option.some.inj hg
    have h1 := kept_le keep i f
    have h2 := hw.synced f (List.mem_of_getElem? hf)
    rw [hb, left_len (by omega)]
    omega
  have hsum := sum_le l D.fs (pair_len h) hle
  have hu := hw.used
  have hu : sumF D.fs ≤ D.lim := hu
  have n1 : ¬ ¬ ∀ i < l.length, nameOk l i := fun e => e hn
  unfold mountE
  rw [if_neg n1, if_neg (by omega), if_neg (by omega), if_neg (by show ¬ 1048576 < mntSum l; omega)]
/-- what is read of a mounted disk -/
theorem mnt_read {n : Nat} {l : List FI} (hw : (mntD n l).Wf) {j : Nat} {x : FI} (hx : l[j]? = some x) : (mntD n l).seek x.nm = 0 ∧ (mntD n l).bytes x.nm = x.b := by
  have hm : x.file ∈ (mntD n l).fs := List.mem_map.2 ⟨x, List.mem_of_getElem? hx, rfl⟩
  have hf : (mntD n l).find x.nm = some x.file := findK_mem FileM.nm hw.rises hm
  have hr : (mntD n l).refuse x.nm = 0 := by
    have := hw.names _ hm
    have this : nmOk x.nm = true := this
    unfold Dk.refuse
    rw [this]
    rfl
  have hs : (mntD n l).seek x.nm = 0 := by
    unfold Dk.seek
    rw [if_neg (by simp [hr]), hf]
    rfl
  exact ⟨hs, by unfold Dk.bytes; rw [if_pos hs, hf]; rfl⟩
end Go.Proofs.Ytnppneilbkmnfaa
namespace Go.Proofs.Ytnppneilbkmnfaa
open Go.RowKit

theorem spoil_any (w : World) (v : Value) (l : List UInt8) (h : OwnB w v l) (hfit : Fits l.length) :
    Calls Try.prog 54 #[v] w fun e w' => e = .returned (.tuple #[]) ∧ (∃ l', l'.length = l.length ∧ OwnB w' v l') ∧ Ext (inFoot v) w w' := by
  obtain ⟨ao, cap, rfl, hc1, hc2⟩ := Own.shape h
  by_cases hne : l = []
  · subst hne
    have HO := Lib.hid h
    clear h
    go_enter Try.func54, Try.ntmps54
    go_wp2_with fail
    go_loopw [2] (fun i wr => i = .int .i64 0 ∧ wr = w) (fun _ _ => 0)
    case atStart => exact ⟨rfl, rfl⟩
    case round =>
      obtain ⟨rfl, rfl⟩ := hrel
      go_wp2_with fail
      go_end0
      exact ⟨rfl, ⟨[], rfl, HO.out⟩, Ext.refl _ _⟩
  · obtain ⟨g, c, cs, rfl, rfl, -⟩ := h.head hne
    refine (spoil_m w g (c + 1) l h hne hfit).mono ?_
    rintro e w' ⟨h1, h2, h3⟩
    exact ⟨h1, h2, h3.mono fun k _ hk => by have hk : k = g := hk; subst hk; rfl⟩
theorem pq_ask {w : World} {d q : Nat} {D : Dk} {K : Nat → Prop} (h : PQ w d q D D K) (s : ByteArray) (hs : s.size ≤ maxLen) (hc : D.calls ≤ 1099511627776) (ha : D.arms.length ≤ 1099511627776) :
    Calls Try.prog 41 #[.agg #[.pointer (some ⟨d, 0, none⟩), .pointer (some ⟨q, 0, none⟩)], .agg #[.int .i64 6, .int .i64 0, .string s, .slice none 0 0, .int .i64 0, .int .i64 0, .int .i64 0, .bool false, .slice none 0 0, .int .u8 0]] w fun e w' =>
      e = .returned (.bool true) ∧ ∃ K', PQ w' d q D D K' ∧ Step K w K' w' := by
  have hD : D.steps ⟨6, 0, s, none, 0, 0, 0, 0, 0, false, none, 0, 0, 0⟩ [] = D := by
    unfold Dk.steps Dk.does
    simp
  refine (step_m w d q D K h ⟨6, 0, s, none, 0, 0, 0, 0, 0, false, none, 0, 0, 0⟩ [] [] (opok_ask w 6 s hs) (fun k hk => by simp [inFoot, foot] at hk) (fun k hk => by simp [inFoot, foot] at hk) hc ha (by simp) (by simp)).mono ?_
  intro e w' hq
  rw [hD] at hq
  exact hq
theorem step_not {w w' : World} {K K' : Nat → Prop} (h : Step K w K' w') {x : Nat} (hx : ¬ K x) (hl : x < w.heap.size) : ¬ K' x := fun hk => (h.2 x hk).elim hx fun h => by omega
theorem mnt_read_m (w : World) (d : Nat) (F : Nat → Prop) {n : Nat} {l : List FI} (hD : Disk w d (mntD n l) F) {j : Nat} {x : FI} (hx : l[j]? = some x) (hn : x.nm.length ≤ maxLen) :
    Calls Try.prog 29 #[.pointer (some ⟨d, 0, none⟩), .string ⟨x.nm.toArray⟩] w fun e w' => ∃ ao cap, e = .returned (.tuple #[.slice ao x.b.length cap, .int .i64 0]) ∧ OwnB w' (.slice ao x.b.length cap) x.b ∧ Step Nil w (inFoot (.slice ao x.b.length cap)) w' := by
  have hw : (mntD n l).Wf := by
    obtain ⟨mb, av, fbs, h, -⟩ := hD
    exact h.wf
  obtain ⟨h1, h2⟩ := mnt_read hw hx
  refine (read_m w d _ F hD ⟨x.nm.toArray⟩ (by rw [encS_size]; exact hn)).mono ?_
  rintro e w' ⟨ao, cap, h3, h4, h5⟩
  rw [encS_toList, h2] at h4 h5
  rw [encS_toList, h2, h1] at h3
  exact ⟨ao, cap, h3, h4, h5⟩
theorem flat_apart {α : Type} (f : α → List Nat) : ∀ l : List α, (l.flatMap f).Nodup → l.Pairwise fun a b => ∀ k, k ∈ f a → k ∉ f b
  | [], _ => List.Pairwise.nil
  | a :: r, h => by
    rw [List.flatMap_cons, List.nodup_append] at h
    exact List.pairwise_cons.2 ⟨fun b hb k hk hk2 => h.2.2 k hk k (List.mem_flatMap.2 ⟨b, hb, hk2⟩) rfl, flat_apart f r h.2.1⟩
theorem ibl_set {v : Value} {l : List FI} {j : Nat} {x : FI} (hx : l[j]? = some x) (B : List UInt8) : ibl v (l.set j ⟨x.nm, B, x.v⟩) = ibl v l := by
  have e : ∀ m : List FI, (m.flatMap fun x => footL x.v) = (m.map FI.v).flatMap footL := fun m => by
    induction m with
    | nil => rfl
    | cons a m ih => simp only [List.flatMap_cons, List.map_cons, ih]
  unfold ibl
  rw [e, e, List.map_set]
  obtain ⟨hj, rfl⟩ := List.getElem?_eq_some_iff.1 hx
  have : l[j].v = (l.map FI.v)[j]'(by simpa using hj) := by simp
  rw [this, List.set_getElem_self]
theorem ImgO.spoil {w w' : World} {v : Value} {l : List FI} (h : ImgO w v l) {j : Nat} {x : FI} (hx : l[j]? = some x) (e : Ext (inFoot x.v) w w') {B : List UInt8} (hO : OwnB w' x.v B) : ImgO w' v (l.set j ⟨x.nm, B, x.v⟩) := by
  obtain ⟨hj, hxe⟩ := List.getElem?_eq_some_iff.1 hx
  have hnd := h.nodup
  unfold ibl at hnd
  rw [List.nodup_append] at hnd
  obtain ⟨n1, n2, n3⟩ := hnd
  have hxm := List.mem_of_getElem? hx
  have hcells : (l.set j ⟨x.nm, B, x.v⟩).flatMap FI.cells = l.flatMap FI.cells := by
    have e : ∀ m : List FI, m.flatMap FI.cells = (m.map fun x => (x.nm, x.v)).flatMap fun p => [encS p.1, p.2] := fun m => by
      induction m with
      | nil => rfl
      | cons a m ih => simp only [List.flatMap_cons, List.map_cons, ih]; rfl
    rw [e, e, List.map_set]
    have : ((⟨x.nm, B, x.v⟩ : FI).nm, (⟨x.nm, B, x.v⟩ : FI).v) = (l.map fun x => (x.nm, x.v))[j]'(by simpa using hj) := by simp [hxe]
    rw [this, List.set_getElem_self]
  refine ⟨?_, fun y hy => ?_, by rw [ibl_set hx]; exact h.nodup⟩
  · unfold OwnI
    rw [hcells, List.length_set]
    exact Own.ext h.row e fun k hk hf => n3 k (mem_footL.2 hk) k (List.mem_flatMap.2 ⟨x, hxm, mem_footL.2 hf⟩) rfl
  · obtain ⟨i, hi, rfl⟩ := List.mem_iff_getElem.1 hy
    rw [List.length_set] at hi
    by_cases hij : i = j
    · subst hij
      rw [List.getElem_set_self]
      exact hO
    · rw [List.getElem_set_ne (fun e => hij e.symm)]
      refine (h.bytes _ (List.getElem_mem hi)).ext e fun k hk hf => ?_
      -- the two items' blocks are apart
      have hpw : l.Pairwise fun a b => ∀ k, k ∈ footL a.v → k ∉ footL b.v := by
        exact flat_apart (fun x => footL x.v) l n2
      rcases Nat.lt_or_ge i j with hlt | hge
      · exact List.pairwise_iff_getElem.1 hpw i j hi hj hlt k (mem_footL.2 hk) (by rw [hxe]; exact mem_footL.2 hf)
      · exact List.pairwise_iff_getElem.1 hpw j i hj hi (by omega) k (by rw [hxe]; exact mem_footL.2 hf) (mem_footL.2 hk)
end Go.Proofs.Ytnppneilbkmnfaa
