/- The call of the law CodecWrites. Conditions: the values can be read; their bytes fit into memory. -/
import Derived.Test.YtdgagpoeefbdjaaWs
import Derived.Test.YtdgagpoeefbdjaaHolds
namespace Go.Proofs.Ytdgagpoeefbdjaa
open Go.RowKit

theorem layB_length (err : Int) (bs : List UInt8) (K : Int) (N : Nat) (B : List UInt8) (hN : IsU64 N) (hB : IsU64 B.length) : (layB err bs K N B).length ≤ bs.length + B.length + 10 := by
  unfold layB
  split
  · unfold cntB
    split
    · omega
    · have h1 := app_length err bs (varB (wrap64 (N : Int)).toNat)
      have h2 := varB_length (n := (wrap64 (N : Int)).toNat) (by unfold IsU64 wrap64; omega)
      omega
  · next h8 =>
    have h1 := app_length err bs (enc (K % 9) N B)
    have h2 := enc_length ⟨K, N, .slice none 0 0, B⟩ hN hB
    unfold PutD.enc at h2
    rw [if_neg h8] at h2
    simp only at h2
    omega
theorem sumB_succ (l : List PutD) (k : Nat) (hk : k < l.length) : sumB (l.take (k + 1)) = sumB (l.take k) + (l[k].B.length + 10) := by
  unfold sumB
  rw [List.take_succ_eq_append_getElem hk, List.map_append, List.sum_append]
  simp
theorem holds_any (w : World) (kb n : Nat) (F : Nat → Prop) (h : Book w kb n F) (hn : n ≤ 4194304) : Calls Try.prog 34 #[.pointer (some ⟨kb, 0, none⟩)] w fun e w' => e = .returned (.bool true) ∧ ∃ n, w' = w.drewN n := by
  obtain ⟨gv, wv, rv, mv, E, rfl, h, rfl⟩ := h
  have hR := h.rows
  obtain ⟨aog, capg, hgv, -, -⟩ := Own.shape (hR.own 0 _ rfl)
  obtain ⟨aow, capw, hwv, -, -⟩ := Own.shape (hR.own 1 _ rfl)
  obtain ⟨aor, capr, hrv, -, -⟩ := Own.shape (hR.own 2 _ rfl)
  obtain ⟨aom, capm, hmv, -, -⟩ := Own.shape (hR.own 3 _ rfl)
  have hgv : gv = .slice aog E.length capg := by simpa using hgv
  have hwv : wv = .slice aow E.length capw := by simpa using hwv
  have hrv : rv = .slice aor E.length capr := by simpa using hrv
  have hmv : mv = .slice aom E.length capm := by simpa [bvs] using hmv
  subst hgv hwv hrv hmv
  exact holds_walk w kb aog aow aor aom capg capw capr capm E hn h


abbrev RW0 : Obj := .cells #[.slice none 0 0, .int .i64 0] 31 (0, 0)
abbrev BK0 : Obj := .cells #[.slice none 0 0, .slice none 0 0, .slice none 0 0, .slice none 0 0] 35 (0, 0)
theorem foot_nil (k : Nat) : ¬ inFoot (.slice none 0 0) k := fun h => by simp [inFoot, foot] at h
theorem book_new (w : World) : Book (w.alloc BK0) w.heap.size 0 (BookF w.heap.size (.slice none 0 0) (.slice none 0 0) (.slice none 0 0) (.slice none 0 0) []) := by
  refine ⟨_, _, _, _, [], rfl, ⟨⟨At.new w [.slice none 0 0, .slice none 0 0, .slice none 0 0, .slice none 0 0] _, fun i s hs => ?_, fun i s hs => ?_, fun i j a b hij ha hb => ?_⟩, fun e he => (List.not_mem_nil he).elim, fun k hk => ?_, fun k hk => ?_⟩, rfl⟩
  · match i, hs with
    | 0, hs => simp [slots] at hs; subst hs; exact Own.nil _ _ _
    | 1, hs => simp [slots] at hs; subst hs; exact Own.nil _ _ _
    | 2, hs => simp [slots] at hs; subst hs; exact Own.nil _ _ _
    | 3, hs => simp [slots] at hs; subst hs; exact Own.nil _ _ _
    | i + 4, hs => simp [slots] at hs
  · match i, hs with
    | 0, hs => simp [slots] at hs; subst hs; exact foot_nil _
    | 1, hs => simp [slots] at hs; subst hs; exact foot_nil _
    | 2, hs => simp [slots] at hs; subst hs; exact foot_nil _
    | 3, hs => simp [slots] at hs; subst hs; exact foot_nil _
    | i + 4, hs => simp [slots] at hs
  · match i, ha with
    | 0, hs => simp [slots] at hs; subst hs; exact fun k hk => (foot_nil k hk).elim
    | 1, hs => simp [slots] at hs; subst hs; exact fun k hk => (foot_nil k hk).elim
    | 2, hs => simp [slots] at hs; subst hs; exact fun k hk => (foot_nil k hk).elim
    | 3, hs => simp [slots] at hs; subst hs; exact fun k hk => (foot_nil k hk).elim
    | i + 4, hs => simp [slots] at hs
  · obtain ⟨e, he, _⟩ := hk
    exact (List.not_mem_nil he).elim
  · obtain ⟨e, he, _⟩ := hk
    exact (List.not_mem_nil he).elim
theorem bookF_new {kb k : Nat} (h : BookF kb (.slice none 0 0) (.slice none 0 0) (.slice none 0 0) (.slice none 0 0) [] k) : k = kb := by
  rcases h with h | ⟨e, he, _⟩
  · rcases h with h | ⟨i, s, hs, hk⟩
    · exact h
    · match i, hs with
      | 0, hs => simp [slots] at hs; subst hs; exact (foot_nil k hk).elim
      | 1, hs => simp [slots] at hs; subst hs; exact (foot_nil k hk).elim
      | 2, hs => simp [slots] at hs; subst hs; exact (foot_nil k hk).elim
      | 3, hs => simp [slots] at hs; subst hs; exact (foot_nil k hk).elim
      | i + 4, hs => simp [slots] at hs
  · exact (List.not_mem_nil he).elim
theorem rw_new (w : World) : RWAt (w.alloc RW0) w.heap.size (.slice none 0 0) [] 0 := ⟨At.new w [.slice none 0 0, .int .i64 0] _, Own.nil _ _ _, foot_nil _⟩

def col0 (a b m k : Nat) : Nat := if k < a then 0 else if k < b then 1 else if k < m then 2 else if k = m then 3 else if k = m + 1 then 4 else 5
theorem ws_init {w w1 w2 : World} (hA1 : WAt w1 w.heap.size (.slice none 0 0) [] 0) (hS1 : Step Nil w (PF w.heap.size (.slice none 0 0)) w1) (hA2 : WAt w2 w1.heap.size (.slice none 0 0) [] 0) (hS2 : Step Nil w1 (PF w1.heap.size (.slice none 0 0)) w2) :
    ∃ c, WS w (((w2.alloc RW0).alloc RW0).alloc BK0) c w.heap.size (.slice none 0 0) [] 0 w1.heap.size (.slice none 0 0) [] 0 w2.heap.size (.slice none 0 0) [] 0 (w2.heap.size + 1) (.slice none 0 0) [] 0 (w2.heap.size + 2) 0 (BookF (w2.heap.size + 2) (.slice none 0 0) (.slice none 0 0) (.slice none 0 0) (.slice none 0 0) []) := by
  have l1 := hA1.cells.lt
  have l2 := hA2.cells.lt
  have s1 : (w2.alloc RW0).heap.size = w2.heap.size + 1 := by simp
  have s2 : ((w2.alloc RW0).alloc RW0).heap.size = w2.heap.size + 2 := by simp
  have s3 : (((w2.alloc RW0).alloc RW0).alloc BK0).heap.size = w2.heap.size + 3 := by simp
  have pf : ∀ {p k : Nat}, PF p (.slice none 0 0) k → k = p := fun h => h.resolve_right (foot_nil _)
  have hr2 := rw_new (w2.alloc RW0)
  rw [s1] at hr2
  have hbk := book_new ((w2.alloc RW0).alloc RW0)
  rw [s2] at hbk
  refine ⟨col0 w.heap.size w1.heap.size w2.heap.size,
    (((hA1.ext hS2.1 fun _ _ h => h).alloc _).alloc _).alloc _, ((hA2.alloc _).alloc _).alloc _, ((rw_new w2).alloc _).alloc _, hr2.alloc _, hbk, ?_, ?_, ?_, ?_, ?_, ?_, (((hS1.1.same hS2.1).alloc _).alloc _).alloc _⟩
  · intro k hk
    obtain rfl := pf hk
    rw [s3]
    refine ⟨?_, by omega⟩
    unfold col0
    rw [if_neg (by omega), if_pos (by omega)]
  · intro k hk
    obtain rfl := pf hk
    rw [s3]
    refine ⟨?_, by omega⟩
    unfold col0
    rw [if_neg (by omega), if_neg (by omega), if_pos (by omega)]
  · intro k hk
    obtain rfl := pf hk
    rw [s3]
    refine ⟨?_, by omega⟩
    unfold col0
    rw [if_neg (by omega), if_neg (by omega), if_neg (by omega), if_pos rfl]
  · intro k hk
    obtain rfl := pf hk
    rw [s3]
    refine ⟨?_, by omega⟩
    unfold col0
    rw [if_neg (by omega), if_neg (by omega), if_neg (by omega), if_neg (by omega), if_pos rfl]
  · intro k hk
    obtain rfl := bookF_new hk
    rw [s3]
    refine ⟨?_, by omega⟩
    unfold col0
    rw [if_neg (by omega), if_neg (by omega), if_neg (by omega), if_neg (by omega), if_neg (by omega)]
  · intro k hk
    by_cases hlt : k < w.heap.size
    · unfold col0 at hk
      rw [if_pos hlt] at hk
      exact absurd rfl hk
    · omega

set_option maxHeartbeats 4000000 in
set_option maxRecDepth 20000 in
theorem writes_walk (w : World) (v : Value) (l : List PutD) (h : Puts w.heap.size w v l) (hv : ∀ k, inFoot v k → k < w.heap.size) (hfit : Fits (sumB l + 40)) (hn : l.length ≤ 1048576) :
    Calls Try.prog 6 #[v] w fun e w' => e = .returned (.bool true) ∧ Ext Nil w w' := by
  have hfit' : sumB l + 40 ≤ 1099511627776 := hfit
  obtain ⟨ao, cap, rfl, hcap, hmax, hc⟩ := h.reads.2
  unfold maxLen at hmax
  clear hc
  go_enter Try.func6, Try.ntmps6
  go_wp2_with fail
  refine (newWriter_any _).mono ?_
  rintro e w1 ⟨rfl, hA1, hS1⟩
  go_wp2_with fail
  refine (newWriter_any _).mono ?_
  rintro e w2 ⟨rfl, hA2, hS2⟩
  go_wp2_with fail
  have hinit := ws_init hA1 hS1 hA2 hS2
  have hp1 : w.heap.size = w.heap.size := rfl
  clear hA1 hS1 hA2 hS2 hp1
  generalize hg1 : w1.heap.size = p2 at *
  generalize hg2 : w2.heap.size = q1 at *
  go_loopw [8] (fun i wr => ∃ k : Nat, k ≤ l.length ∧ i = .int .i64 k ∧ ∃ c v1 b1 e1 v2 b2 e2 u1 u2 n F, WS w wr c w.heap.size v1 b1 e1 p2 v2 b2 e2 q1 u1 b1 e1 (q1 + 1) u2 b2 e2 (q1 + 2) n F ∧ b1.length + b2.length ≤ sumB (l.take k) ∧ n ≤ 2 * k) (fun i _ => l.length - (intOf i).toNat)
  case atStart =>
    obtain ⟨c, hc⟩ := hinit
    exact ⟨0, Nat.zero_le _, rfl, c, _, [], 0, _, [], 0, _, _, 0, _, hc, by simp, by omega⟩
  case round =>
    obtain ⟨k, hk, rfl, c, v1, b1, e1, v2, b2, e2, u1, u2, n, F, hs, hsum, hn2⟩ := hrel
    clear hinit
    by_cases hlt : k < l.length
    · obtain ⟨b, off, rfl⟩ := h.head (by intro e; subst e; simp at hlt)
      have hbw : b < w.heap.size := by
        refine hv b ?_
        obtain ⟨c, rfl⟩ : ∃ c, cap = c + 1 := ⟨cap - 1, by omega⟩
        rfl
      have hP := h.ext hs.e (fun _ h => h.elim) (fun _ _ h => h)
      obtain ⟨g0, g1, g2⟩ := hP.at k hlt
      have hd := hP.each l[k] (List.getElem_mem hlt)
      have hold := hP.old l[k] (List.getElem_mem hlt)
      have hsucc := sumB_succ l k hlt
      have htake := sumB_take l k hlt
      generalize hdk : l[k] = d at g0 g1 g2 hd hold hsucc htake
      have HD := Lib.hid hdk
      have HH := Lib.hid h
      have HO := Lib.hid hold
      have HV := Lib.hid hv
      have hl1 := layB_length e1 b1 d.K d.N d.B hd.n hd.len
      have hl2 := layB_length e2 b2 d.K d.N d.B hd.n hd.len
      clear hdk hP h hold hv
      by_cases hpar : k % 2 = 0
      · have hz : ((k : Int).tmod 2 == 0) = true := by rw [beq_iff_eq, Int.tmod_eq_emod_of_nonneg (by omega)]; omega
        have hz2 : ((k : Int) % 2 == 0) = true := by rw [beq_iff_eq]; omega

        go_wp2_with fail
        refine (lay_any wr _ v1 b1 e1 hs.w1 d.K d.N d.x d.B hd (fun i hi hF => by have h1 := HO.out i hi; have h2 := (hs.c1 i hF).1; have h3 := hs.old i (by rw [h2]; decide); omega) (by unfold Fits; omega)).mono ?_
        rintro e w2 ⟨rfl, x1, hW2, hS2⟩
        obtain ⟨c2, hs2⟩ := hs.move1 hW2 hS2
        have hP2 := HH.out.ext hs2.e (fun _ h => h.elim) (fun _ _ h => h)
        clear g0 g1 g2
        obtain ⟨g0, g1, g2⟩ := hP2.at k hlt
        rw [HD.out] at g0 g1 g2
        have hd2 : PutOk w2 d.K d.N d.x d.B := by have := hP2.each l[k] (List.getElem_mem hlt); rwa [HD.out] at this
        clear hP2 hW2 hS2
        go_wp2_with fail
        refine (paper_any w2 _ u1 b1 e1 hs2.r1 d.K d.N d.x d.B hd2 (by unfold Fits; omega)).mono ?_
        rintro e w3 ⟨rfl, x2, hW3, hS3⟩
        obtain ⟨c3, hs3⟩ := hs2.move3 hW3 hS3
        clear hW3 hS3 hs2 hs g0 g1 g2 hd hd2
        by_cases h64 : k < 64
        · go_wp2_with fail
          refine (outs_any w3 _ q1 _ n _ _ _ _ F hs3.w1 hs3.r1 hs3.bk (by omega) (by unfold Fits; omega)).mono ?_
          rintro e w4 ⟨rfl, F4, hB4, hS4⟩
          obtain ⟨c4, hs4⟩ := hs3.move5 hB4 hS4
          clear hB4 hS4 hs3
          go_wp2_with fail
          refine (outs_any w4 p2 _ _ (n + 1) _ _ _ _ F4 hs4.w2 hs4.r2 hs4.bk (by omega) (by unfold Fits; omega)).mono ?_
          rintro e w5 ⟨rfl, F5, hB5, hS5⟩
          obtain ⟨c5, hs5⟩ := hs4.move5 hB5 hS5
          clear hB5 hS5 hs4
          go_wp2_with fail
          exact ⟨⟨k + 1, by omega, by go_num, c5, _, _, _, _, _, _, _, _, n + 1 + 1, F5, hs5, by omega, by omega⟩, by simp [intOf]; omega⟩
        · go_wp2_with fail
          exact ⟨⟨k + 1, by omega, by go_num, c3, _, _, _, _, _, _, _, _, n, F, hs3, by omega, by omega⟩, by simp [intOf]; omega⟩

      · have hz : ((k : Int).tmod 2 == 0) = false := by rw [beq_eq_false_iff_ne, Int.tmod_eq_emod_of_nonneg (by omega)]; omega
        have hz2 : ((k : Int) % 2 == 0) = false := by rw [beq_eq_false_iff_ne]; omega

        go_wp2_with fail
        refine (lay_any wr _ v2 b2 e2 hs.w2 d.K d.N d.x d.B hd (fun i hi hF => by have h1 := HO.out i hi; have h2 := (hs.c2 i hF).1; have h3 := hs.old i (by rw [h2]; decide); omega) (by unfold Fits; omega)).mono ?_
        rintro e w2 ⟨rfl, x1, hW2, hS2⟩
        obtain ⟨c2, hs2⟩ := hs.move2 hW2 hS2
        have hP2 := HH.out.ext hs2.e (fun _ h => h.elim) (fun _ _ h => h)
        clear g0 g1 g2
        obtain ⟨g0, g1, g2⟩ := hP2.at k hlt
        rw [HD.out] at g0 g1 g2
        have hd2 : PutOk w2 d.K d.N d.x d.B := by have := hP2.each l[k] (List.getElem_mem hlt); rwa [HD.out] at this
        clear hP2 hW2 hS2
        go_wp2_with fail
        refine (paper_any w2 _ u2 b2 e2 hs2.r2 d.K d.N d.x d.B hd2 (by unfold Fits; omega)).mono ?_
        rintro e w3 ⟨rfl, x2, hW3, hS3⟩
        obtain ⟨c3, hs3⟩ := hs2.move4 hW3 hS3
        clear hW3 hS3 hs2 hs g0 g1 g2 hd hd2
        by_cases h64 : k < 64
        · go_wp2_with fail
          refine (outs_any w3 _ q1 _ n _ _ _ _ F hs3.w1 hs3.r1 hs3.bk (by omega) (by unfold Fits; omega)).mono ?_
          rintro e w4 ⟨rfl, F4, hB4, hS4⟩
          obtain ⟨c4, hs4⟩ := hs3.move5 hB4 hS4
          clear hB4 hS4 hs3
          go_wp2_with fail
          refine (outs_any w4 p2 _ _ (n + 1) _ _ _ _ F4 hs4.w2 hs4.r2 hs4.bk (by omega) (by unfold Fits; omega)).mono ?_
          rintro e w5 ⟨rfl, F5, hB5, hS5⟩
          obtain ⟨c5, hs5⟩ := hs4.move5 hB5 hS5
          clear hB5 hS5 hs4
          go_wp2_with fail
          exact ⟨⟨k + 1, by omega, by go_num, c5, _, _, _, _, _, _, _, _, n + 1 + 1, F5, hs5, by omega, by omega⟩, by simp [intOf]; omega⟩
        · go_wp2_with fail
          exact ⟨⟨k + 1, by omega, by go_num, c3, _, _, _, _, _, _, _, _, n, F, hs3, by omega, by omega⟩, by simp [intOf]; omega⟩

    · obtain rfl : k = l.length := by omega
      have ht : l.take l.length = l := List.take_length
      rw [ht] at hsum
      clear ht h hv
      go_wp2_with fail
      refine (outs_any wr _ q1 _ n _ _ _ _ F hs.w1 hs.r1 hs.bk (by omega) (by unfold Fits; omega)).mono ?_
      rintro e w4 ⟨rfl, F4, hB4, hS4⟩
      obtain ⟨c4, hs4⟩ := hs.move5 hB4 hS4
      clear hB4 hS4 hs
      go_wp2_with fail
      refine (outs_any w4 p2 _ _ (n + 1) _ _ _ _ F4 hs4.w2 hs4.r2 hs4.bk (by omega) (by unfold Fits; omega)).mono ?_
      rintro e w5 ⟨rfl, F5, hB5, hS5⟩
      obtain ⟨c5, hs5⟩ := hs4.move5 hB5 hS5
      clear hB5 hS5 hs4
      go_wp2_with fail
      refine (holds_any w5 _ _ F5 hs5.bk (by omega)).mono ?_
      rintro e w6 ⟨rfl, n6, rfl⟩
      go_wp2_with fail
      go_ret
      exact ⟨rfl, hs5.e.drewN _⟩
end Go.Proofs.Ytdgagpoeefbdjaa
