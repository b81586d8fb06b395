/- The law's Book.grow: what the lists hold does not turn. Condition: the items are written full, each in memory of its own. -/
import Derived.Test.YtnppneilbkmnfaaKH
namespace Go.Proofs.Ytnppneilbkmnfaa
open Go.RowKit

theorem row_at {xs0 a0 : List Value} {l : List (Value × Value)} (hx : xs0 = a0 ++ l.map Prod.fst) {k : Nat} (h1 : a0.length ≤ k) (h2 : k < xs0.length) : ∃ p, l[k - a0.length]? = some p ∧ xs0[k]? = some p.1 ∧ k - a0.length < l.length := by
  subst hx
  simp only [List.length_append, List.length_map] at h2
  have h3 : k - a0.length < l.length := by omega
  exact ⟨l[k - a0.length], List.getElem?_eq_getElem h3, by rw [List.getElem?_append_right h1]; simp [h3], h3⟩
theorem Mk.grown {S : Nat} {w : World} {bp : Nat} {r : Nat → Value} {xs : Nat → List Value} {B N F : Nat} {its : Nat → List (Value × Value)} {m : Nat → Nat} (h : Mk S w bp r xs B N F its m) {c i : Nat} {p : Value × Value} (hc : c < 3) (hp : (its c)[i]? = some p) (hi : i < m c) :
    ∃ n cs, Own w (cty c) (csz c) p.1 n cs ∧ n ≤ 1073741824 ∧ ∀ w' x j, Gr (cty c) (csz c) w w' p.1 n cs x j → Mk S w' bp r xs B N F its m ∧ Ext (ifeet its) w w' := by
  obtain ⟨n, cs, h1, h2, h3, h4, h5⟩ := h.wn c i p hc hi hp
  have hm := List.mem_of_getElem? hp
  refine ⟨n, cs, h1, h4, fun w' x j hG => ?_⟩
  obtain ⟨g1, g2, g3, -⟩ := hG
  refine ⟨h.frame g3 hc hp (fun _ hk => hk) ⟨n, cs, g1, h4⟩ fun _ => ⟨n, cs, g1, h2.ext g3 fun k hk hk2 => (h5 k hk).2.2 (.inr ⟨c, p, hc, hm, hk2⟩), h3, h4, fun k hk => ⟨(h5 k hk).1, Nat.lt_of_lt_of_le (h5 k hk).2.1 g3.size, (h5 k hk).2.2⟩⟩, g3.mono fun k _ hk => ⟨c, p, hc, hm, hk⟩⟩
theorem info_strJ : (Try.prog.info? 9).map (fun i => (i.zero, i.size, i.bytes)) = some (some (.string ⟨#[]⟩), 1, 16) := by kernel_rfl

set_option maxRecDepth 20000 in
set_option maxHeartbeats 2000000 in
theorem grow_m (S : Nat) (w : World) (bp : Nat) (r : Nat → Value) (xs : Nat → List Value) (a0 a2 a4 : List Value) (its : Nat → List (Value × Value)) (m : Nat → Nat) (h : Mk S w bp r xs a0.length a2.length a4.length its m)
    (x0 : xs 0 = a0 ++ (its 0).map Prod.fst) (x2 : xs 2 = a2 ++ (its 1).map Prod.fst) (x4 : xs 4 = a4 ++ (its 2).map Prod.fst) (hm : ∀ c, c < 3 → (its c).length ≤ m c) :
    Calls Try.prog 82 #[.pointer (some ⟨bp, 0, none⟩)] w fun e w' => e = .returned (.tuple #[]) ∧ Mk S w' bp r xs a0.length a2.length a4.length its m ∧ Ext (ifeet its) w w' := by
  have l0 : a0.length ≤ (xs 0).length := by rw [x0]; simp
  have l2 : a2.length ≤ (xs 2).length := by rw [x2]; simp
  have l4 : a4.length ≤ (xs 4).length := by rw [x4]; simp
  have HX0 := Lib.hid x0; have HX2 := Lib.hid x2; have HX4 := Lib.hid x4; have HM0 := Lib.hid h; have HALL := Lib.hid hm
  have z6 := h.bk.cells.cell 6 rfl
  clear x0 x2 x4 h hm
  go_enter Try.func82, Try.ntmps82
  go_wp2_with fail
  clear z6
  go_loopw [2] (fun i wr => ∃ k : Nat, a0.length ≤ k ∧ k ≤ (xs 0).length ∧ i = .int .i64 (k : Int) ∧ Mk S wr bp r xs a0.length a2.length a4.length its m ∧ Ext (ifeet its) w wr) (fun i _ => (xs 0).length - (intOf i).toNat)
  case atStart => exact ⟨a0.length, Nat.le_refl _, l0, rfl, HM0.out, Ext.refl _ _⟩
  case round =>
    obtain ⟨k, hk1, hk2, rfl, hM, hE⟩ := hrel
    obtain ⟨ao, cp, hcp1, hcp2, zl⟩ := hM.bk.lenAt (i := 0) (by omega) rfl
    unfold maxLen at hcp2
    by_cases hlt : k < (xs 0).length
    · have hlt2 : (k : Int) < ((xs 0).length : Int) := by omega
      obtain ⟨p, hp, hp2, hp3⟩ := row_at HX0.out hk1 hlt
      obtain ⟨g, c, u, hr, q1, -, q2, q3, -, q5⟩ := hM.bk.elem (i := 0) (by omega) hlt
      obtain rfl : p.1 = u := by rw [q2] at hp2; exact (Option.some.inj hp2).symm
      obtain ⟨n, cs, hO, hn, hG⟩ := hM.grown (c := 0) (by omega) hp (Nat.lt_of_lt_of_le hp3 (HALL.out 0 (by omega)))
      obtain ⟨ax, cx, hv, -, -⟩ := Own.shape hO
      have HGS := Lib.hid (Gr.start hO)
      have HG := Lib.hid hG; have HE := Lib.hid hE
      rw [hv] at q3 HGS HG
      clear hp hp2 hp3 q2 hO hG hM hE hv hr zl
      go_wp2_with fail
      clear q1 q3
      go_loopw [3, 4] (fun x i wq => ∃ j : Nat, j ≤ 64 ∧ i = .int .i64 (j : Int) ∧ Gr 5 1 wr wq (.slice ax n cx) n cs x j) (fun _ i _ => 64 - (intOf i).toNat)
      case atStart => exact ⟨0, by omega, rfl, HGS.out⟩
      case round =>
        obtain ⟨j, hj, rfl, hGr⟩ := hrel
        have HGR := Lib.hid hGr
        clear hGr
        by_cases hj2 : j < 64
        · have hj3 : (j : Int) < 64 := by omega
          have HSRC := Lib.hid (fun W => Reads.src (P := Try.prog) (Reads.item W [.int .u8 211] 5 1 rfl) Try.underlying31 (by intro u hu; rw [List.mem_singleton] at hu; subst hu; rfl))
          go_wp2_with (at_builtin; refine wpList_append_gr HGR.out ((Ext.refl Nil _).alloc _) info_u8 rfl Try.underlying31 (HSRC.out _) (by omega) (by omega) rfl _ _ rfl rfl rfl ?_; intro ao2 cap2 w2 hG2; have HG2 := Lib.hid hG2; clear hG2)
          exact ⟨⟨j + 1, by omega, by go_num, HG2.out⟩, by simp [intOf]; omega⟩
        · have hj3 : ¬ (j : Int) < 64 := by omega
          have hN := HG.out _ _ _ HGR.out
          have HN := Lib.hid hN.1; have HE2 := Lib.hid (HE.out.same hN.2)
          clear hN
          go_wp2_with fail
          exact ⟨⟨k + 1, by omega, by omega, by go_num, HN.out, HE2.out⟩, by simp [intOf]; omega⟩
    · obtain rfl : k = (xs 0).length := by omega
      have hno : ¬ ((xs 0).length : Int) < ((xs 0).length : Int) := by omega
      have HM1 := Lib.hid hM; have HE1 := Lib.hid hE
      have zn := hM.bk.cells.cell 7 rfl
      clear hM hE
      go_wp2_with fail
      clear hlt hno zl zn hcp1 hcp2 hk1 hk2
      go_loopw [5] (fun i wr => ∃ k : Nat, a2.length ≤ k ∧ k ≤ (xs 2).length ∧ i = .int .i64 (k : Int) ∧ Mk S wr bp r xs a0.length a2.length a4.length its m ∧ Ext (ifeet its) w wr) (fun i _ => (xs 2).length - (intOf i).toNat)
      case atStart => exact ⟨a2.length, Nat.le_refl _, l2, rfl, HM1.out, HE1.out⟩
      case round =>
        obtain ⟨k, hk1, hk2, rfl, hM, hE⟩ := hrel
        obtain ⟨ao, cp, hcp1, hcp2, zl⟩ := hM.bk.lenAt (i := 2) (by omega) rfl
        unfold maxLen at hcp2
        by_cases hlt : k < (xs 2).length
        · have hlt2 : (k : Int) < ((xs 2).length : Int) := by omega
          obtain ⟨p, hp, hp2, hp3⟩ := row_at HX2.out hk1 hlt
          obtain ⟨g, c, u, hr, q1, -, q2, q3, -, q5⟩ := hM.bk.elem (i := 2) (by omega) hlt
          obtain rfl : p.1 = u := by rw [q2] at hp2; exact (Option.some.inj hp2).symm
          obtain ⟨n, cs, hO, hn, hG⟩ := hM.grown (c := 1) (by omega) hp (Nat.lt_of_lt_of_le hp3 (HALL.out 1 (by omega)))
          obtain ⟨ax, cx, hv, -, -⟩ := Own.shape hO
          have HGS := Lib.hid (Gr.start hO)
          have HG := Lib.hid hG; have HE := Lib.hid hE
          rw [hv] at q3 HGS HG
          clear hp hp2 hp3 q2 hO hG hM hE hv hr zl
          go_wp2_with fail
          clear q1 q3
          go_loopw [6, 7] (fun x i wq => ∃ j : Nat, j ≤ 64 ∧ i = .int .i64 (j : Int) ∧ Gr 9 1 wr wq (.slice ax n cx) n cs x j) (fun _ i _ => 64 - (intOf i).toNat)
          case atStart => exact ⟨0, by omega, rfl, HGS.out⟩
          case round =>
            obtain ⟨j, hj, rfl, hGr⟩ := hrel
            have HGR := Lib.hid hGr
            clear hGr
            by_cases hj2 : j < 64
            · have hj3 : (j : Int) < 64 := by omega
              have HSRC := Lib.hid (fun W => Reads.src (P := Try.prog) (Reads.item W [.string ⟨#[103, 114, 111, 119, 110]⟩] 9 1 rfl) Try.underlying78 (by intro u hu; rw [List.mem_singleton] at hu; subst hu; rfl))
              go_wp2_with (at_builtin; refine wpList_append_gr HGR.out ((Ext.refl Nil _).alloc _) info_strJ rfl Try.underlying78 (HSRC.out _) (by omega) (by omega) rfl _ _ rfl rfl rfl ?_; intro ao2 cap2 w2 hG2; have HG2 := Lib.hid hG2; clear hG2)
              exact ⟨⟨j + 1, by omega, by go_num, HG2.out⟩, by simp [intOf]; omega⟩
            · have hj3 : ¬ (j : Int) < 64 := by omega
              have hN := HG.out _ _ _ HGR.out
              have HN := Lib.hid hN.1; have HE2 := Lib.hid (HE.out.same hN.2)
              clear hN
              go_wp2_with fail
              exact ⟨⟨k + 1, by omega, by omega, by go_num, HN.out, HE2.out⟩, by simp [intOf]; omega⟩
        · obtain rfl : k = (xs 2).length := by omega
          have hno : ¬ ((xs 2).length : Int) < ((xs 2).length : Int) := by omega
          have HM2 := Lib.hid hM; have HE2 := Lib.hid hE
          have zn := hM.bk.cells.cell 8 rfl
          clear hM hE
          go_wp2_with fail
          clear hlt hno zl zn hcp1 hcp2 hk1 hk2
          go_loopw [8] (fun i wr => ∃ k : Nat, a4.length ≤ k ∧ k ≤ (xs 4).length ∧ i = .int .i64 (k : Int) ∧ Mk S wr bp r xs a0.length a2.length a4.length its m ∧ Ext (ifeet its) w wr) (fun i _ => (xs 4).length - (intOf i).toNat)
          case atStart => exact ⟨a4.length, Nat.le_refl _, l4, rfl, HM2.out, HE2.out⟩
          case round =>
            obtain ⟨k, hk1, hk2, rfl, hM, hE⟩ := hrel
            obtain ⟨ao, cp, hcp1, hcp2, zl⟩ := hM.bk.lenAt (i := 4) (by omega) rfl
            unfold maxLen at hcp2
            by_cases hlt : k < (xs 4).length
            · have hlt2 : (k : Int) < ((xs 4).length : Int) := by omega
              obtain ⟨p, hp, hp2, hp3⟩ := row_at HX4.out hk1 hlt
              obtain ⟨g, c, u, hr, q1, -, q2, q3, -, q5⟩ := hM.bk.elem (i := 4) (by omega) hlt
              obtain rfl : p.1 = u := by rw [q2] at hp2; exact (Option.some.inj hp2).symm
              obtain ⟨n, cs, hO, hn, hG⟩ := hM.grown (c := 2) (by omega) hp (Nat.lt_of_lt_of_le hp3 (HALL.out 2 (by omega)))
              obtain ⟨ax, cx, hv, -, -⟩ := Own.shape hO
              have HGS := Lib.hid (Gr.start hO)
              have HG := Lib.hid hG; have HE := Lib.hid hE
              rw [hv] at q3 HGS HG
              clear hp hp2 hp3 q2 hO hG hM hE hv hr zl
              go_wp2_with fail
              clear q1 q3
              go_loopw [9, 10] (fun x i wq => ∃ j : Nat, j ≤ 64 ∧ i = .int .i64 (j : Int) ∧ Gr 41 2 wr wq (.slice ax n cx) n cs x j) (fun _ i _ => 64 - (intOf i).toNat)
              case atStart => exact ⟨0, by omega, rfl, HGS.out⟩
              case round =>
                obtain ⟨j, hj, rfl, hGr⟩ := hrel
                have HGR := Lib.hid hGr
                clear hGr
                by_cases hj2 : j < 64
                · have hj3 : (j : Int) < 64 := by omega
                  have HSRC := Lib.hid (fun W => Reads.src (P := Try.prog) (Reads.item W [.string ⟨#[103, 114, 111, 119, 110]⟩, .slice none 0 0] 41 2 rfl) Try.underlying34 (by intro u hu; simp only [List.mem_cons, List.not_mem_nil, or_false] at hu; rcases hu with rfl | rfl <;> rfl))
                  go_wp2_with (at_builtin; refine wpList_append_gr HGR.out ((Ext.refl Nil _).alloc _) info_file rfl Try.underlying34 (HSRC.out _) (by omega) (by omega) rfl _ _ rfl rfl rfl ?_; intro ao2 cap2 w2 hG2; have HG2 := Lib.hid hG2; clear hG2)
                  exact ⟨⟨j + 1, by omega, by go_num, HG2.out⟩, by simp [intOf]; omega⟩
                · have hj3 : ¬ (j : Int) < 64 := by omega
                  have hN := HG.out _ _ _ HGR.out
                  have HN := Lib.hid hN.1; have HE2 := Lib.hid (HE.out.same hN.2)
                  clear hN
                  go_wp2_with fail
                  exact ⟨⟨k + 1, by omega, by omega, by go_num, HN.out, HE2.out⟩, by simp [intOf]; omega⟩
            · obtain rfl : k = (xs 4).length := by omega
              have hno : ¬ ((xs 4).length : Int) < ((xs 4).length : Int) := by omega
              have HN := Lib.hid hM; have HE := Lib.hid hE
              clear hM hE
              go_wp2_with fail
              go_end0
              exact ⟨rfl, HN.out, HE.out⟩
end Go.Proofs.Ytnppneilbkmnfaa
