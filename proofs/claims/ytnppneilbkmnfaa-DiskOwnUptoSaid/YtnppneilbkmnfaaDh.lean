/- Contracts: the closures of the disk's Sync and Remove. Conditions: the disk stands, the boxes lie elsewhere; the file is there. -/
import Derived.Test.YtnppneilbkmnfaaDg
namespace Go.Proofs.Ytnppneilbkmnfaa
open Go.RowKit

/-- a builtin's run as a step of a drawn region -/
theorem step_delete_run {P : Program} {ops : Array Oper} {o : Oper} {a : Act} {w w' : World} {K : Act → World → Prop} {Q : Exit → Act → World → Prop} {E : Prop} (hg : o.guard = none) (m x : Operand) (t k : TypeId)
    (hop : o.op = .call { callee := .builtin .delete, args := #[m, x], argTypes := #[t, k] }) (vm vx v : Value) (hm : a.eval m = vm) (hx : a.eval x = vx) (hrun : (Builtin.delete_ #[t, k] o.type #[vm, vx]).run P w = .ok v w')
    (hK : K (a.put o.dst v) w') : if Region.wanted o (yielded ops a.tmps) = true then Oper.wp P o a w K Q else E := by
  have hw : Region.wanted o (yielded ops a.tmps) = true := by simp [Region.wanted, hg]
  rw [if_pos hw]
  unfold Oper.wp
  simp [execOp, hop, resolve, invoke, builtin, hm, hx, hrun, Result.andThen]
  exact hK
theorem step_append_run {P : Program} {ops : Array Oper} {o : Oper} {a : Act} {w w' : World} {K : Act → World → Prop} {Q : Exit → Act → World → Prop} {E : Prop} (hg : o.guard = none) (m x : Operand) (t k : TypeId)
    (hop : o.op = .call { callee := .builtin .append, args := #[m, x], argTypes := #[t, k] }) (vm vx v : Value) (hm : a.eval m = vm) (hx : a.eval x = vx) (hrun : (Builtin.append_ #[t, k] o.type #[vm, vx]).run P w = .ok v w')
    (hK : K (a.put o.dst v) w') : if Region.wanted o (yielded ops a.tmps) = true then Oper.wp P o a w K Q else E := by
  have hw : Region.wanted o (yielded ops a.tmps) = true := by simp [Region.wanted, hg]
  rw [if_pos hw]
  unfold Oper.wp
  simp [execOp, hop, resolve, invoke, builtin, hm, hx, hrun, Result.andThen]
  exact hK

set_option maxRecDepth 20000 in
set_option maxHeartbeats 1000000 in
theorem sync_do (w : World) (d mb : Nat) (av : Value) (fbs : List FB) (D : Dk) (h : DAt w d mb av fbs D) (pf : Nat) (s : Nm) (x : FB) (hf : findK FB.nm s fbs = some x) (hb : Bx w pf (.pointer (some ⟨x.blk, 0, none⟩))) (hpf : pf ∉ dbl d mb av fbs) :
    Calls Try.prog 94 #[.pointer (some ⟨pf, 0, none⟩)] w (Did w d mb av fbs (D.put ⟨s, x.f.b, x.f.b.length⟩)) := by
  obtain ⟨A, B, hfb, hxn, hfd, hx, hdel, hput⟩ := h.at hf
  obtain ⟨ao, cap, hv, hcap, hcm⟩ := hx.2.shape
  have f0 := hx.1.cell 0 rfl
  have f1 := hx.1.cell 1 rfl
  have z1 := hx.1.frozen 1
  rw [hv] at f0
  have hb' : w.cell? ⟨pf, 0, none⟩ = some (.pointer (some ⟨x.blk, 0, none⟩)) := hb
  have hpx : pf ≠ x.blk := fun e => hpf (by
    subst hfb
    simp only [dbl, List.flatMap_append, List.mem_cons, List.mem_append]
    exact .inr (.inr (.inr (.inl (.inr (by rw [e]; simp [FB.bl]))))))
  have hmem := (findK_some _ hfd).1
  have hus := (Dk.used_put h.wf ⟨s, x.f.b, x.f.b.length⟩).1
  have hsz : D.size s = x.f.b.length := Dk.size_some hfd
  have hul : D.used ≤ D.lim := h.wf.used
  have hwf : (D.put ⟨s, x.f.b, x.f.b.length⟩).Wf := Dk.put_wf h.wf _ (Nat.le_refl _) (by show nmOk s = true; rw [← hxn]; exact h.wf.names _ hmem) (by show D.used + x.f.b.length ≤ D.lim + D.size s; omega) (.inl (by show (D.find s).isSome = true; rw [hfd]; rfl))
  have hused : (D.put ⟨s, x.f.b, x.f.b.length⟩).used = D.used := by
    have hus : _ + D.size s = D.used + x.f.b.length := hus
    omega
  have hsame : (A ++ [(⟨⟨s, x.f.b, x.f.b.length⟩, x.blk, x.v⟩ : FB)] ++ B).map FB.f = (D.put ⟨s, x.f.b, x.f.b.length⟩).fs := by rw [hput _ rfl]; simp
  have hmapeq : mapD (A ++ [(⟨⟨s, x.f.b, x.f.b.length⟩, x.blk, x.v⟩ : FB)] ++ B) = mapD fbs := by rw [hfb]; simp [mapD, ent, hxn]
  have hlen : (A ++ [(⟨⟨s, x.f.b, x.f.b.length⟩, x.blk, x.v⟩ : FB)] ++ B).length = fbs.length := by rw [hfb]; simp
  have hend : ∀ w', w' = w.drew.setCell ⟨x.blk, 1, none⟩ (.int .i64 x.f.b.length) → ∃ fbs', DAt w' d mb av fbs' (D.put ⟨s, x.f.b, x.f.b.length⟩) ∧ Step (· ∈ dbl d mb av fbs) w (· ∈ dbl d mb av fbs') w' := by
    intro w' hw'
    subst hw'
    have e : Ext (One x.blk) w (w.drew.setCell ⟨x.blk, 1, none⟩ (.int .i64 x.f.b.length)) := ((Ext.refl (One x.blk) w).drew).setCell (p := ⟨x.blk, 1, none⟩) (fun _ => (rfl : x.blk = x.blk)) _
    have hp := h.part.2.2.2 x (by rw [hfb]; simp)
    have hbk := hp x.blk (List.mem_cons_self ..)
    have hxx : ¬ inFoot x.v x.blk := fun e => by
      have hnd := h.nodup
      subst hfb
      simp only [dbl, List.flatMap_append, List.nodup_cons, List.nodup_append, List.mem_append, List.mem_cons, List.flatMap_cons, List.flatMap_nil, List.append_nil, FB.bl] at hnd
      exact hnd.2.2.2.1.1.2.1.1 (mem_footL.2 e)
    refine ⟨A ++ [⟨⟨s, x.f.b, x.f.b.length⟩, x.blk, x.v⟩] ++ B, ?_⟩
    subst hfb
    refine h.change (D' := D.put ⟨s, x.f.b, x.f.b.length⟩) (e.mono fun k _ hk => .inr (.inr (by have hk : k = x.blk := hk; rw [hk]; simp [FB.bl]))) ?_ ?_ rfl ?_ ?_ ?_ hsame hwf
    · rw [hused]
      exact h.cells.ext e fun e => hbk.1 e.symm
    · have hm := h.map.ext e fun e => hbk.2.1 e.symm
      unfold MapAt at hm ⊢
      rw [hmapeq, hlen]
      exact hm
    · intro y hy
      rw [List.mem_singleton] at hy
      subst hy
      refine ⟨hx.1.drew.set 1 (.int .i64 x.f.b.length), hx.2.ext e fun k hk ek => hxx (by have ek : k = x.blk := ek; rwa [ek] at hk)⟩
    · have := h.nodup
      simp only [List.flatMap_cons, List.flatMap_nil, List.append_nil, FB.bl, List.nodup_cons]
      exact ⟨fun e => hxx (mem_footL.1 e), footL_nodup _⟩
    · intro k hk
      exact .inl (by simpa [FB.bl] using hk)
  have HEND := Lib.hid hend
  clear hend hsame hmapeq hlen hused hwf hus hsz hput hdel hfd hmem h hx hv hxn hfb hf hul
  generalize x.f.b = b at *
  go_enter Try.func94, Try.ntmps94
  go_wp2_with fail
  refine wp_region_held_drew (S := fun w' => w'.cell? ⟨pf, 0, none⟩ = some (.pointer (some ⟨x.blk, 0, none⟩)) ∧ w'.cell? ⟨x.blk, 0, none⟩ = some (.slice ao b.length cap)) (by kernel_rfl) ⟨hb', f0⟩ (fun hHeld => ?_)
  refine wpAnyH_take (i := 0) (v := .pointer (some ⟨x.blk, 0, none⟩)) rfl (by kernel_rfl) (by kernel_rfl) (by kernel_rfl) (fun _ _ _ h => h) (Or.inl ⟨by rfl, ?y1⟩) (by assumption) ?r1
  case y1 => (intro w hSw; obtain ⟨s1, s2⟩ := hSw; go_simp)
  simp only [Act.put]
  refine wpAnyH_take (i := 1) (v := .pointer (some ⟨x.blk, 0, none⟩)) rfl (by kernel_rfl) (by kernel_rfl) (by kernel_rfl) (fun _ _ _ h => h) (Or.inl ⟨by rfl, ?y2⟩) (by assumption) ?r2
  case y2 => (intro w hSw; obtain ⟨s1, s2⟩ := hSw; go_simp)
  simp only [Act.put]
  refine wpAnyH_take (i := 2) (v := .pointer (some ⟨x.blk, 0, none⟩)) rfl (by kernel_rfl) (by kernel_rfl) (by kernel_rfl) (fun _ _ _ h => h) (Or.inl ⟨by rfl, ?y3⟩) (by assumption) ?r3
  case y3 => (intro w hSw; obtain ⟨s1, s2⟩ := hSw; go_simp)
  simp only [Act.put]
  refine wpAnyH_take (i := 3) (v := .pointer (some ⟨x.blk, 0, none⟩)) rfl (by kernel_rfl) (by kernel_rfl) (by kernel_rfl) (fun _ _ _ h => h) (Or.inl ⟨by rfl, ?y4⟩) (by assumption) ?r4
  case y4 => (intro w hSw; obtain ⟨s1, s2⟩ := hSw; go_simp)
  simp only [Act.put]
  refine wpAnyH_take (i := 4) (v := .slice ao b.length cap) rfl (by kernel_rfl) (by kernel_rfl) (by kernel_rfl) (fun _ _ _ h => h) (Or.inl ⟨by rfl, ?y5⟩) (by assumption) ?r5
  case y5 => (intro w hSw; obtain ⟨s1, s2⟩ := hSw; go_simp)
  simp only [Act.put]
  refine wpAnyH_take (i := 5) (v := .int .i64 b.length) rfl (by kernel_rfl) (by kernel_rfl) (by kernel_rfl) (fun _ _ _ h => h) (Or.inl ⟨by rfl, ?y6⟩) (by assumption) ?r6
  case y6 => (intro w hSw; obtain ⟨s1, s2⟩ := hSw; go_simp)
  simp only [Act.put]
  refine wpAnyH_take (i := 6) (v := .pointer (some ⟨x.blk, 0, none⟩)) rfl (by kernel_rfl) (by kernel_rfl) (by kernel_rfl) (fun _ _ _ h => h) (Or.inl ⟨by rfl, ?y7⟩) (by assumption) ?r7
  case y7 => (intro w hSw; obtain ⟨s1, s2⟩ := hSw; go_simp)
  simp only [Act.put]
  refine wpAnyH_take (i := 7) (v := .pointer (some ⟨x.blk, 1, none⟩)) rfl (by kernel_rfl) (by kernel_rfl) (by kernel_rfl) (fun _ _ _ h => h) (Or.inl ⟨by rfl, ?y8⟩) (by assumption) ?r8
  case y8 => (intro w hSw; obtain ⟨s1, s2⟩ := hSw; go_simp)
  simp only [Act.put]
  refine wpAnyH_ready (rs := [8]) (by kernel_rfl) (by simp) (AllReadyH.cons rfl (fun K hK => ?_) AllReadyH.nil)
  go_simp
  refine hK.out _ _ ⟨(World.cell?_setCell_other _ _ _ _ (by simp)).trans hb', (World.cell?_setCell_other _ _ _ _ (by simp)).trans f0⟩ (fun hHeld => ?_)
  clear hK K
  refine wpAnyH_done (by kernel_rfl) ?_ _
  go_wp2_with fail
  go_end0
  exact ⟨rfl, HEND.out _ rfl⟩

set_option maxRecDepth 20000 in
set_option maxHeartbeats 1000000 in
theorem remove_do (w : World) (d mb : Nat) (av : Value) (fbs : List FB) (D : Dk) (h : DAt w d mb av fbs D) (pd pn : Nat) (s : ByteArray) (hs : s.size ≤ maxLen) (x : FB) (hf : findK FB.nm s.data.toList fbs = some x) (hd : Bx w pd (.pointer (some ⟨d, 0, none⟩))) (hn : Bx w pn (.string s))
    (hpd : pd ∉ dbl d mb av fbs) (hpn : pn ∉ dbl d mb av fbs) :
    Calls Try.prog 96 #[.pointer (some ⟨pd, 0, none⟩), .pointer (some ⟨pn, 0, none⟩)] w (Did w d mb av fbs (D.del s.data.toList)) := by
  obtain ⟨A, B, hfb, hxn, hfd, hx, hdel, hput⟩ := h.at hf
  have c1 := h.cells.cell 1 rfl
  have f1 := h.cells.frozen 1
  have hp := h.part
  have hd' : w.cell? ⟨pd, 0, none⟩ = some (.pointer (some ⟨d, 0, none⟩)) := hd
  have hn' : w.cell? ⟨pn, 0, none⟩ = some (.string s) := hn
  have hdne : pd ≠ d := fun e => hpd (by rw [e]; simp [dbl])
  have hnne : pn ≠ d := fun e => hpn (by rw [e]; simp [dbl])
  have hus := Dk.used_del h.wf s.data.toList
  have hul := h.wf.used
  have hl1 := h.wf.lim1
  have hwf := Dk.del_wf h.wf s.data.toList
  have hsame : (A ++ [] ++ B).map FB.f = (D.del s.data.toList).fs := by
    show _ = delK FileM.nm s.data.toList D.fs
    rw [← h.same, ← delK_map FB.nm FileM.nm FB.f (fun _ => rfl), hdel]
    simp
  generalize hS : D.size s.data.toList = S at *
  generalize hU : (D.del s.data.toList).used = U at *
  have hul' : D.used ≤ D.lim := hul
  generalize hV : D.used = V at *
  have hw1 : IntKind.i64.wrap ((V : Int) - S) = (U : Int) := by rw [IntWalk.i64_in _ (by omega)]; omega
  have HS := Lib.hid hS; have HU := Lib.hid hU; have HV := Lib.hid hV; have HUS := Lib.hid hus
  clear hS hU hV hus
  have HSAME := Lib.hid hsame; have HDEL := Lib.hid hdel; have HFB := Lib.hid hfb
  clear hsame hdel hfb hput hxn hfd hf
  go_enter Try.func96, Try.ntmps96
  go_wp2_with fail
  refine wp_region_held_drew (S := fun w' => w'.cell? ⟨pd, 0, none⟩ = some (.pointer (some ⟨d, 0, none⟩)) ∧ w'.cell? ⟨pn, 0, none⟩ = some (.string s)) (by kernel_rfl) ⟨hd', hn'⟩ (fun hHeld => ?_)
  refine wpAnyH_take (i := 0) (v := .pointer (some ⟨d, 0, none⟩)) rfl (by kernel_rfl) (by kernel_rfl) (by kernel_rfl) (fun _ _ _ h => h) (Or.inl ⟨by rfl, ?y9⟩) (by assumption) ?r9
  case y9 => (intro w hSw; obtain ⟨s1, s2⟩ := hSw; go_simp)
  simp only [Act.put]
  refine wpAnyH_take (i := 1) (v := .pointer (some ⟨d, 0, none⟩)) rfl (by kernel_rfl) (by kernel_rfl) (by kernel_rfl) (fun _ _ _ h => h) (Or.inl ⟨by rfl, ?y10⟩) (by assumption) ?r10
  case y10 => (intro w hSw; obtain ⟨s1, s2⟩ := hSw; go_simp)
  simp only [Act.put]
  refine wpAnyH_take (i := 2) (v := .pointer (some ⟨d, 1, none⟩)) rfl (by kernel_rfl) (by kernel_rfl) (by kernel_rfl) (fun _ _ _ h => h) (Or.inl ⟨by rfl, ?y11⟩) (by assumption) ?r11
  case y11 => (intro w hSw; obtain ⟨s1, s2⟩ := hSw; go_simp)
  simp only [Act.put]
  refine wpAnyH_take (i := 4) (v := .pointer (some ⟨d, 0, none⟩)) rfl (by kernel_rfl) (by kernel_rfl) (by kernel_rfl) (fun _ _ _ h => h) (Or.inl ⟨by rfl, ?y12⟩) (by assumption) ?r12
  case y12 => (intro w hSw; obtain ⟨s1, s2⟩ := hSw; go_simp)
  simp only [Act.put]
  refine wpAnyH_take (i := 5) (v := .string s) rfl (by kernel_rfl) (by kernel_rfl) (by kernel_rfl) (fun _ _ _ h => h) (Or.inl ⟨by rfl, ?y13⟩) (by assumption) ?r13
  case y13 => (intro w hSw; obtain ⟨s1, s2⟩ := hSw; go_simp)
  simp only [Act.put]
  refine wpAnyH_ready (rs := [3, 6]) (by kernel_rfl) (by simp) (AllReadyH.cons rfl (fun K hK => ?o3) (AllReadyH.cons rfl (fun K hK => ?o6) AllReadyH.nil))
  case o3 =>
    go_simp
    refine hK.out _ _ ⟨hd', hn'⟩ (fun hHeld => ?_)
    clear hK K
    refine wpAnyH_ready (rs := [6]) (by kernel_rfl) (by simp) (AllReadyH.cons rfl (fun K hK => ?_) AllReadyH.nil)
    go_simp
    refine (size_q _ d mb av fbs D h.drew s hs S HS).mono ?_
    rintro e w' ⟨rfl, rfl⟩
    go_wp2_with fail
    refine hK.out _ _ ⟨hd', hn'⟩ (fun hHeld => ?_)
    clear hK K
    refine wpAnyH_take (i := 7) (v := .int .i64 U) rfl (by kernel_rfl) (by kernel_rfl) (by kernel_rfl) (fun _ _ _ h => h) (Or.inl ⟨by rfl, ?y14⟩) (by assumption) ?r14
    case y14 => (intro w hSw; obtain ⟨s1, s2⟩ := hSw; go_simp)
    simp only [Act.put]
    refine wpAnyH_take (i := 8) (v := .pointer (some ⟨d, 0, none⟩)) rfl (by kernel_rfl) (by kernel_rfl) (by kernel_rfl) (fun _ _ _ h => h) (Or.inl ⟨by rfl, ?y15⟩) (by assumption) ?r15
    case y15 => (intro w hSw; obtain ⟨s1, s2⟩ := hSw; go_simp)
    simp only [Act.put]
    refine wpAnyH_take (i := 9) (v := .pointer (some ⟨d, 1, none⟩)) rfl (by kernel_rfl) (by kernel_rfl) (by kernel_rfl) (fun _ _ _ h => h) (Or.inl ⟨by rfl, ?y16⟩) (by assumption) ?r16
    case y16 => (intro w hSw; obtain ⟨s1, s2⟩ := hSw; go_simp)
    simp only [Act.put]
    refine wpAnyH_ready (rs := [10]) (by kernel_rfl) (by simp) (AllReadyH.cons rfl (fun K hK => ?_) AllReadyH.nil)
    go_simp
    refine hK.out _ _ ⟨(World.cell?_setCell_other _ _ _ _ (by simp)).trans hd', (World.cell?_setCell_other _ _ _ _ (by simp)).trans hn'⟩ (fun hHeld => ?_)
    clear hK K
    refine wpAnyH_done (by kernel_rfl) ?_ _
    have e1 : Ext (One d) w (w.setCell ⟨d, 1, none⟩ (.int .i64 U)).drew := ((Ext.refl (One d) w).setCell (p := ⟨d, 1, none⟩) (fun _ => (rfl : d = d)) _).drew
    have A1 : At (w.setCell ⟨d, 1, none⟩ (.int .i64 U)).drew d 57 _ := h.cells.set 1 (.int .i64 U)
    have hd2 := e1.cell hd' hdne
    have hn2 := e1.cell hn' hnne
    generalize (w.setCell ⟨d, 1, none⟩ (.int .i64 U)).drew = X at *
    have M1 := h.map.ext e1 (fun e => hp.1 (by have e : mb = d := e; exact e.symm))
    have C2 := A1.cell 2 rfl
    obtain ⟨w', hrun, M', e'⟩ := MapAt.del (w := X.drew) M1 s hs 0
    have hbx : ∀ k, k ∉ dbl d mb av fbs → ¬ One mb k := fun k hk e => hk (by have e : k = mb := e; rw [e]; simp [dbl])
    have hE : Ext (fun k => k = d ∨ k = mb) w w' := (e1.drew.mono fun i _ e => .inl e).trans e' fun i _ e => .inr e
    have hA' := (A1.drew).ext e' fun e => hp.1 e
    rw [HDEL.out] at M'
    have HL : Hid (∃ fbs', DAt w' d mb av fbs' (D.del s.data.toList) ∧ Step (· ∈ dbl d mb av fbs) w (· ∈ dbl d mb av fbs') w') := by
      refine Lib.hid ⟨A ++ [] ++ B, ?_⟩
      have h1 := h
      rw [HFB.out] at h1 ⊢
      exact h1.change (D' := D.del s.data.toList) (hE.mono fun k _ hk => hk.imp id .inl) (by rw [HU.out]; exact hA') (by simpa using M') rfl (by intro y hy; cases hy) (by simp) (by intro k hk; simp at hk) HSAME.out hwf
    clear hE hA' e1 A1 M1 M' h HFB
    go_wp2_with fail
    refine wp_region_held_drew (S := fun w' => w'.cell? ⟨pd, 0, none⟩ = some (.pointer (some ⟨d, 0, none⟩)) ∧ w'.cell? ⟨pn, 0, none⟩ = some (.string s)) (by kernel_rfl) ⟨hd2, hn2⟩ (fun hHeld => ?_)
    refine wpAnyH_take (i := 0) (v := .pointer (some ⟨d, 0, none⟩)) rfl (by kernel_rfl) (by kernel_rfl) (by kernel_rfl) (fun _ _ _ h => h) (Or.inl ⟨by rfl, ?y17⟩) (by assumption) ?r17
    case y17 => (intro w hSw; obtain ⟨s1, s2⟩ := hSw; go_simp)
    simp only [Act.put]
    refine wpAnyH_take (i := 1) (v := .pointer (some ⟨d, 0, none⟩)) rfl (by kernel_rfl) (by kernel_rfl) (by kernel_rfl) (fun _ _ _ h => h) (Or.inl ⟨by rfl, ?y18⟩) (by assumption) ?r18
    case y18 => (intro w hSw; obtain ⟨s1, s2⟩ := hSw; go_simp)
    simp only [Act.put]
    refine wpAnyH_take (i := 2) (v := .pointer (some ⟨d, 2, none⟩)) rfl (by kernel_rfl) (by kernel_rfl) (by kernel_rfl) (fun _ _ _ h => h) (Or.inl ⟨by rfl, ?y19⟩) (by assumption) ?r19
    case y19 => (intro w hSw; obtain ⟨s1, s2⟩ := hSw; go_simp)
    simp only [Act.put]
    refine wpAnyH_take (i := 4) (v := .string s) rfl (by kernel_rfl) (by kernel_rfl) (by kernel_rfl) (fun _ _ _ h => h) (Or.inl ⟨by rfl, ?y20⟩) (by assumption) ?r20
    case y20 => (intro w hSw; obtain ⟨s1, s2⟩ := hSw; go_simp)
    simp only [Act.put]
    refine wpAnyH_ready (rs := [3]) (by kernel_rfl) (by simp) (AllReadyH.cons rfl (fun K hK => ?_) AllReadyH.nil)
    go_simp
    refine hK.out _ _ ⟨hd2, hn2⟩ (fun hHeld => ?_)
    clear hK K
    refine wpAnyH_ready (rs := [5]) (by kernel_rfl) (by simp) (AllReadyH.cons rfl (fun K hK => ?_) AllReadyH.nil)
    refine step_delete_run rfl _ _ _ _ rfl _ _ _ rfl rfl hrun ?_
    refine hK.out _ _ ⟨e'.cell hd2 (hbx _ hpd), e'.cell hn2 (hbx _ hpn)⟩ (fun hHeld => ?_)
    clear hK K
    refine wpAnyH_done (by kernel_rfl) ?_ _
    go_wp2_with fail
    go_end0
    exact ⟨rfl, HL.out⟩
  case o6 =>
    go_simp
    refine (size_q _ d mb av fbs D h.drew s hs S HS).mono ?_
    rintro e w' ⟨rfl, rfl⟩
    go_wp2_with fail
    refine hK.out _ _ ⟨hd', hn'⟩ (fun hHeld => ?_)
    clear hK K
    refine wpAnyH_ready (rs := [3]) (by kernel_rfl) (by simp) (AllReadyH.cons rfl (fun K hK => ?_) AllReadyH.nil)
    go_simp
    refine hK.out _ _ ⟨hd', hn'⟩ (fun hHeld => ?_)
    clear hK K
    refine wpAnyH_take (i := 7) (v := .int .i64 U) rfl (by kernel_rfl) (by kernel_rfl) (by kernel_rfl) (fun _ _ _ h => h) (Or.inl ⟨by rfl, ?yq14⟩) (by assumption) ?rq14
    case yq14 => (intro w hSw; obtain ⟨s1, s2⟩ := hSw; go_simp)
    simp only [Act.put]
    refine wpAnyH_take (i := 8) (v := .pointer (some ⟨d, 0, none⟩)) rfl (by kernel_rfl) (by kernel_rfl) (by kernel_rfl) (fun _ _ _ h => h) (Or.inl ⟨by rfl, ?yq15⟩) (by assumption) ?rq15
    case yq15 => (intro w hSw; obtain ⟨s1, s2⟩ := hSw; go_simp)
    simp only [Act.put]
    refine wpAnyH_take (i := 9) (v := .pointer (some ⟨d, 1, none⟩)) rfl (by kernel_rfl) (by kernel_rfl) (by kernel_rfl) (fun _ _ _ h => h) (Or.inl ⟨by rfl, ?yq16⟩) (by assumption) ?rq16
    case yq16 => (intro w hSw; obtain ⟨s1, s2⟩ := hSw; go_simp)
    simp only [Act.put]
    refine wpAnyH_ready (rs := [10]) (by kernel_rfl) (by simp) (AllReadyH.cons rfl (fun K hK => ?_) AllReadyH.nil)
    go_simp
    refine hK.out _ _ ⟨(World.cell?_setCell_other _ _ _ _ (by simp)).trans hd', (World.cell?_setCell_other _ _ _ _ (by simp)).trans hn'⟩ (fun hHeld => ?_)
    clear hK K
    refine wpAnyH_done (by kernel_rfl) ?_ _
    have e1 : Ext (One d) w (w.setCell ⟨d, 1, none⟩ (.int .i64 U)).drew := ((Ext.refl (One d) w).setCell (p := ⟨d, 1, none⟩) (fun _ => (rfl : d = d)) _).drew
    have A1 : At (w.setCell ⟨d, 1, none⟩ (.int .i64 U)).drew d 57 _ := h.cells.set 1 (.int .i64 U)
    have hd2 := e1.cell hd' hdne
    have hn2 := e1.cell hn' hnne
    generalize (w.setCell ⟨d, 1, none⟩ (.int .i64 U)).drew = X at *
    have M1 := h.map.ext e1 (fun e => hp.1 (by have e : mb = d := e; exact e.symm))
    have C2 := A1.cell 2 rfl
    obtain ⟨w', hrun, M', e'⟩ := MapAt.del (w := X.drew) M1 s hs 0
    have hbx : ∀ k, k ∉ dbl d mb av fbs → ¬ One mb k := fun k hk e => hk (by have e : k = mb := e; rw [e]; simp [dbl])
    have hE : Ext (fun k => k = d ∨ k = mb) w w' := (e1.drew.mono fun i _ e => .inl e).trans e' fun i _ e => .inr e
    have hA' := (A1.drew).ext e' fun e => hp.1 e
    rw [HDEL.out] at M'
    have HL : Hid (∃ fbs', DAt w' d mb av fbs' (D.del s.data.toList) ∧ Step (· ∈ dbl d mb av fbs) w (· ∈ dbl d mb av fbs') w') := by
      refine Lib.hid ⟨A ++ [] ++ B, ?_⟩
      have h1 := h
      rw [HFB.out] at h1 ⊢
      exact h1.change (D' := D.del s.data.toList) (hE.mono fun k _ hk => hk.imp id .inl) (by rw [HU.out]; exact hA') (by simpa using M') rfl (by intro y hy; cases hy) (by simp) (by intro k hk; simp at hk) HSAME.out hwf
    clear hE hA' e1 A1 M1 M' h HFB
    go_wp2_with fail
    refine wp_region_held_drew (S := fun w' => w'.cell? ⟨pd, 0, none⟩ = some (.pointer (some ⟨d, 0, none⟩)) ∧ w'.cell? ⟨pn, 0, none⟩ = some (.string s)) (by kernel_rfl) ⟨hd2, hn2⟩ (fun hHeld => ?_)
    refine wpAnyH_take (i := 0) (v := .pointer (some ⟨d, 0, none⟩)) rfl (by kernel_rfl) (by kernel_rfl) (by kernel_rfl) (fun _ _ _ h => h) (Or.inl ⟨by rfl, ?yq17⟩) (by assumption) ?rq17
    case yq17 => (intro w hSw; obtain ⟨s1, s2⟩ := hSw; go_simp)
    simp only [Act.put]
    refine wpAnyH_take (i := 1) (v := .pointer (some ⟨d, 0, none⟩)) rfl (by kernel_rfl) (by kernel_rfl) (by kernel_rfl) (fun _ _ _ h => h) (Or.inl ⟨by rfl, ?yq18⟩) (by assumption) ?rq18
    case yq18 => (intro w hSw; obtain ⟨s1, s2⟩ := hSw; go_simp)
    simp only [Act.put]
    refine wpAnyH_take (i := 2) (v := .pointer (some ⟨d, 2, none⟩)) rfl (by kernel_rfl) (by kernel_rfl) (by kernel_rfl) (fun _ _ _ h => h) (Or.inl ⟨by rfl, ?yq19⟩) (by assumption) ?rq19
    case yq19 => (intro w hSw; obtain ⟨s1, s2⟩ := hSw; go_simp)
    simp only [Act.put]
    refine wpAnyH_take (i := 4) (v := .string s) rfl (by kernel_rfl) (by kernel_rfl) (by kernel_rfl) (fun _ _ _ h => h) (Or.inl ⟨by rfl, ?yq20⟩) (by assumption) ?rq20
    case yq20 => (intro w hSw; obtain ⟨s1, s2⟩ := hSw; go_simp)
    simp only [Act.put]
    refine wpAnyH_ready (rs := [3]) (by kernel_rfl) (by simp) (AllReadyH.cons rfl (fun K hK => ?_) AllReadyH.nil)
    go_simp
    refine hK.out _ _ ⟨hd2, hn2⟩ (fun hHeld => ?_)
    clear hK K
    refine wpAnyH_ready (rs := [5]) (by kernel_rfl) (by simp) (AllReadyH.cons rfl (fun K hK => ?_) AllReadyH.nil)
    refine step_delete_run rfl _ _ _ _ rfl _ _ _ rfl rfl hrun ?_
    refine hK.out _ _ ⟨e'.cell hd2 (hbx _ hpd), e'.cell hn2 (hbx _ hpn)⟩ (fun hHeld => ?_)
    clear hK K
    refine wpAnyH_done (by kernel_rfl) ?_ _
    go_wp2_with fail
    go_end0
    exact ⟨rfl, HL.out⟩
end Go.Proofs.Ytnppneilbkmnfaa
