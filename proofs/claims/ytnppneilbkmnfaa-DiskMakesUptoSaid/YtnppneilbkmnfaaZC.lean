/- Contracts: the closures of the disk's Sync and Remove. Conditions: the disk stands, the boxes lie elsewhere; the file is there. | The contract of the closure of the disk's Append. Conditions: the disk stands, the boxes and the bytes lie elsewhere; what is laid down fits. | Contracts of the disk's methods Append, Sync, Replace, Cut, Remove. Conditions: the disk stands; what is handed in lies elsewhere and fits. | Contracts of the disk's methods Sync, Replace, Cut, Remove. Conditions: the disk stands; what is handed in lies elsewhere and fits. | Contracts of the disk's methods Cut, Remove, Read, Size. Conditions: the disk stands; names fit into memory. -/
import Derived.Test.YtnppneilbkmnfaaZB
namespace Go.Proofs.Ytnppneilbkmnfaa
open Go.RowKit

/-- a builtin's run as a step of a drawn region -/
theorem step_delete_run {P : Program} {ops : Array Oper} {o : Oper} {a : Act} {w w' : World} {K : Act → World → Prop} {Q : Exit → Act → World → Prop} {E : Prop} (hg : o.guard = none) (m x : Operand) (t k : TypeId)
    (hop : o.op = .call { callee := .builtin .delete, args := #[m, x], argTypes := #[t, k] }) (vm vx v : Value) (hm : a.eval m = vm) (hx : a.eval x = vx) (hrun : (Builtin.delete_ #[t, k] o.type #[vm, vx]).run P w = .ok v w')
    (hK : K (a.put o.dst v) w') : if Region.wanted o (yielded ops a.tmps) = true then Oper.wp P o a w K Q else E := by
  have hw : Region.wanted o (yielded ops a.tmps) = true := by simp [Region.wanted, hg]
  rw [if_pos hw]
  unfold Oper.wp
  simp [execOp, hop, resolve, invoke, builtin, hm, hx, hrun, Result.andThen]
  exact hK
theorem step_append_run {P : Program} {ops : Array Oper} {o : Oper} {a : Act} {w w' : World} {K : Act → World → Prop} {Q : Exit → Act → World → Prop} {E : Prop} (hg : o.guard = none) (m x : Operand) (t k : TypeId)
    (hop : o.op = .call { callee := .builtin .append, args := #[m, x], argTypes := #[t, k] }) (vm vx v : Value) (hm : a.eval m = vm) (hx : a.eval x = vx) (hrun : (Builtin.append_ #[t, k] o.type #[vm, vx]).run P w = .ok v w')
    (hK : K (a.put o.dst v) w') : if Region.wanted o (yielded ops a.tmps) = true then Oper.wp P o a w K Q else E := by
  have hw : Region.wanted o (yielded ops a.tmps) = true := by simp [Region.wanted, hg]
  rw [if_pos hw]
  unfold Oper.wp
  simp [execOp, hop, resolve, invoke, builtin, hm, hx, hrun, Result.andThen]
  exact hK

set_option maxRecDepth 20000 in
set_option maxHeartbeats 1000000 in
theorem sync_do (w : World) (d mb : Nat) (av : Value) (fbs : List FB) (D : Dk) (h : DAt w d mb av fbs D) (pf : Nat) (s : Nm) (x : FB) (hf : findK FB.nm s fbs = some x) (hb : Bx w pf (.pointer (some ⟨x.blk, 0, none⟩))) (hpf : pf ∉ dbl d mb av fbs) :
    Calls Try.prog 94 #[.pointer (some ⟨pf, 0, none⟩)] w (Did w d mb av fbs (D.put ⟨s, x.f.b, x.f.b.length⟩)) := by
  obtain ⟨A, B, hfb, hxn, hfd, hx, hdel, hput⟩ := h.at hf
  obtain ⟨ao, cap, hv, hcap, hcm⟩ := hx.2.shape
  have f0 := hx.1.cell 0 rfl
  have f1 := hx.1.cell 1 rfl
  have z1 := hx.1.frozen 1
  rw [hv] at f0
  have hb' : w.cell? ⟨pf, 0, none⟩ = some (.pointer (some ⟨x.blk, 0, none⟩)) := hb
  have hpx : pf ≠ x.blk := fun e => hpf (by
    subst hfb
    simp only [dbl, List.flatMap_append, List.mem_cons, List.mem_append]
    exact .inr (.inr (.inr (.inl (.inr (by rw [e]; simp [FB.bl]))))))
  have hmem := (findK_some _ hfd).1
  have hus := (Dk.used_put h.wf ⟨s, x.f.b, x.f.b.length⟩).1
  have hsz : D.size s = x.f.b.length := Dk.size_some hfd
  have hul : D.used ≤ D.lim := h.wf.used
  have hwf : (D.put ⟨s, x.f.b, x.f.b.length⟩).Wf := Dk.put_wf h.wf _ (Nat.le_refl _) (by show nmOk s = true; rw [← hxn]; exact h.wf.names _ hmem) (by show D.used + x.f.b.length ≤ D.lim + D.size s; omega) (.inl (by show (D.find s).isSome = true; rw [hfd]; rfl))
  have hused : (D.put ⟨s, x.f.b, x.f.b.length⟩).used = D.used := by
    have hus : _ + D.size s = D.used + x.f.b.length := hus
    omega
  have hsame : (A ++ [(⟨⟨s, x.f.b, x.f.b.length⟩, x.blk, x.v⟩ : FB)] ++ B).map FB.f = (D.put ⟨s, x.f.b, x.f.b.length⟩).fs := by rw [hput _ rfl]; simp
  have hmapeq : mapD (A ++ [(⟨⟨s, x.f.b, x.f.b.length⟩, x.blk, x.v⟩ : FB)] ++ B) = mapD fbs := by rw [hfb]; simp [mapD, ent, hxn]
  have hlen : (A ++ [(⟨⟨s, x.f.b, x.f.b.length⟩, x.blk, x.v⟩ : FB)] ++ B).length = fbs.length := by rw [hfb]; simp
  have hend : ∀ w', w' = w.drew.setCell ⟨x.blk, 1, none⟩ (.int .i64 x.f.b.length) → ∃ fbs', DAt w' d mb av fbs' (D.put ⟨s, x.f.b, x.f.b.length⟩) ∧ Step (· ∈ dbl d mb av fbs) w (· ∈ dbl d mb av fbs') w' := by
    intro w' hw'
    subst hw'
    have e : Ext (One x.blk) w (w.drew.setCell ⟨x.blk, 1, none⟩ (.int .i64 x.f.b.length)) := ((Ext.refl (One x.blk) w).drew).setCell (p := ⟨x.blk, 1, none⟩) (fun _ => (rfl : x.blk = x.blk)) _
    have hp := h.part.2.2.2 x (by rw [hfb]; simp)
    have hbk := hp x.blk (List.mem_cons_self ..)
    have hxx : ¬ inFoot x.v x.blk := fun e => by
      have hnd := h.nodup
      subst hfb
      simp only [dbl, List.flatMap_append, List.nodup_cons, List.nodup_append, List.mem_append, List.mem_cons, List.flatMap_cons, List.flatMap_nil, List.append_nil, FB.bl] at hnd
      exact hnd.2.2.2.1.1.2.1.1 (mem_footL.2 e)
    refine ⟨A ++ [⟨⟨s, x.f.b, x.f.b.length⟩, x.blk, x.v⟩] ++ B, ?_⟩
    subst hfb
    refine h.change (D' := D.put ⟨s, x.f.b, x.f.b.length⟩) (e.mono fun k _ hk => .inr (.inr (by have hk : k = x.blk := hk; rw [hk]; simp [FB.bl]))) ?_ ?_ rfl ?_ ?_ ?_ hsame hwf
    · rw [hused]
      exact h.cells.ext e fun e => hbk.1 e.symm
    · have hm := h.map.ext e fun e => hbk.2.1 e.symm
      unfold MapAt at hm ⊢
      rw [hmapeq, hlen]
      exact hm
    · intro y hy
      rw [List.mem_singleton] at hy
      subst hy
      refine ⟨hx.1.drew.set 1 (.int .i64 x.f.b.length), hx.2.ext e fun k hk ek => hxx (by have ek : k = x.blk := ek; rwa [ek] at hk)⟩
    · have := h.nodup
      simp only [List.flatMap_cons, List.flatMap_nil, List.append_nil, FB.bl, List.nodup_cons]
      exact ⟨fun e => hxx (mem_footL.1 e), footL_nodup _⟩
    · intro k hk
      exact .inl (by simpa [FB.bl] using hk)
  have HEND := Lib.hid hend
  clear hend hsame hmapeq hlen hused hwf hus hsz hput hdel hfd hmem h hx hv hxn hfb hf hul
  generalize x.f.b = b at *
  go_enter Try.func94, Try.ntmps94
  go_wp2_with fail
  refine wp_region_held_drew (S := fun w' => w'.cell? ⟨pf, 0, none⟩ = some (.pointer (some ⟨x.blk, 0, none⟩)) ∧ w'.cell? ⟨x.blk, 0, none⟩ = some (.slice ao b.length cap)) (by kernel_rfl) ⟨hb', f0⟩ (fun hHeld => ?_)
  refine wpAnyH_take (i := 0) (v := .pointer (some ⟨x.blk, 0, none⟩)) rfl (by kernel_rfl) (by kernel_rfl) (by kernel_rfl) (fun _ _ _ h => h) (Or.inl ⟨by rfl, ?y1⟩) (by assumption) ?r1
  case y1 => (intro w hSw; obtain ⟨s1, s2⟩ := hSw; go_simp)
  simp only [Act.put]
  refine wpAnyH_take (i := 1) (v := .pointer (some ⟨x.blk, 0, none⟩)) rfl (by kernel_rfl) (by kernel_rfl) (by kernel_rfl) (fun _ _ _ h => h) (Or.inl ⟨by rfl, ?y2⟩) (by assumption) ?r2
  case y2 => (intro w hSw; obtain ⟨s1, s2⟩ := hSw; go_simp)
  simp only [Act.put]
  refine wpAnyH_take (i := 2) (v := .pointer (some ⟨x.blk, 0, none⟩)) rfl (by kernel_rfl) (by kernel_rfl) (by kernel_rfl) (fun _ _ _ h => h) (Or.inl ⟨by rfl, ?y3⟩) (by assumption) ?r3
  case y3 => (intro w hSw; obtain ⟨s1, s2⟩ := hSw; go_simp)
  simp only [Act.put]
  refine wpAnyH_take (i := 3) (v := .pointer (some ⟨x.blk, 0, none⟩)) rfl (by kernel_rfl) (by kernel_rfl) (by kernel_rfl) (fun _ _ _ h => h) (Or.inl ⟨by rfl, ?y4⟩) (by assumption) ?r4
  case y4 => (intro w hSw; obtain ⟨s1, s2⟩ := hSw; go_simp)
  simp only [Act.put]
  refine wpAnyH_take (i := 4) (v := .slice ao b.length cap) rfl (by kernel_rfl) (by kernel_rfl) (by kernel_rfl) (fun _ _ _ h => h) (Or.inl ⟨by rfl, ?y5⟩) (by assumption) ?r5
  case y5 => (intro w hSw; obtain ⟨s1, s2⟩ := hSw; go_simp)
  simp only [Act.put]
  refine wpAnyH_take (i := 5) (v := .int .i64 b.length) rfl (by kernel_rfl) (by kernel_rfl) (by kernel_rfl) (fun _ _ _ h => h) (Or.inl ⟨by rfl, ?y6⟩) (by assumption) ?r6
  case y6 => (intro w hSw; obtain ⟨s1, s2⟩ := hSw; go_simp)
  simp only [Act.put]
  refine wpAnyH_take (i := 6) (v := .pointer (some ⟨x.blk, 0, none⟩)) rfl (by kernel_rfl) (by kernel_rfl) (by kernel_rfl) (fun _ _ _ h => h) (Or.inl ⟨by rfl, ?y7⟩) (by assumption) ?r7
  case y7 => (intro w hSw; obtain ⟨s1, s2⟩ := hSw; go_simp)
  simp only [Act.put]
  refine wpAnyH_take (i := 7) (v := .pointer (some ⟨x.blk, 1, none⟩)) rfl (by kernel_rfl) (by kernel_rfl) (by kernel_rfl) (fun _ _ _ h => h) (Or.inl ⟨by rfl, ?y8⟩) (by assumption) ?r8
  case y8 => (intro w hSw; obtain ⟨s1, s2⟩ := hSw; go_simp)
  simp only [Act.put]
  refine wpAnyH_ready (rs := [8]) (by kernel_rfl) (by simp) (AllReadyH.cons rfl (fun K hK => ?_) AllReadyH.nil)
  go_simp
  refine hK.out _ _ ⟨(World.cell?_setCell_other _ _ _ _ (by simp)).trans hb', (World.cell?_setCell_other _ _ _ _ (by simp)).trans f0⟩ (fun hHeld => ?_)
  clear hK K
  refine wpAnyH_done (by kernel_rfl) ?_ _
  go_wp2_with fail
  go_end0
  exact ⟨rfl, HEND.out _ rfl⟩

set_option maxRecDepth 20000 in
set_option maxHeartbeats 1000000 in
theorem remove_do (w : World) (d mb : Nat) (av : Value) (fbs : List FB) (D : Dk) (h : DAt w d mb av fbs D) (pd pn : Nat) (s : ByteArray) (hs : s.size ≤ maxLen) (x : FB) (hf : findK FB.nm s.data.toList fbs = some x) (hd : Bx w pd (.pointer (some ⟨d, 0, none⟩))) (hn : Bx w pn (.string s))
    (hpd : pd ∉ dbl d mb av fbs) (hpn : pn ∉ dbl d mb av fbs) :
    Calls Try.prog 96 #[.pointer (some ⟨pd, 0, none⟩), .pointer (some ⟨pn, 0, none⟩)] w (Did w d mb av fbs (D.del s.data.toList)) := by
  obtain ⟨A, B, hfb, hxn, hfd, hx, hdel, hput⟩ := h.at hf
  have c1 := h.cells.cell 1 rfl
  have f1 := h.cells.frozen 1
  have hp := h.part
  have hd' : w.cell? ⟨pd, 0, none⟩ = some (.pointer (some ⟨d, 0, none⟩)) := hd
  have hn' : w.cell? ⟨pn, 0, none⟩ = some (.string s) := hn
  have hdne : pd ≠ d := fun e => hpd (by rw [e]; simp [dbl])
  have hnne : pn ≠ d := fun e => hpn (by rw [e]; simp [dbl])
  have hus := Dk.used_del h.wf s.data.toList
  have hul := h.wf.used
  have hl1 := h.wf.lim1
  have hwf := Dk.del_wf h.wf s.data.toList
  have hsame : (A ++ [] ++ B).map FB.f = (D.del s.data.toList).fs := by
    show _ = delK FileM.nm s.data.toList D.fs
    rw [← h.same, ← delK_map FB.nm FileM.nm FB.f (fun _ => rfl), hdel]
    simp
  generalize hS : D.size s.data.toList = S at *
  generalize hU : (D.del s.data.toList).used = U at *
  have hul' : D.used ≤ D.lim := hul
  generalize hV : D.used = V at *
  have hw1 : IntKind.i64.wrap ((V : Int) - S) = (U : Int) := by rw [IntWalk.i64_in _ (by omega)]; omega
  have HS := Lib.hid hS; have HU := Lib.hid hU; have HV := Lib.hid hV; have HUS := Lib.hid hus
  clear hS hU hV hus
  have HSAME := Lib.hid hsame; have HDEL := Lib.hid hdel; have HFB := Lib.hid hfb
  clear hsame hdel hfb hput hxn hfd hf
  go_enter Try.func96, Try.ntmps96
  go_wp2_with fail
  refine wp_region_held_drew (S := fun w' => w'.cell? ⟨pd, 0, none⟩ = some (.pointer (some ⟨d, 0, none⟩)) ∧ w'.cell? ⟨pn, 0, none⟩ = some (.string s)) (by kernel_rfl) ⟨hd', hn'⟩ (fun hHeld => ?_)
  refine wpAnyH_take (i := 0) (v := .pointer (some ⟨d, 0, none⟩)) rfl (by kernel_rfl) (by kernel_rfl) (by kernel_rfl) (fun _ _ _ h => h) (Or.inl ⟨by rfl, ?y9⟩) (by assumption) ?r9
  case y9 => (intro w hSw; obtain ⟨s1, s2⟩ := hSw; go_simp)
  simp only [Act.put]
  refine wpAnyH_take (i := 1) (v := .pointer (some ⟨d, 0, none⟩)) rfl (by kernel_rfl) (by kernel_rfl) (by kernel_rfl) (fun _ _ _ h => h) (Or.inl ⟨by rfl, ?y10⟩) (by assumption) ?r10
  case y10 => (intro w hSw; obtain ⟨s1, s2⟩ := hSw; go_simp)
  simp only [Act.put]
  refine wpAnyH_take (i := 2) (v := .pointer (some ⟨d, 1, none⟩)) rfl (by kernel_rfl) (by kernel_rfl) (by kernel_rfl) (fun _ _ _ h => h) (Or.inl ⟨by rfl, ?y11⟩) (by assumption) ?r11
  case y11 => (intro w hSw; obtain ⟨s1, s2⟩ := hSw; go_simp)
  simp only [Act.put]
  refine wpAnyH_take (i := 4) (v := .pointer (some ⟨d, 0, none⟩)) rfl (by kernel_rfl) (by kernel_rfl) (by kernel_rfl) (fun _ _ _ h => h) (Or.inl ⟨by rfl, ?y12⟩) (by assumption) ?r12
  case y12 => (intro w hSw; obtain ⟨s1, s2⟩ := hSw; go_simp)
  simp only [Act.put]
  refine wpAnyH_take (i := 5) (v := .string s) rfl (by kernel_rfl) (by kernel_rfl) (by kernel_rfl) (fun _ _ _ h => h) (Or.inl ⟨by rfl, ?y13⟩) (by assumption) ?r13
  case y13 => (intro w hSw; obtain ⟨s1, s2⟩ := hSw; go_simp)
  simp only [Act.put]
  refine wpAnyH_ready (rs := [3, 6]) (by kernel_rfl) (by simp) (AllReadyH.cons rfl (fun K hK => ?o3) (AllReadyH.cons rfl (fun K hK => ?o6) AllReadyH.nil))
  case o3 =>
    go_simp
    refine hK.out _ _ ⟨hd', hn'⟩ (fun hHeld => ?_)
    clear hK K
    refine wpAnyH_ready (rs := [6]) (by kernel_rfl) (by simp) (AllReadyH.cons rfl (fun K hK => ?_) AllReadyH.nil)
    go_simp
    refine (size_q _ d mb av fbs D h.drew s hs S HS).mono ?_
    rintro e w' ⟨rfl, rfl⟩
    go_wp2_with fail
    refine hK.out _ _ ⟨hd', hn'⟩ (fun hHeld => ?_)
    clear hK K
    refine wpAnyH_take (i := 7) (v := .int .i64 U) rfl (by kernel_rfl) (by kernel_rfl) (by kernel_rfl) (fun _ _ _ h => h) (Or.inl ⟨by rfl, ?y14⟩) (by assumption) ?r14
    case y14 => (intro w hSw; obtain ⟨s1, s2⟩ := hSw; go_simp)
    simp only [Act.put]
    refine wpAnyH_take (i := 8) (v := .pointer (some ⟨d, 0, none⟩)) rfl (by kernel_rfl) (by kernel_rfl) (by kernel_rfl) (fun _ _ _ h => h) (Or.inl ⟨by rfl, ?y15⟩) (by assumption) ?r15
    case y15 => (intro w hSw; obtain ⟨s1, s2⟩ := hSw; go_simp)
    simp only [Act.put]
    refine wpAnyH_take (i := 9) (v := .pointer (some ⟨d, 1, none⟩)) rfl (by kernel_rfl) (by kernel_rfl) (by kernel_rfl) (fun _ _ _ h => h) (Or.inl ⟨by rfl, ?y16⟩) (by assumption) ?r16
    case y16 => (intro w hSw; obtain ⟨s1, s2⟩ := hSw; go_simp)
    simp only [Act.put]
    refine wpAnyH_ready (rs := [10]) (by kernel_rfl) (by simp) (AllReadyH.cons rfl (fun K hK => ?_) AllReadyH.nil)
    go_simp
    refine hK.out _ _ ⟨(World.cell?_setCell_other _ _ _ _ (by simp)).trans hd', (World.cell?_setCell_other _ _ _ _ (by simp)).trans hn'⟩ (fun hHeld => ?_)
    clear hK K
    refine wpAnyH_done (by kernel_rfl) ?_ _
    have e1 : Ext (One d) w (w.setCell ⟨d, 1, none⟩ (.int .i64 U)).drew := ((Ext.refl (One d) w).setCell (p := ⟨d, 1, none⟩) (fun _ => (rfl : d = d)) _).drew
    have A1 : At (w.setCell ⟨d, 1, none⟩ (.int .i64 U)).drew d 57 _ := h.cells.set 1 (.int .i64 U)
    have hd2 := e1.cell hd' hdne
    have hn2 := e1.cell hn' hnne
    generalize (w.setCell ⟨d, 1, none⟩ (.int .i64 U)).drew = X at *
    have M1 := h.map.ext e1 (fun e => hp.1 (by have e : mb = d := e; exact e.symm))
    have C2 := A1.cell 2 rfl
    obtain ⟨w', hrun, M', e'⟩ := MapAt.del (w := X.drew) M1 s hs 0
    have hbx : ∀ k, k ∉ dbl d mb av fbs → ¬ One mb k := fun k hk e => hk (by have e : k = mb := e; rw [e]; simp [dbl])
    have hE : Ext (fun k => k = d ∨ k = mb) w w' := (e1.drew.mono fun i _ e => .inl e).trans e' fun i _ e => .inr e
    have hA' := (A1.drew).ext e' fun e => hp.1 e
    rw [HDEL.out] at M'
    have HL : Hid (∃ fbs', DAt w' d mb av fbs' (D.del s.data.toList) ∧ Step (· ∈ dbl d mb av fbs) w (· ∈ dbl d mb av fbs') w') := by
      refine Lib.hid ⟨A ++ [] ++ B, ?_⟩
      have h1 := h
      rw [HFB.out] at h1 ⊢
      exact h1.change (D' := D.del s.data.toList) (hE.mono fun k _ hk => hk.imp id .inl) (by rw [HU.out]; exact hA') (by simpa using M') rfl (by intro y hy; cases hy) (by simp) (by intro k hk; simp at hk) HSAME.out hwf
    clear hE hA' e1 A1 M1 M' h HFB
    go_wp2_with fail
    refine wp_region_held_drew (S := fun w' => w'.cell? ⟨pd, 0, none⟩ = some (.pointer (some ⟨d, 0, none⟩)) ∧ w'.cell? ⟨pn, 0, none⟩ = some (.string s)) (by kernel_rfl) ⟨hd2, hn2⟩ (fun hHeld => ?_)
    refine wpAnyH_take (i := 0) (v := .pointer (some ⟨d, 0, none⟩)) rfl (by kernel_rfl) (by kernel_rfl) (by kernel_rfl) (fun _ _ _ h => h) (Or.inl ⟨by rfl, ?y17⟩) (by assumption) ?r17
    case y17 => (intro w hSw; obtain ⟨s1, s2⟩ := hSw; go_simp)
    simp only [Act.put]
    refine wpAnyH_take (i := 1) (v := .pointer (some ⟨d, 0, none⟩)) rfl (by kernel_rfl) (by kernel_rfl) (by kernel_rfl) (fun _ _ _ h => h) (Or.inl ⟨by rfl, ?y18⟩) (by assumption) ?r18
    case y18 => (intro w hSw; obtain ⟨s1, s2⟩ := hSw; go_simp)
    simp only [Act.put]
    refine wpAnyH_take (i := 2) (v := .pointer (some ⟨d, 2, none⟩)) rfl (by kernel_rfl) (by kernel_rfl) (by kernel_rfl) (fun _ _ _ h => h) (Or.inl ⟨by rfl, ?y19⟩) (by assumption) ?r19
    case y19 => (intro w hSw; obtain ⟨s1, s2⟩ := hSw; go_simp)
    simp only [Act.put]
    refine wpAnyH_take (i := 4) (v := .string s) rfl (by kernel_rfl) (by kernel_rfl) (by kernel_rfl) (fun _ _ _ h => h) (Or.inl ⟨by rfl, ?y20⟩) (by assumption) ?r20
    case y20 => (intro w hSw; obtain ⟨s1, s2⟩ := hSw; go_simp)
    simp only [Act.put]
    refine wpAnyH_ready (rs := [3]) (by kernel_rfl) (by simp) (AllReadyH.cons rfl (fun K hK => ?_) AllReadyH.nil)
    go_simp
    refine hK.out _ _ ⟨hd2, hn2⟩ (fun hHeld => ?_)
    clear hK K
    refine wpAnyH_ready (rs := [5]) (by kernel_rfl) (by simp) (AllReadyH.cons rfl (fun K hK => ?_) AllReadyH.nil)
    refine step_delete_run rfl _ _ _ _ rfl _ _ _ rfl rfl hrun ?_
    refine hK.out _ _ ⟨e'.cell hd2 (hbx _ hpd), e'.cell hn2 (hbx _ hpn)⟩ (fun hHeld => ?_)
    clear hK K
    refine wpAnyH_done (by kernel_rfl) ?_ _
    go_wp2_with fail
    go_end0
    exact ⟨rfl, HL.out⟩
  case o6 =>
    go_simp
    refine (size_q _ d mb av fbs D h.drew s hs S HS).mono ?_
    rintro e w' ⟨rfl, rfl⟩
    go_wp2_with fail
    refine hK.out _ _ ⟨hd', hn'⟩ (fun hHeld => ?_)
    clear hK K
    refine wpAnyH_ready (rs := [3]) (by kernel_rfl) (by simp) (AllReadyH.cons rfl (fun K hK => ?_) AllReadyH.nil)
    go_simp
    refine hK.out _ _ ⟨hd', hn'⟩ (fun hHeld => ?_)
    clear hK K
    refine wpAnyH_take (i := 7) (v := .int .i64 U) rfl (by kernel_rfl) (by kernel_rfl) (by kernel_rfl) (fun _ _ _ h => h) (Or.inl ⟨by rfl, ?yq14⟩) (by assumption) ?rq14
    case yq14 => (intro w hSw; obtain ⟨s1, s2⟩ := hSw; go_simp)
    simp only [Act.put]
    refine wpAnyH_take (i := 8) (v := .pointer (some ⟨d, 0, none⟩)) rfl (by kernel_rfl) (by kernel_rfl) (by kernel_rfl) (fun _ _ _ h => h) (Or.inl ⟨by rfl, ?yq15⟩) (by assumption) ?rq15
    case yq15 => (intro w hSw; obtain ⟨s1, s2⟩ := hSw; go_simp)
    simp only [Act.put]
    refine wpAnyH_take (i := 9) (v := .pointer (some ⟨d, 1, none⟩)) rfl (by kernel_rfl) (by kernel_rfl) (by kernel_rfl) (fun _ _ _ h => h) (Or.inl ⟨by rfl, ?yq16⟩) (by assumption) ?rq16
    case yq16 => (intro w hSw; obtain ⟨s1, s2⟩ := hSw; go_simp)
    simp only [Act.put]
    refine wpAnyH_ready (rs := [10]) (by kernel_rfl) (by simp) (AllReadyH.cons rfl (fun K hK => ?_) AllReadyH.nil)
    go_simp
    refine hK.out _ _ ⟨(World.cell?_setCell_other _ _ _ _ (by simp)).trans hd', (World.cell?_setCell_other _ _ _ _ (by simp)).trans hn'⟩ (fun hHeld => ?_)
    clear hK K
    refine wpAnyH_done (by kernel_rfl) ?_ _
    have e1 : Ext (One d) w (w.setCell ⟨d, 1, none⟩ (.int .i64 U)).drew := ((Ext.refl (One d) w).setCell (p := ⟨d, 1, none⟩) (fun _ => (rfl : d = d)) _).drew
    have A1 : At (w.setCell ⟨d, 1, none⟩ (.int .i64 U)).drew d 57 _ := h.cells.set 1 (.int .i64 U)
    have hd2 := e1.cell hd' hdne
    have hn2 := e1.cell hn' hnne
    generalize (w.setCell ⟨d, 1, none⟩ (.int .i64 U)).drew = X at *
    have M1 := h.map.ext e1 (fun e => hp.1 (by have e : mb = d := e; exact e.symm))
    have C2 := A1.cell 2 rfl
    obtain ⟨w', hrun, M', e'⟩ := MapAt.del (w := X.drew) M1 s hs 0
    have hbx : ∀ k, k ∉ dbl d mb av fbs → ¬ One mb k := fun k hk e => hk (by have e : k = mb := e; rw [e]; simp [dbl])
    have hE : Ext (fun k => k = d ∨ k = mb) w w' := (e1.drew.mono fun i _ e => .inl e).trans e' fun i _ e => .inr e
    have hA' := (A1.drew).ext e' fun e => hp.1 e
    rw [HDEL.out] at M'
    have HL : Hid (∃ fbs', DAt w' d mb av fbs' (D.del s.data.toList) ∧ Step (· ∈ dbl d mb av fbs) w (· ∈ dbl d mb av fbs') w') := by
      refine Lib.hid ⟨A ++ [] ++ B, ?_⟩
      have h1 := h
      rw [HFB.out] at h1 ⊢
      exact h1.change (D' := D.del s.data.toList) (hE.mono fun k _ hk => hk.imp id .inl) (by rw [HU.out]; exact hA') (by simpa using M') rfl (by intro y hy; cases hy) (by simp) (by intro k hk; simp at hk) HSAME.out hwf
    clear hE hA' e1 A1 M1 M' h HFB
    go_wp2_with fail
    refine wp_region_held_drew (S := fun w' => w'.cell? ⟨pd, 0, none⟩ = some (.pointer (some ⟨d, 0, none⟩)) ∧ w'.cell? ⟨pn, 0, none⟩ = some (.string s)) (by kernel_rfl) ⟨hd2, hn2⟩ (fun hHeld => ?_)
    refine wpAnyH_take (i := 0) (v := .pointer (some ⟨d, 0, none⟩)) rfl (by kernel_rfl) (by kernel_rfl) (by kernel_rfl) (fun _ _ _ h => h) (Or.inl ⟨by rfl, ?yq17⟩) (by assumption) ?rq17
    case yq17 => (intro w hSw; obtain ⟨s1, s2⟩ := hSw; go_simp)
    simp only [Act.put]
    refine wpAnyH_take (i := 1) (v := .pointer (some ⟨d, 0, none⟩)) rfl (by kernel_rfl) (by kernel_rfl) (by kernel_rfl) (fun _ _ _ h => h) (Or.inl ⟨by rfl, ?yq18⟩) (by assumption) ?rq18
    case yq18 => (intro w hSw; obtain ⟨s1, s2⟩ := hSw; go_simp)
    simp only [Act.put]
    refine wpAnyH_take (i := 2) (v := .pointer (some ⟨d, 2, none⟩)) rfl (by kernel_rfl) (by kernel_rfl) (by kernel_rfl) (fun _ _ _ h => h) (Or.inl ⟨by rfl, ?yq19⟩) (by assumption) ?rq19
    case yq19 => (intro w hSw; obtain ⟨s1, s2⟩ := hSw; go_simp)
    simp only [Act.put]
    refine wpAnyH_take (i := 4) (v := .string s) rfl (by kernel_rfl) (by kernel_rfl) (by kernel_rfl) (fun _ _ _ h => h) (Or.inl ⟨by rfl, ?yq20⟩) (by assumption) ?rq20
    case yq20 => (intro w hSw; obtain ⟨s1, s2⟩ := hSw; go_simp)
    simp only [Act.put]
    refine wpAnyH_ready (rs := [3]) (by kernel_rfl) (by simp) (AllReadyH.cons rfl (fun K hK => ?_) AllReadyH.nil)
    go_simp
    refine hK.out _ _ ⟨hd2, hn2⟩ (fun hHeld => ?_)
    clear hK K
    refine wpAnyH_ready (rs := [5]) (by kernel_rfl) (by simp) (AllReadyH.cons rfl (fun K hK => ?_) AllReadyH.nil)
    refine step_delete_run rfl _ _ _ _ rfl _ _ _ rfl rfl hrun ?_
    refine hK.out _ _ ⟨e'.cell hd2 (hbx _ hpd), e'.cell hn2 (hbx _ hpn)⟩ (fun hHeld => ?_)
    clear hK K
    refine wpAnyH_done (by kernel_rfl) ?_ _
    go_wp2_with fail
    go_end0
    exact ⟨rfl, HL.out⟩
end Go.Proofs.Ytnppneilbkmnfaa
namespace Go.Proofs.Ytnppneilbkmnfaa
open Go.RowKit

/-- append of bytes onto a row of bytes, as a run -/
theorem run_appendB {w : World} {v : Value} {l m : List UInt8} (hown : OwnB w v l) {vx : Value} (hm : Bytes w vx m) (hfit : Fits (l.length + m.length)) (ty : TypeId) :
    ∃ ao cap w', (Builtin.append_ #[31, 31] ty #[v, vx]).run Try.prog w = .ok (.slice ao (l.length + m.length) cap) w' ∧ l.length + m.length ≤ cap ∧ cap ≤ maxLen ∧ OwnB w' (.slice ao (l.length + m.length) cap) (l ++ m) ∧ Step (inFoot v) w (inFoot (.slice ao (l.length + m.length) cap)) w' := by
  obtain ⟨i, hi, hz, h1, h2⟩ := info_parts info_u8
  have hf : l.length + m.length ≤ 1099511627776 := hfit
  obtain ⟨v', w', hr, h3, h4, h5⟩ := run_append (P := Try.prog) w 31 31 ty 5 i (.int .u8 0) 1 1 Try.underlying31 hi hz h1 h2 rfl v l.length (bvs l) hown vx m.length (bvs m) (Reads.src (P := Try.prog) hm Try.underlying31 (bvs_one m))
    (by unfold maxLen; omega) (by omega)
  obtain ⟨ao, cap, rfl, h6, h7⟩ := h3.shape
  refine ⟨ao, cap, w', hr, h6, h7, ?_, h4, h5⟩
  unfold OwnB
  rw [bvs_append, List.length_append]
  exact h3

/-- the two last statements: bytes behind a file's, the sum -/
theorem append_turn {w X w1 : World} {d mb : Nat} {av : Value} {A B X0 : List FB} {D : Dk} (h : DAt w d mb av (A ++ X0 ++ B) D) (s : Nm) (blk : Nat) (v v' : Value) (b0 b : List UInt8) (sy : Nat) (U : Nat) (hU : (D.put ⟨s, b0 ++ b, sy⟩).used = U) (hwf : (D.put ⟨s, b0 ++ b, sy⟩).Wf)
    (e : Ext (fun k => k = d ∨ k = mb ∨ k ∈ X0.flatMap FB.bl) w X) (hA : At X d 57 [.int .i64 D.lim, .int .i64 D.used, .map (some mb), .bool D.off, .bool D.out, .int .i64 D.calls, av]) (hM : MapAt X mb (A ++ [⟨⟨s, b0, sy⟩, blk, v⟩] ++ B)) (hF : At X blk 115 [v, .int .i64 sy])
    (hbv : ¬ inFoot v blk) (hO : OwnB w1 v' (b0 ++ b)) (hS : Step (inFoot v) X (inFoot v') w1) (hkb : blk ∈ X0.flatMap FB.bl ∨ w.heap.size ≤ blk) (hkv : ∀ k, inFoot v k → k ∈ X0.flatMap FB.bl ∨ w.heap.size ≤ k) (hbd : blk ≠ d) (hbm : blk ≠ mb) (hvd : ¬ inFoot v d) (hvm : ¬ inFoot v mb)
    (hsame : (A ++ [(⟨⟨s, b0 ++ b, sy⟩, blk, v'⟩ : FB)] ++ B).map FB.f = (D.put ⟨s, b0 ++ b, sy⟩).fs) :
    ∃ fbs', DAt ((w1.setCell ⟨blk, 0, none⟩ v').setCell ⟨d, 1, none⟩ (.int .i64 U)) d mb av fbs' (D.put ⟨s, b0 ++ b, sy⟩) ∧ Step (· ∈ dbl d mb av (A ++ X0 ++ B)) w (· ∈ dbl d mb av fbs') ((w1.setCell ⟨blk, 0, none⟩ v').setCell ⟨d, 1, none⟩ (.int .i64 U)) := by
  have hFl := hF.lt
  have hAl := hA.lt
  have hMl := World.ownsMap.lt hM
  have hvb' : ¬ inFoot v' blk := fun hk => (hS.2 blk hk).elim hbv fun h => by omega
  have hvd' : ¬ inFoot v' d := fun hk => (hS.2 d hk).elim hvd fun h => by omega
  have hF1 := ((hF.ext hS.1 hbv).set 0 v').setOther ⟨d, 1, none⟩ (.int .i64 U) hbd
  have hA1 := ((hA.ext hS.1 hvd).setOther ⟨blk, 0, none⟩ v' (fun e => hbd e.symm)).set 1 (.int .i64 U)
  have e2 : Ext (fun k => k = blk ∨ k = d) w1 ((w1.setCell ⟨blk, 0, none⟩ v').setCell ⟨d, 1, none⟩ (.int .i64 U)) := ((Ext.refl (fun k => k = blk ∨ k = d) w1).setCell (p := ⟨blk, 0, none⟩) (fun _ => .inl rfl) _).setCell (p := ⟨d, 1, none⟩) (fun _ => .inr rfl) _
  have hM1 := (hM.ext hS.1 hvm).ext e2 (fun e => e.elim (fun e => hbm e.symm) fun e => (by
    have hp := h.part.1
    exact hp e.symm))
  have hO1 := hO.ext e2 fun k hk e => e.elim (fun e => hvb' (by rwa [e] at hk)) fun e => hvd' (by rwa [e] at hk)
  have hE : Ext (fun k => k = d ∨ k = mb ∨ k ∈ X0.flatMap FB.bl) w ((w1.setCell ⟨blk, 0, none⟩ v').setCell ⟨d, 1, none⟩ (.int .i64 U)) :=
    (e.trans hS.1 fun i hi hk => .inr (.inr ((hkv i hk).resolve_right (by omega)))).trans e2 fun i hi hk => hk.elim (fun hk => .inr (.inr ((hkb).elim (fun q => by rw [hk]; exact q) (fun q => by omega)))) .inl
  refine ⟨A ++ [⟨⟨s, b0 ++ b, sy⟩, blk, v'⟩] ++ B, ?_⟩
  refine h.change (D' := D.put ⟨s, b0 ++ b, sy⟩) hE (by rw [hU]; exact hA1) ?_ rfl ?_ ?_ ?_ hsame hwf
  · have e1 : mapD (A ++ [(⟨⟨s, b0 ++ b, sy⟩, blk, v'⟩ : FB)] ++ B) = mapD (A ++ [⟨⟨s, b0, sy⟩, blk, v⟩] ++ B) := by simp [mapD, ent]
    have e2 : (A ++ [(⟨⟨s, b0 ++ b, sy⟩, blk, v'⟩ : FB)] ++ B).length = (A ++ [(⟨⟨s, b0, sy⟩, blk, v⟩ : FB)] ++ B).length := by simp
    unfold MapAt at hM1 ⊢
    rw [e1, e2]
    exact hM1
  · intro y hy
    rw [List.mem_singleton] at hy
    subst hy
    exact ⟨hF1, hO1⟩
  · simp only [List.flatMap_cons, List.flatMap_nil, List.append_nil, FB.bl, List.nodup_cons]
    exact ⟨fun e => hvb' (mem_footL.1 e), footL_nodup _⟩
  · intro k hk
    simp only [List.flatMap_cons, List.flatMap_nil, List.append_nil, FB.bl, List.mem_cons] at hk
    rcases hk with rfl | hk
    · exact hkb
    · rcases hS.2 k (mem_footL.1 hk) with hk | hk
      · exact hkv k hk
      · exact .inr (Nat.le_trans e.size hk)

set_option maxRecDepth 20000 in
set_option maxHeartbeats 2000000 in
theorem append_old (w : World) (d mb : Nat) (av : Value) (fbs : List FB) (D : Dk) (h : DAt w d mb av fbs D) (pd pn pb : Nat) (s : ByteArray) (hs : s.size ≤ maxLen) (x : FB) (hf : findK FB.nm s.data.toList fbs = some x) (axb : Option Addr) (capb : Nat) (b : List UInt8)
    (hd : Bx w pd (.pointer (some ⟨d, 0, none⟩))) (hn : Bx w pn (.string s)) (hb : Bx w pb (.slice axb b.length capb)) (hx : Bytes w (.slice axb b.length capb) b)
    (hpd : pd ∉ dbl d mb av fbs) (hpb : pb ∉ dbl d mb av fbs) (hroom : D.used + b.length ≤ D.lim) :
    Calls Try.prog 61 #[.pointer (some ⟨pd, 0, none⟩), .pointer (some ⟨pn, 0, none⟩), .pointer (some ⟨pb, 0, none⟩)] w (Did w d mb av fbs (D.put ⟨s.data.toList, x.f.b ++ b, x.f.sy⟩)) := by
  obtain ⟨A, B, hfb, hxn, hfd, hxo, hdel, hput⟩ := h.at hf
  have hl := fun q => MapAt.look (h.map.ext ((Ext.refl Nil w).drewN q) fun h => h) s hs
  unfold fileAt at hl
  rw [hf] at hl
  obtain ⟨ao, cap, hv, hcap, hcm⟩ := hxo.2.shape
  have hd' : w.cell? ⟨pd, 0, none⟩ = some (.pointer (some ⟨d, 0, none⟩)) := hd
  have hn' : w.cell? ⟨pn, 0, none⟩ = some (.string s) := hn
  have hb' : w.cell? ⟨pb, 0, none⟩ = some (.slice axb b.length capb) := hb
  have c2 := h.cells.cell 2 rfl
  have hmem := (findK_some _ hfd).1
  have hsz : D.size s.data.toList = x.f.b.length := Dk.size_some hfd
  have hus : _ + D.size s.data.toList = D.used + (x.f.b ++ b).length := (Dk.used_put h.wf ⟨s.data.toList, x.f.b ++ b, x.f.sy⟩).1
  have hsy := h.wf.synced _ hmem
  have hl1 := h.wf.lim1
  have hxl := sumF_mem hmem
  have hul : D.used ≤ D.lim := h.wf.used
  have hul2 : sumF D.fs = D.used := rfl
  have hwf : (D.put ⟨s.data.toList, x.f.b ++ b, x.f.sy⟩).Wf := Dk.put_wf h.wf _ (by show x.f.sy ≤ (x.f.b ++ b).length; rw [List.length_append]; omega) (by show nmOk s.data.toList = true; rw [← hxn]; exact h.wf.names _ hmem)
    (by show D.used + (x.f.b ++ b).length ≤ D.lim + D.size s.data.toList; rw [List.length_append]; omega) (.inl (by show (D.find s.data.toList).isSome = true; rw [hfd]; rfl))
  have hU : (D.put ⟨s.data.toList, x.f.b ++ b, x.f.sy⟩).used = D.used + b.length := by rw [List.length_append] at hus; omega
  have hp := h.part
  have hpx := hp.2.2.2 x (by rw [hfb]; simp)
  have hbk := hpx x.blk (List.mem_cons_self ..)
  have hvk : ∀ k, inFoot x.v k → k ≠ d ∧ k ≠ mb ∧ ¬ inFoot av k := fun k hk => hpx k (List.mem_cons_of_mem _ (mem_footL.2 hk))
  have hmemx : ∀ k, k ∈ x.bl → k ∈ dbl d mb av fbs := fun k hk => by
    rw [hfb]
    simp only [dbl, List.flatMap_append, List.mem_cons, List.mem_append]
    exact .inr (.inr (.inr (.inl (.inr (by simpa using hk)))))
  have hxx : ¬ inFoot x.v x.blk := fun e => by
    have hnd := h.nodup
    rw [hfb] at hnd
    simp only [dbl, List.flatMap_append, List.nodup_cons, List.nodup_append, List.mem_append, List.mem_cons, List.flatMap_cons, List.flatMap_nil, List.append_nil, FB.bl] at hnd
    exact hnd.2.2.2.1.1.2.1.1 (mem_footL.2 e)
  have hfr := hxo.1.frozen 0
  have hw1 : IntKind.i64.wrap ((D.used : Int) + (b.length : Int)) = ((D.used + b.length : Nat) : Int) := by rw [IntWalk.i64_in _ (by omega)]; omega
  have hxe : x = ⟨⟨s.data.toList, x.f.b, x.f.sy⟩, x.blk, x.v⟩ := by
    obtain ⟨⟨xn, xb, xs⟩, xk, xv⟩ := x
    simp only [] at hxn
    subst hxn
    rfl
  have hsame : ∀ v', (A ++ [(⟨⟨s.data.toList, x.f.b ++ b, x.f.sy⟩, x.blk, v'⟩ : FB)] ++ B).map FB.f = (D.put ⟨s.data.toList, x.f.b ++ b, x.f.sy⟩).fs := fun v' => by rw [hput _ rfl]; simp
  have hfit : Fits (x.f.b.length + b.length) := by unfold Fits; omega
  have hbv := hxx; have hkb : x.blk ∈ [x].flatMap FB.bl ∨ w.heap.size ≤ x.blk := .inl (by simp [FB.bl])
  have hkv : ∀ k, inFoot x.v k → k ∈ [x].flatMap FB.bl ∨ w.heap.size ≤ k := fun k hk => .inl (by simp [FB.bl]; exact .inr (mem_footL.2 hk))
  have hbd := hbk.1; have hbm := hbk.2.1; have hvd : ¬ inFoot x.v d := fun e => (hvk d e).1 rfl; have hvm : ¬ inFoot x.v mb := fun e => (hvk mb e).2.1 rfl
  have hvp : ∀ k, inFoot x.v k → k ≠ pd := fun k hk e => hpd (by rw [← e]; exact hmemx k (List.mem_cons_of_mem _ (mem_footL.2 hk)))
  have hvq : ∀ k, inFoot x.v k → k ≠ pb := fun k hk e => hpb (by rw [← e]; exact hmemx k (List.mem_cons_of_mem _ (mem_footL.2 hk)))
  have hbp : x.blk ≠ pd := fun e => hpd (by rw [← e]; exact hmemx _ (List.mem_cons_self ..))
  have hbq : x.blk ≠ pb := fun e => hpb (by rw [← e]; exact hmemx _ (List.mem_cons_self ..))
  have h' := h
  rw [hfb] at h'
  have HFB := Lib.hid hfb; have HXE := Lib.hid hxe
  have HH := Lib.hid h; have HX := Lib.hid hx; have HO := Lib.hid hxo; have HV := Lib.hid hv; have HSM := Lib.hid hsame
  have HU2 := Lib.hid hU; have HL := Lib.hid hl
  clear hfb hxe h hx hxo hv hsame hU hl hf hfd hput hdel hxn hus hsz hmem hmemx hpx hp hvk hxx hbk hul2 hxl
  go_enter Try.func61, Try.ntmps61
  go_wp2_with fail
  have hl0 := HL.out
  go_quiet (fail)
  clear hl0
  go_wp2_with fail
  generalize hXw : w.drewN nq = X at *
  have eW : Ext Nil w X := by rw [← hXw]; exact (Ext.refl Nil w).drewN nq
  clear hXw
  have eX := eW.mono (G := fun k => k = d ∨ k = mb ∨ k ∈ [x].flatMap FB.bl) fun _ _ h => h.elim
  have AX := HH.out.cells.ext eW fun h => h
  have MX : MapAt X mb (A ++ [⟨⟨s.data.toList, x.f.b, x.f.sy⟩, x.blk, x.v⟩] ++ B) := by
    have := HH.out.map.ext eW fun h => h
    rw [HFB.out, HXE.out] at this
    exact this
  have FX := HO.out.1.ext eW fun h => h
  have OX := HO.out.2.ext eW fun _ _ h => h
  have BX := HX.out.ext eW fun _ _ h => h
  have BXd := eW.cell hd' fun h => h
  have BXb := eW.cell hb' fun h => h
  have hU := HU2.out
  have hsame := fun v' => HSM.out v'
  obtain ⟨ao2, cap2, w1, hrun, q1, q2, O1, S1⟩ := run_appendB (w := X.drew) OX BX hfit 31
  have S1 : Step (inFoot x.v) X _ w1 := ⟨(Ext.refl _ X).drew.same S1.1, S1.2⟩
  have FX0 := FX.cell 0 rfl
  have F1 := FX.ext S1.1 hbv
  have F10 := F1.cell 0 rfl
  have z10 := F1.frozen 0
  have hnd : ¬ inFoot x.v pd := fun e => hvp pd e rfl
  have hnb : ¬ inFoot x.v pb := fun e => hvq pb e rfl
  have hYd := (World.cell?_setCell_other w1 ⟨x.blk, 0, none⟩ ⟨pd, 0, none⟩ (.slice ao2 (x.f.b.length + b.length) cap2) (by intro e; simp only [Addr.mk.injEq, and_true] at e; exact hbp e)).trans (S1.1.cell BXd hnd)
  have hYb := (World.cell?_setCell_other w1 ⟨x.blk, 0, none⟩ ⟨pb, 0, none⟩ (.slice ao2 (x.f.b.length + b.length) cap2) (by intro e; simp only [Addr.mk.injEq, and_true] at e; exact hbq e)).trans (S1.1.cell BXb hnb)
  have AY := ((AX.ext S1.1 hvd).setOther ⟨x.blk, 0, none⟩ (.slice ao2 (x.f.b.length + b.length) cap2) (fun e => hbd e.symm))
  have y1 := AY.cell 1 rfl
  have zy1 := AY.frozen 1
  obtain ⟨fbs', HL1, HL2⟩ := append_turn (X0 := [x]) h' s.data.toList x.blk x.v _ x.f.b b x.f.sy _ hU hwf eX AX MX FX hbv O1 S1 hkb hkv hbd hbm hvd hvm (hsame _)
  rw [← HFB.out] at HL2
  have HL := Lib.hid (show ∃ fbs', DAt _ d mb av fbs' _ ∧ Step (· ∈ dbl d mb av (fbs)) w (· ∈ dbl d mb av fbs') _ from ⟨fbs', HL1.drew, HL2.1.drew, HL2.2⟩)
  have hXd := BXd
  have hXb := BXb
  have hpdd : (⟨d, 1, none⟩ : Addr) ≠ ⟨pd, 0, none⟩ := by simp
  have hpbd : (⟨d, 1, none⟩ : Addr) ≠ ⟨pb, 0, none⟩ := by simp
  clear HL1 HL2 h' eX AX MX FX F1 AY O1 OX BX hU hwf hkb hkv hsame
  refine wp_region_held_drew (S := fun w' => w'.cell? ⟨pd, 0, none⟩ = some (.pointer (some ⟨d, 0, none⟩)) ∧ w'.cell? ⟨pb, 0, none⟩ = some (.slice axb b.length capb)) (by kernel_rfl) ⟨hXd, hXb⟩ (fun hHeld => ?_)
  refine wpAnyH_take (i := 0) (v := .pointer (some ⟨x.blk, 0, none⟩)) rfl (by kernel_rfl) (by kernel_rfl) (by kernel_rfl) (fun _ _ _ h => h) (Or.inl ⟨by rfl, ?y1⟩) (by assumption) ?r1
  case y1 => (intro w hSw; obtain ⟨s1, s2⟩ := hSw; go_simp)
  simp only [Act.put]
  refine wpAnyH_take (i := 1) (v := .pointer (some ⟨x.blk, 0, none⟩)) rfl (by kernel_rfl) (by kernel_rfl) (by kernel_rfl) (fun _ _ _ h => h) (Or.inl ⟨by rfl, ?y2⟩) (by assumption) ?r2
  case y2 => (intro w hSw; obtain ⟨s1, s2⟩ := hSw; go_simp)
  simp only [Act.put]
  refine wpAnyH_take (i := 2) (v := .pointer (some ⟨x.blk, 0, none⟩)) rfl (by kernel_rfl) (by kernel_rfl) (by kernel_rfl) (fun _ _ _ h => h) (Or.inl ⟨by rfl, ?y3⟩) (by assumption) ?r3
  case y3 => (intro w hSw; obtain ⟨s1, s2⟩ := hSw; go_simp)
  simp only [Act.put]
  refine wpAnyH_take (i := 3) (v := .pointer (some ⟨x.blk, 0, none⟩)) rfl (by kernel_rfl) (by kernel_rfl) (by kernel_rfl) (fun _ _ _ h => h) (Or.inl ⟨by rfl, ?y4⟩) (by assumption) ?r4
  case y4 => (intro w hSw; obtain ⟨s1, s2⟩ := hSw; go_simp)
  simp only [Act.put]
  refine wpAnyH_take (i := 5) (v := .slice axb b.length capb) rfl (by kernel_rfl) (by kernel_rfl) (by kernel_rfl) (fun _ _ _ h => h) (Or.inl ⟨by rfl, ?y5⟩) (by assumption) ?r5
  case y5 => (intro w hSw; obtain ⟨s1, s2⟩ := hSw; go_simp)
  simp only [Act.put]
  refine wpAnyH_ready (rs := [4]) (by kernel_rfl) (by simp) (AllReadyH.cons rfl (fun K hK => ?_) AllReadyH.nil)
  go_simp
  refine hK.out _ _ ⟨hXd, hXb⟩ (fun hHeld => ?_)
  clear hK K
  refine wpAnyH_ready (rs := [6]) (by kernel_rfl) (by simp) (AllReadyH.cons rfl (fun K hK => ?_) AllReadyH.nil)
  refine step_append_run rfl _ _ _ _ rfl _ _ _ rfl rfl hrun ?_
  refine hK.out _ _ ⟨S1.1.cell hXd hnd, S1.1.cell hXb hnb⟩ (fun hHeld => ?_)
  clear hK K
  simp only [Act.put]
  refine wpAnyH_take (i := 7) (v := .pointer (some ⟨x.blk, 0, none⟩)) rfl (by kernel_rfl) (by kernel_rfl) (by kernel_rfl) (fun _ _ _ h => h) (Or.inl ⟨by rfl, ?y6⟩) (by assumption) ?r6
  case y6 => (intro w hSw; obtain ⟨s1, s2⟩ := hSw; go_simp)
  simp only [Act.put]
  refine wpAnyH_take (i := 8) (v := .pointer (some ⟨x.blk, 0, none⟩)) rfl (by kernel_rfl) (by kernel_rfl) (by kernel_rfl) (fun _ _ _ h => h) (Or.inl ⟨by rfl, ?y7⟩) (by assumption) ?r7
  case y7 => (intro w hSw; obtain ⟨s1, s2⟩ := hSw; go_simp)
  simp only [Act.put]
  refine wpAnyH_ready (rs := [9]) (by kernel_rfl) (by simp) (AllReadyH.cons rfl (fun K hK => ?_) AllReadyH.nil)
  go_simp
  refine hK.out _ _ ⟨hYd, hYb⟩ (fun hHeld => ?_)
  clear hK K
  refine wpAnyH_done (by kernel_rfl) ?_ _
  generalize w1.setCell ⟨x.blk, 0, none⟩ (.slice ao2 (x.f.b.length + b.length) cap2) = Y at *
  go_wp2_with fail
  refine wp_region_held_drew (S := fun w' => w'.cell? ⟨pd, 0, none⟩ = some (.pointer (some ⟨d, 0, none⟩)) ∧ w'.cell? ⟨pb, 0, none⟩ = some (.slice axb b.length capb)) (by kernel_rfl) ⟨hYd, hYb⟩ (fun hHeld => ?_)
  refine wpAnyH_take (i := 0) (v := .pointer (some ⟨d, 0, none⟩)) rfl (by kernel_rfl) (by kernel_rfl) (by kernel_rfl) (fun _ _ _ h => h) (Or.inl ⟨by rfl, ?y8⟩) (by assumption) ?r8
  case y8 => (intro w hSw; obtain ⟨s1, s2⟩ := hSw; go_simp)
  simp only [Act.put]
  refine wpAnyH_take (i := 1) (v := .pointer (some ⟨d, 0, none⟩)) rfl (by kernel_rfl) (by kernel_rfl) (by kernel_rfl) (fun _ _ _ h => h) (Or.inl ⟨by rfl, ?y9⟩) (by assumption) ?r9
  case y9 => (intro w hSw; obtain ⟨s1, s2⟩ := hSw; go_simp)
  simp only [Act.put]
  refine wpAnyH_take (i := 2) (v := .pointer (some ⟨d, 1, none⟩)) rfl (by kernel_rfl) (by kernel_rfl) (by kernel_rfl) (fun _ _ _ h => h) (Or.inl ⟨by rfl, ?y10⟩) (by assumption) ?r10
  case y10 => (intro w hSw; obtain ⟨s1, s2⟩ := hSw; go_simp)
  simp only [Act.put]
  refine wpAnyH_take (i := 4) (v := .slice axb b.length capb) rfl (by kernel_rfl) (by kernel_rfl) (by kernel_rfl) (fun _ _ _ h => h) (Or.inl ⟨by rfl, ?y11⟩) (by assumption) ?r11
  case y11 => (intro w hSw; obtain ⟨s1, s2⟩ := hSw; go_simp)
  simp only [Act.put]
  refine wpAnyH_take (i := 5) (v := .int .i64 b.length) rfl (by kernel_rfl) (by kernel_rfl) (by kernel_rfl) (fun _ _ _ h => h) (Or.inl ⟨by rfl, ?y12⟩) (by assumption) ?r12
  case y12 => (intro w hSw; obtain ⟨s1, s2⟩ := hSw; go_simp)
  simp only [Act.put]
  refine wpAnyH_ready (rs := [3]) (by kernel_rfl) (by simp) (AllReadyH.cons rfl (fun K hK => ?_) AllReadyH.nil)
  go_simp
  refine hK.out _ _ ⟨hYd, hYb⟩ (fun hHeld => ?_)
  clear hK K
  refine wpAnyH_take (i := 6) (v := .int .i64 ((D.used + b.length : Nat) : Int)) rfl (by kernel_rfl) (by kernel_rfl) (by kernel_rfl) (fun _ _ _ h => h) (Or.inl ⟨by rfl, ?y13⟩) (by assumption) ?r13
  case y13 => (intro w hSw; obtain ⟨s1, s2⟩ := hSw; go_simp)
  simp only [Act.put]
  refine wpAnyH_take (i := 7) (v := .pointer (some ⟨d, 0, none⟩)) rfl (by kernel_rfl) (by kernel_rfl) (by kernel_rfl) (fun _ _ _ h => h) (Or.inl ⟨by rfl, ?y14⟩) (by assumption) ?r14
  case y14 => (intro w hSw; obtain ⟨s1, s2⟩ := hSw; go_simp)
  simp only [Act.put]
  refine wpAnyH_take (i := 8) (v := .pointer (some ⟨d, 1, none⟩)) rfl (by kernel_rfl) (by kernel_rfl) (by kernel_rfl) (fun _ _ _ h => h) (Or.inl ⟨by rfl, ?y15⟩) (by assumption) ?r15
  case y15 => (intro w hSw; obtain ⟨s1, s2⟩ := hSw; go_simp)
  simp only [Act.put]
  refine wpAnyH_ready (rs := [9]) (by kernel_rfl) (by simp) (AllReadyH.cons rfl (fun K hK => ?_) AllReadyH.nil)
  go_simp
  refine hK.out _ _ ⟨(World.cell?_setCell_other _ _ _ _ hpdd).trans hYd, (World.cell?_setCell_other _ _ _ _ hpbd).trans hYb⟩ (fun hHeld => ?_)
  clear hK K
  refine wpAnyH_done (by kernel_rfl) ?_ _
  go_wp2_with fail
  go_end0
  exact ⟨rfl, HL.out⟩

set_option maxRecDepth 20000 in
set_option maxHeartbeats 2000000 in
theorem append_new (w : World) (d mb : Nat) (av : Value) (fbs : List FB) (D : Dk) (h : DAt w d mb av fbs D) (pd pn pb : Nat) (s : ByteArray) (hs : s.size ≤ maxLen) (hf : findK FB.nm s.data.toList fbs = none) (axb : Option Addr) (capb : Nat) (b : List UInt8)
    (hd : Bx w pd (.pointer (some ⟨d, 0, none⟩))) (hn : Bx w pn (.string s)) (hb : Bx w pb (.slice axb b.length capb)) (hx : Bytes w (.slice axb b.length capb) b) (hxm : ¬ inFoot (.slice axb b.length capb) mb)
    (hpd : pd ∉ dbl d mb av fbs) (hpn : pn ∉ dbl d mb av fbs) (hpb : pb ∉ dbl d mb av fbs) (hroom : D.used + b.length ≤ D.lim) (hnm : nmOk s.data.toList = true) (hcnt : D.fs.length < 65536) :
    Calls Try.prog 61 #[.pointer (some ⟨pd, 0, none⟩), .pointer (some ⟨pn, 0, none⟩), .pointer (some ⟨pb, 0, none⟩)] w (Did w d mb av fbs (D.put ⟨s.data.toList, b, 0⟩)) := by
  have hl := fun q => MapAt.look (h.map.ext ((Ext.refl Nil w).drewN q) fun h => h) s hs
  unfold fileAt at hl
  rw [hf] at hl
  have hd' : w.cell? ⟨pd, 0, none⟩ = some (.pointer (some ⟨d, 0, none⟩)) := hd
  have hn' : w.cell? ⟨pn, 0, none⟩ = some (.string s) := hn
  have hb' : w.cell? ⟨pb, 0, none⟩ = some (.slice axb b.length capb) := hb
  have c2 := h.cells.cell 2 rfl
  have hfd := h.find s.data.toList
  rw [hf] at hfd
  have hsz : D.size s.data.toList = 0 := Dk.size_none hfd
  have hus : _ + D.size s.data.toList = D.used + b.length := (Dk.used_put h.wf ⟨s.data.toList, b, 0⟩).1
  have hl1 := h.wf.lim1
  have hwf : (D.put ⟨s.data.toList, [] ++ b, 0⟩).Wf := Dk.put_wf h.wf ⟨s.data.toList, [] ++ b, 0⟩ (Nat.zero_le _) hnm
    (by show D.used + ([] ++ b : List UInt8).length ≤ D.lim + D.size s.data.toList; simp; omega) (.inr hcnt)
  have hU : (D.put ⟨s.data.toList, [] ++ b, 0⟩).used = D.used + b.length := by rw [List.nil_append]; omega
  have hp := h.part
  have hdne : d ≠ pd := fun e => hpd (by rw [← e]; simp [dbl])
  have hmpd : mb ≠ pd := fun e => hpd (by rw [← e]; simp [dbl])
  have hmpb : mb ≠ pb := fun e => hpb (by rw [← e]; simp [dbl])
  have hmb := World.ownsMap.lt h.map
  have hdl := h.cells.lt
  have hpdl := (cell_spot hd').2
  have hpbl := (cell_spot hb').2
  simp only [] at hpdl hpbl
  have hw1 : IntKind.i64.wrap ((D.used : Int) + (b.length : Int)) = ((D.used + b.length : Nat) : Int) := by rw [IntWalk.i64_in _ (by omega)]; omega
  obtain ⟨A, B, hfb, hA, hB⟩ := rises_part FB.nm s.data.toList fbs h.rises ((findK_none _ _ _).1 hf)
  have hmapput : ∀ (v : Value) (k : Nat), putK FB.nm ⟨⟨s.data.toList, [], 0⟩, k, v⟩ fbs = A ++ [⟨⟨s.data.toList, [], 0⟩, k, v⟩] ++ B := fun v k => by
    unfold putK
    have e : delK FB.nm (FB.nm ⟨⟨s.data.toList, [], 0⟩, k, v⟩) fbs = A ++ B := by show delK FB.nm s.data.toList fbs = A ++ B; rw [delK_none _ _ _ ((findK_none _ _ _).1 hf), hfb]
    rw [e, insK_part FB.nm ⟨⟨s.data.toList, [], 0⟩, k, v⟩ B hB A hA]
    simp
  have hsame : ∀ (v' : Value) (k : Nat), (A ++ [(⟨⟨s.data.toList, [] ++ b, 0⟩, k, v'⟩ : FB)] ++ B).map FB.f = (D.put ⟨s.data.toList, [] ++ b, 0⟩).fs := fun v' k => by
    have e : (putK FB.nm ⟨⟨s.data.toList, [] ++ b, 0⟩, k, v'⟩ fbs).map FB.f = (D.put ⟨s.data.toList, [] ++ b, 0⟩).fs := by
      rw [putK_map FB.nm FileM.nm FB.f (fun _ => rfl), h.same]
      rfl
    rw [← e]
    congr 1
    unfold putK
    have e : delK FB.nm (FB.nm ⟨⟨s.data.toList, [] ++ b, 0⟩, k, v'⟩) fbs = A ++ B := by show delK FB.nm s.data.toList fbs = A ++ B; rw [delK_none _ _ _ ((findK_none _ _ _).1 hf), hfb]
    rw [e, insK_part FB.nm ⟨⟨s.data.toList, [] ++ b, 0⟩, k, v'⟩ B hB A hA]
    simp
  have hfb : fbs = A ++ [] ++ B := by rw [hfb]; simp
  have h' := h
  rw [hfb] at h'
  have hcount := h.wf.count
  rw [← h.count] at hcount
  have HFB := Lib.hid hfb
  have HH := Lib.hid h; have HX := Lib.hid hx; have HSM := Lib.hid hsame; have HMP := Lib.hid hmapput
  have HU2 := Lib.hid hU; have HL := Lib.hid hl
  clear hfb h hx hsame hU hl hf hfd hus hsz hmapput hA hB
  go_enter Try.func61, Try.ntmps61
  go_wp2_with fail
  have hl0 := HL.out
  go_quiet (fail)
  clear hl0
  go_wp2_with fail
  have e3 : Ext Nil w ((w.drewN nq).alloc (.cells #[.slice none 0 0, .int .i64 0] 115 (0, 0))) := ((Ext.refl Nil w).drewN nq).alloc _
  have FW := At.new (w.drewN nq) [.slice none 0 0, .int .i64 0] 115
  have hws : (w.drewN nq).heap.size = w.heap.size := rfl
  rw [hws] at FW
  generalize (w.drewN nq).alloc (.cells #[.slice none 0 0, .int .i64 0] 115 (0, 0)) = W at *
  have AW := HH.out.cells.ext e3 fun h => h
  have M3 := HH.out.map.ext e3 fun h => h
  obtain ⟨X, hrun0, M', e'⟩ := MapAt.put (w := W.drew) M3 s hs (by unfold maxLen; omega) ⟨⟨s.data.toList, [], 0⟩, w.heap.size, .slice none 0 0⟩ rfl
  rw [HMP.out] at M'
  have hWd := e3.cell hd' fun h => h
  have hWn := e3.cell hn' fun h => h
  have W2 := AW.cell 2 rfl
  have hmpn : mb ≠ pn := fun e => hpn (by rw [← e]; simp [dbl])
  obtain ⟨b0, hb0⟩ : ∃ b0 : List UInt8, b0 = [] := ⟨_, rfl⟩
  have HB0 := Lib.hid hb0
  have eX : Ext (fun k => k = d ∨ k = mb ∨ k ∈ ([] : List FB).flatMap FB.bl) w X := ((e3.drew.mono fun k _ h => h.elim).trans e' fun k _ e => .inr (.inl e))
  have AX := AW.drew.ext e' fun e => hp.1 e
  have FX := FW.drew.ext e' fun e => by have e : w.heap.size = mb := e; omega
  have OX : OwnB X (.slice none 0 0) b0 := by rw [hb0]; exact Own.nil _ _ _
  have MX : MapAt X mb (A ++ [⟨⟨s.data.toList, b0, 0⟩, w.heap.size, .slice none 0 0⟩] ++ B) := by rw [hb0]; exact M'
  have BX := ((HX.out.ext e3 fun _ _ h => h).ext (Ext.refl Nil W).drew fun _ _ h => h).ext e' fun k hk e => hxm (by have e : k = mb := e; rwa [e] at hk)
  have BXd := e'.cell (w := W.drew) hWd fun e => hmpd e.symm
  have BXb := e'.cell (w := W.drew) (e3.cell hb' fun h => h) fun e => hmpb e.symm
  have BXn := e'.cell (w := W.drew) hWn fun e => hmpn e.symm
  have hU : (D.put ⟨s.data.toList, b0 ++ b, 0⟩).used = D.used + b.length := by rw [hb0]; exact HU2.out
  have hsame : ∀ v', (A ++ [(⟨⟨s.data.toList, b0 ++ b, 0⟩, w.heap.size, v'⟩ : FB)] ++ B).map FB.f = (D.put ⟨s.data.toList, b0 ++ b, 0⟩).fs := fun v' => by rw [hb0]; exact HSM.out v' _
  have hwf : (D.put ⟨s.data.toList, b0 ++ b, 0⟩).Wf := by rw [hb0]; exact hwf
  have hfit : Fits (b0.length + b.length) := by rw [hb0]; unfold Fits; simp; omega
  have hnone : ∀ k, ¬ inFoot (.slice none 0 0) k := fun k hk => by simp [inFoot, foot] at hk
  have hbv := hnone w.heap.size
  have hkb : w.heap.size ∈ ([] : List FB).flatMap FB.bl ∨ w.heap.size ≤ w.heap.size := .inr (Nat.le_refl _)
  have hkv : ∀ k, inFoot (.slice none 0 0) k → k ∈ ([] : List FB).flatMap FB.bl ∨ w.heap.size ≤ k := fun k hk => absurd hk (hnone k)
  have hbd : w.heap.size ≠ d := by omega
  have hbm : w.heap.size ≠ mb := by omega
  have hvd := hnone d; have hvm := hnone mb
  have hvp : ∀ k, inFoot (.slice none 0 0) k → k ≠ pd := fun k hk => absurd hk (hnone k)
  have hvq : ∀ k, inFoot (.slice none 0 0) k → k ≠ pb := fun k hk => absurd hk (hnone k)
  have hbp : w.heap.size ≠ pd := by omega
  have hbq : w.heap.size ≠ pb := by omega
  have hEnd : ∀ (w' : World), (∃ fbs', DAt w' d mb av fbs' (D.put ⟨s.data.toList, b0 ++ b, 0⟩) ∧ Step (· ∈ dbl d mb av fbs) w (· ∈ dbl d mb av fbs') w') → ∃ fbs', DAt w' d mb av fbs' (D.put ⟨s.data.toList, b, 0⟩) ∧ Step (· ∈ dbl d mb av fbs) w (· ∈ dbl d mb av fbs') w' := fun w' hq => by
    rw [hb0] at hq
    exact hq
  have HEnd := Lib.hid hEnd
  clear hb0 hnone hEnd M3 M' AW FW
  refine wp_region_held_drew (S := fun w' => w'.cell? ⟨pd, 0, none⟩ = some (.pointer (some ⟨d, 0, none⟩)) ∧ w'.cell? ⟨pn, 0, none⟩ = some (.string s)) (by kernel_rfl) ⟨hWd, hWn⟩ (fun hHeld => ?_)
  refine wpAnyH_take (i := 0) (v := .pointer (some ⟨d, 0, none⟩)) rfl (by kernel_rfl) (by kernel_rfl) (by kernel_rfl) (fun _ _ _ h => h) (Or.inl ⟨by rfl, ?y16⟩) (by assumption) ?r16
  case y16 => (intro w hSw; obtain ⟨s1, s2⟩ := hSw; go_simp)
  simp only [Act.put]
  refine wpAnyH_take (i := 1) (v := .pointer (some ⟨d, 0, none⟩)) rfl (by kernel_rfl) (by kernel_rfl) (by kernel_rfl) (fun _ _ _ h => h) (Or.inl ⟨by rfl, ?y17⟩) (by assumption) ?r17
  case y17 => (intro w hSw; obtain ⟨s1, s2⟩ := hSw; go_simp)
  simp only [Act.put]
  refine wpAnyH_take (i := 2) (v := .pointer (some ⟨d, 2, none⟩)) rfl (by kernel_rfl) (by kernel_rfl) (by kernel_rfl) (fun _ _ _ h => h) (Or.inl ⟨by rfl, ?y18⟩) (by assumption) ?r18
  case y18 => (intro w hSw; obtain ⟨s1, s2⟩ := hSw; go_simp)
  simp only [Act.put]
  refine wpAnyH_take (i := 4) (v := .string s) rfl (by kernel_rfl) (by kernel_rfl) (by kernel_rfl) (fun _ _ _ h => h) (Or.inl ⟨by rfl, ?y19⟩) (by assumption) ?r19
  case y19 => (intro w hSw; obtain ⟨s1, s2⟩ := hSw; go_simp)
  simp only [Act.put]
  refine wpAnyH_take (i := 5) (v := .pointer (some ⟨w.heap.size, 0, none⟩)) rfl (by kernel_rfl) (by kernel_rfl) (by kernel_rfl) (fun _ _ _ h => h) (Or.inl ⟨by rfl, ?y20⟩) (by assumption) ?r20
  case y20 => (intro w hSw; obtain ⟨s1, s2⟩ := hSw; go_simp)
  simp only [Act.put]
  refine wpAnyH_ready (rs := [3]) (by kernel_rfl) (by simp) (AllReadyH.cons rfl (fun K hK => ?_) AllReadyH.nil)
  go_simp
  refine hK.out _ _ ⟨hWd, hWn⟩ (fun hHeld => ?_)
  clear hK K
  refine wpAnyH_ready (rs := [6]) (by kernel_rfl) (by simp) (AllReadyH.cons rfl (fun K hK => ?_) AllReadyH.nil)
  go_simp
  refine hK.out _ _ ⟨BXd, BXn⟩ (fun hHeld => ?_)
  clear hK K
  refine wpAnyH_done (by kernel_rfl) ?_ _
  clear hrun0 hWd hWn W2 BXn HMP HSM HU2
  go_wp2_with fail
  obtain ⟨ao2, cap2, w1, hrun, q1, q2, O1, S1⟩ := run_appendB (w := X.drew) OX BX hfit 31
  have S1 : Step (inFoot (.slice none 0 0)) X _ w1 := ⟨(Ext.refl _ X).drew.same S1.1, S1.2⟩
  have FX0 := FX.cell 0 rfl
  have F1 := FX.ext S1.1 hbv
  have F10 := F1.cell 0 rfl
  have z10 := F1.frozen 0
  have hnd : ¬ inFoot (.slice none 0 0) pd := fun e => hvp pd e rfl
  have hnb : ¬ inFoot (.slice none 0 0) pb := fun e => hvq pb e rfl
  have hYd := (World.cell?_setCell_other w1 ⟨w.heap.size, 0, none⟩ ⟨pd, 0, none⟩ (.slice ao2 (b0.length + b.length) cap2) (by intro e; simp only [Addr.mk.injEq, and_true] at e; exact hbp e)).trans (S1.1.cell BXd hnd)
  have hYb := (World.cell?_setCell_other w1 ⟨w.heap.size, 0, none⟩ ⟨pb, 0, none⟩ (.slice ao2 (b0.length + b.length) cap2) (by intro e; simp only [Addr.mk.injEq, and_true] at e; exact hbq e)).trans (S1.1.cell BXb hnb)
  have AY := ((AX.ext S1.1 hvd).setOther ⟨w.heap.size, 0, none⟩ (.slice ao2 (b0.length + b.length) cap2) (fun e => hbd e.symm))
  have y1 := AY.cell 1 rfl
  have zy1 := AY.frozen 1
  obtain ⟨fbs', HL1, HL2⟩ := append_turn (X0 := []) h' s.data.toList w.heap.size (.slice none 0 0) _ b0 b 0 _ hU hwf eX AX MX FX hbv O1 S1 hkb hkv hbd hbm hvd hvm (hsame _)
  rw [← HFB.out] at HL2
  have HL := Lib.hid (show ∃ fbs', DAt _ d mb av fbs' _ ∧ Step (· ∈ dbl d mb av (fbs)) w (· ∈ dbl d mb av fbs') _ from ⟨fbs', HL1.drew, HL2.1.drew, HL2.2⟩)
  have hXd := BXd
  have hXb := BXb
  have hpdd : (⟨d, 1, none⟩ : Addr) ≠ ⟨pd, 0, none⟩ := by simp
  have hpbd : (⟨d, 1, none⟩ : Addr) ≠ ⟨pb, 0, none⟩ := by simp
  clear HL1 HL2 h' eX AX MX FX F1 AY O1 OX BX hU hwf hkb hkv hsame
  refine wp_region_held_drew (S := fun w' => w'.cell? ⟨pd, 0, none⟩ = some (.pointer (some ⟨d, 0, none⟩)) ∧ w'.cell? ⟨pb, 0, none⟩ = some (.slice axb b.length capb)) (by kernel_rfl) ⟨hXd, hXb⟩ (fun hHeld => ?_)
  refine wpAnyH_take (i := 0) (v := .pointer (some ⟨w.heap.size, 0, none⟩)) rfl (by kernel_rfl) (by kernel_rfl) (by kernel_rfl) (fun _ _ _ h => h) (Or.inl ⟨by rfl, ?y21⟩) (by assumption) ?r21
  case y21 => (intro w hSw; obtain ⟨s1, s2⟩ := hSw; go_simp)
  simp only [Act.put]
  refine wpAnyH_take (i := 1) (v := .pointer (some ⟨w.heap.size, 0, none⟩)) rfl (by kernel_rfl) (by kernel_rfl) (by kernel_rfl) (fun _ _ _ h => h) (Or.inl ⟨by rfl, ?y22⟩) (by assumption) ?r22
  case y22 => (intro w hSw; obtain ⟨s1, s2⟩ := hSw; go_simp)
  simp only [Act.put]
  refine wpAnyH_take (i := 2) (v := .pointer (some ⟨w.heap.size, 0, none⟩)) rfl (by kernel_rfl) (by kernel_rfl) (by kernel_rfl) (fun _ _ _ h => h) (Or.inl ⟨by rfl, ?y23⟩) (by assumption) ?r23
  case y23 => (intro w hSw; obtain ⟨s1, s2⟩ := hSw; go_simp)
  simp only [Act.put]
  refine wpAnyH_take (i := 3) (v := .pointer (some ⟨w.heap.size, 0, none⟩)) rfl (by kernel_rfl) (by kernel_rfl) (by kernel_rfl) (fun _ _ _ h => h) (Or.inl ⟨by rfl, ?y24⟩) (by assumption) ?r24
  case y24 => (intro w hSw; obtain ⟨s1, s2⟩ := hSw; go_simp)
  simp only [Act.put]
  refine wpAnyH_take (i := 5) (v := .slice axb b.length capb) rfl (by kernel_rfl) (by kernel_rfl) (by kernel_rfl) (fun _ _ _ h => h) (Or.inl ⟨by rfl, ?y25⟩) (by assumption) ?r25
  case y25 => (intro w hSw; obtain ⟨s1, s2⟩ := hSw; go_simp)
  simp only [Act.put]
  refine wpAnyH_ready (rs := [4]) (by kernel_rfl) (by simp) (AllReadyH.cons rfl (fun K hK => ?_) AllReadyH.nil)
  go_simp
  refine hK.out _ _ ⟨hXd, hXb⟩ (fun hHeld => ?_)
  clear hK K
  refine wpAnyH_ready (rs := [6]) (by kernel_rfl) (by simp) (AllReadyH.cons rfl (fun K hK => ?_) AllReadyH.nil)
  refine step_append_run rfl _ _ _ _ rfl _ _ _ rfl rfl hrun ?_
  refine hK.out _ _ ⟨S1.1.cell hXd hnd, S1.1.cell hXb hnb⟩ (fun hHeld => ?_)
  clear hK K
  simp only [Act.put]
  refine wpAnyH_take (i := 7) (v := .pointer (some ⟨w.heap.size, 0, none⟩)) rfl (by kernel_rfl) (by kernel_rfl) (by kernel_rfl) (fun _ _ _ h => h) (Or.inl ⟨by rfl, ?y26⟩) (by assumption) ?r26
  case y26 => (intro w hSw; obtain ⟨s1, s2⟩ := hSw; go_simp)
  simp only [Act.put]
  refine wpAnyH_take (i := 8) (v := .pointer (some ⟨w.heap.size, 0, none⟩)) rfl (by kernel_rfl) (by kernel_rfl) (by kernel_rfl) (fun _ _ _ h => h) (Or.inl ⟨by rfl, ?y27⟩) (by assumption) ?r27
  case y27 => (intro w hSw; obtain ⟨s1, s2⟩ := hSw; go_simp)
  simp only [Act.put]
  refine wpAnyH_ready (rs := [9]) (by kernel_rfl) (by simp) (AllReadyH.cons rfl (fun K hK => ?_) AllReadyH.nil)
  go_simp
  refine hK.out _ _ ⟨hYd, hYb⟩ (fun hHeld => ?_)
  clear hK K
  refine wpAnyH_done (by kernel_rfl) ?_ _
  generalize w1.setCell ⟨w.heap.size, 0, none⟩ (.slice ao2 (b0.length + b.length) cap2) = Y at *
  go_wp2_with fail
  refine wp_region_held_drew (S := fun w' => w'.cell? ⟨pd, 0, none⟩ = some (.pointer (some ⟨d, 0, none⟩)) ∧ w'.cell? ⟨pb, 0, none⟩ = some (.slice axb b.length capb)) (by kernel_rfl) ⟨hYd, hYb⟩ (fun hHeld => ?_)
  refine wpAnyH_take (i := 0) (v := .pointer (some ⟨d, 0, none⟩)) rfl (by kernel_rfl) (by kernel_rfl) (by kernel_rfl) (fun _ _ _ h => h) (Or.inl ⟨by rfl, ?y28⟩) (by assumption) ?r28
  case y28 => (intro w hSw; obtain ⟨s1, s2⟩ := hSw; go_simp)
  simp only [Act.put]
  refine wpAnyH_take (i := 1) (v := .pointer (some ⟨d, 0, none⟩)) rfl (by kernel_rfl) (by kernel_rfl) (by kernel_rfl) (fun _ _ _ h => h) (Or.inl ⟨by rfl, ?y29⟩) (by assumption) ?r29
  case y29 => (intro w hSw; obtain ⟨s1, s2⟩ := hSw; go_simp)
  simp only [Act.put]
  refine wpAnyH_take (i := 2) (v := .pointer (some ⟨d, 1, none⟩)) rfl (by kernel_rfl) (by kernel_rfl) (by kernel_rfl) (fun _ _ _ h => h) (Or.inl ⟨by rfl, ?y30⟩) (by assumption) ?r30
  case y30 => (intro w hSw; obtain ⟨s1, s2⟩ := hSw; go_simp)
  simp only [Act.put]
  refine wpAnyH_take (i := 4) (v := .slice axb b.length capb) rfl (by kernel_rfl) (by kernel_rfl) (by kernel_rfl) (fun _ _ _ h => h) (Or.inl ⟨by rfl, ?y31⟩) (by assumption) ?r31
  case y31 => (intro w hSw; obtain ⟨s1, s2⟩ := hSw; go_simp)
  simp only [Act.put]
  refine wpAnyH_take (i := 5) (v := .int .i64 b.length) rfl (by kernel_rfl) (by kernel_rfl) (by kernel_rfl) (fun _ _ _ h => h) (Or.inl ⟨by rfl, ?y32⟩) (by assumption) ?r32
  case y32 => (intro w hSw; obtain ⟨s1, s2⟩ := hSw; go_simp)
  simp only [Act.put]
  refine wpAnyH_ready (rs := [3]) (by kernel_rfl) (by simp) (AllReadyH.cons rfl (fun K hK => ?_) AllReadyH.nil)
  go_simp
  refine hK.out _ _ ⟨hYd, hYb⟩ (fun hHeld => ?_)
  clear hK K
  refine wpAnyH_take (i := 6) (v := .int .i64 ((D.used + b.length : Nat) : Int)) rfl (by kernel_rfl) (by kernel_rfl) (by kernel_rfl) (fun _ _ _ h => h) (Or.inl ⟨by rfl, ?y33⟩) (by assumption) ?r33
  case y33 => (intro w hSw; obtain ⟨s1, s2⟩ := hSw; go_simp)
  simp only [Act.put]
  refine wpAnyH_take (i := 7) (v := .pointer (some ⟨d, 0, none⟩)) rfl (by kernel_rfl) (by kernel_rfl) (by kernel_rfl) (fun _ _ _ h => h) (Or.inl ⟨by rfl, ?y34⟩) (by assumption) ?r34
  case y34 => (intro w hSw; obtain ⟨s1, s2⟩ := hSw; go_simp)
  simp only [Act.put]
  refine wpAnyH_take (i := 8) (v := .pointer (some ⟨d, 1, none⟩)) rfl (by kernel_rfl) (by kernel_rfl) (by kernel_rfl) (fun _ _ _ h => h) (Or.inl ⟨by rfl, ?y35⟩) (by assumption) ?r35
  case y35 => (intro w hSw; obtain ⟨s1, s2⟩ := hSw; go_simp)
  simp only [Act.put]
  refine wpAnyH_ready (rs := [9]) (by kernel_rfl) (by simp) (AllReadyH.cons rfl (fun K hK => ?_) AllReadyH.nil)
  go_simp
  refine hK.out _ _ ⟨(World.cell?_setCell_other _ _ _ _ hpdd).trans hYd, (World.cell?_setCell_other _ _ _ _ hpbd).trans hYb⟩ (fun hHeld => ?_)
  clear hK K
  refine wpAnyH_done (by kernel_rfl) ?_ _
  go_wp2_with fail
  go_end0
  exact ⟨rfl, HEnd.out _ HL.out⟩
end Go.Proofs.Ytnppneilbkmnfaa
namespace Go.Proofs.Ytnppneilbkmnfaa
open Go.RowKit

/-- The end of a call that changes a disk: its answer, the disk behind it. -/
def Acted (w : World) (d : Nat) (F : Nat → Prop) (r : Dk × Int) (e : Ending) (w' : World) : Prop :=
  e = .returned (.int .i64 r.2) ∧ ∃ F', Disk w' d r.1 F' ∧ Step F w F' w'
theorem Acted.same {w w' : World} {d : Nat} {D : Dk} {F : Nat → Prop} (h : Disk w d D F) (e : Ext Nil w w') (er : Int) : Acted w d F (D, er) (.returned (.int .i64 er)) w' :=
  ⟨rfl, F, h.ext e fun _ _ h => h, e.mono fun _ _ h => h.elim, fun _ h => .inl h⟩
theorem Numbered.acted {w w0 w' : World} {d mb : Nat} {av : Value} {fbs : List FB} {D' : Dk} {er : Int} {e : Ending} (e0 : Ext Nil w0 w) (h : Numbered w d mb av fbs D' er e w') : Acted w0 d (· ∈ dbl d mb av fbs) (D', er) e w' := by
  obtain ⟨he, av', fbs', h1, h2⟩ := h
  exact ⟨he, _, ⟨mb, av', fbs', h1, rfl⟩, (e0.mono fun _ _ h => h.elim).same h2.1, fun k hk => (h2.2 k hk).imp id fun h => Nat.le_trans e0.size h⟩

theorem room_mono {D : Dk} {s : Nm} {n : Nat} (h : D.room s (D.size s + n) = true) : D.used + n ≤ D.lim := by
  have := (Dk.room_spec.1 h).1
  omega
theorem dbl_sub {d mb : Nat} {av av1 : Value} {fbs : List FB} (h : ∀ k, inFoot av1 k → inFoot av k) : ∀ k, k ∈ dbl d mb av1 fbs → k ∈ dbl d mb av fbs := by
  intro k hm
  simp only [dbl, List.mem_cons, List.mem_append] at hm ⊢
  rcases hm with hm | hm | hm | hm
  · exact .inl hm
  · exact .inr (.inl hm)
  · exact .inr (.inr (.inl (mem_footL.2 (h _ (mem_footL.1 hm)))))
  · exact .inr (.inr (.inr hm))
theorem dbl_touch {d mb : Nat} {av : Value} {fbs : List FB} {k : Nat} (h : k ∉ dbl d mb av fbs) : ¬ (k = d ∨ inFoot av k) := fun e => h (by
  simp only [dbl, List.mem_cons, List.mem_append]
  rcases e with e | e
  · exact .inl e
  · exact .inr (.inr (.inl (mem_footL.2 e))))

/-- three boxes, laid one behind the other -/
def boxes3 (w : World) (v1 v2 v3 : Value) (t1 t2 t3 : TypeId) : World := ((w.alloc (.cells #[v1] t1 (0, 0))).alloc (.cells #[v2] t2 (0, 0))).alloc (.cells #[v3] t3 (0, 0))
theorem boxes3_facts (w : World) (v1 v2 v3 : Value) (t1 t2 t3 : TypeId) : Ext Nil w (boxes3 w v1 v2 v3 t1 t2 t3) ∧ Bx (boxes3 w v1 v2 v3 t1 t2 t3) w.heap.size v1 ∧ Bx (boxes3 w v1 v2 v3 t1 t2 t3) (w.heap.size + 1) v2 ∧ Bx (boxes3 w v1 v2 v3 t1 t2 t3) (w.heap.size + 2) v3 := by
  have e1 : Ext Nil w (w.alloc (.cells #[v1] t1 (0, 0))) := (Ext.refl _ _).alloc _
  have h1 := (At.new w [v1] t1).cell 0 rfl
  have h2 := (At.new (w.alloc (.cells #[v1] t1 (0, 0))) [v2] t2).cell 0 rfl
  have h3 := (At.new ((w.alloc (.cells #[v1] t1 (0, 0))).alloc (.cells #[v2] t2 (0, 0))) [v3] t3).cell 0 rfl
  have s1 : (w.alloc (.cells #[v1] t1 (0, 0))).heap.size = w.heap.size + 1 := by simp
  have s2 : ((w.alloc (.cells #[v1] t1 (0, 0))).alloc (.cells #[v2] t2 (0, 0))).heap.size = w.heap.size + 2 := by simp
  rw [s1] at h2
  rw [s2] at h3
  have g1 : Ext Nil (w.alloc (.cells #[v1] t1 (0, 0))) (boxes3 w v1 v2 v3 t1 t2 t3) := ((Ext.refl Nil (w.alloc (.cells #[v1] t1 (0, 0)))).alloc _).alloc _
  have g2 : Ext Nil ((w.alloc (.cells #[v1] t1 (0, 0))).alloc (.cells #[v2] t2 (0, 0))) (boxes3 w v1 v2 v3 t1 t2 t3) := (Ext.refl Nil _).alloc _
  exact ⟨e1.same g1, g1.cell h1 fun h => h, g2.cell h2 fun h => h, h3⟩

theorem holds_q (w : World) (d mb : Nat) (av : Value) (fbs : List FB) (D : Dk) (h : DAt w d mb av fbs D) (s : ByteArray) (hs : s.size ≤ maxLen) (n : Nat) (hn : n ≤ 1099511627776) (R : Bool) (hR : Hid (D.room s.data.toList n = R)) :
    Calls Try.prog 58 #[.pointer (some ⟨d, 0, none⟩), .string s, .int .i64 n] w fun e w' => e = .returned (.bool R) ∧ ∃ q, w' = w.drewN q :=
  (holds_at w d mb av fbs D h s hs n hn).mono fun e w' ⟨h1, h2⟩ => ⟨by rw [h1, hR.out], h2⟩

theorem append_H {W : World} {d mb : Nat} {av : Value} {fbs : List FB} {D : Dk} {pd pn pb : Nat} {s : ByteArray} (hs : s.size ≤ maxLen) {axb : Option Addr} {capb : Nat} {b : List UInt8} (hd : Bx W pd (.pointer (some ⟨d, 0, none⟩))) (hn : Bx W pn (.string s)) (hb : Bx W pb (.slice axb b.length capb)) (hx : Bytes W (.slice axb b.length capb) b) (hxF : ∀ k, inFoot (.slice axb b.length capb) k → k ∉ dbl d mb av fbs)
    (hpd : pd ∉ dbl d mb av fbs) (hpn : pn ∉ dbl d mb av fbs) (hpb : pb ∉ dbl d mb av fbs) (hroom : D.used + b.length ≤ D.lim) (hnm : nmOk s.data.toList = true) (hcnt : (D.find s.data.toList).isSome = true ∨ D.fs.length < 65536) :
    ∀ w1 av1, Ext (fun k => k = d ∨ inFoot av k) W w1 → (∀ k, inFoot av1 k → inFoot av k) → DAt w1 d mb av1 fbs D.tick → Calls Try.prog 61 #[.pointer (some ⟨pd, 0, none⟩), .pointer (some ⟨pn, 0, none⟩), .pointer (some ⟨pb, 0, none⟩)] w1 (Did w1 d mb av1 fbs (Dk.addTo s.data.toList b D.tick)) := by
  intro w1 av1 e hsub h1
  have hd1 : Bx w1 pd _ := e.cell hd (dbl_touch hpd)
  have hn1 : Bx w1 pn _ := e.cell hn (dbl_touch hpn)
  have hb1 : Bx w1 pb _ := e.cell hb (dbl_touch hpb)
  have hx1 := hx.ext e fun k hk => dbl_touch (hxF k hk)
  have q1 : pd ∉ dbl d mb av1 fbs := fun h => hpd (dbl_sub hsub _ h)
  have q2 : pn ∉ dbl d mb av1 fbs := fun h => hpn (dbl_sub hsub _ h)
  have q3 : pb ∉ dbl d mb av1 fbs := fun h => hpb (dbl_sub hsub _ h)
  have hfd := h1.find s.data.toList
  cases hf : findK FB.nm s.data.toList fbs with
  | some x =>
    rw [hf] at hfd
    have e1 : Dk.addTo s.data.toList b D.tick = D.tick.put ⟨s.data.toList, x.f.b ++ b, x.f.sy⟩ := by unfold Dk.addTo; rw [hfd]; rfl
    rw [e1]
    exact append_old w1 d mb av1 fbs D.tick h1 pd pn pb s hs x hf axb capb b hd1 hn1 hb1 hx1 q1 q3 hroom
  | none =>
    rw [hf] at hfd
    have e1 : Dk.addTo s.data.toList b D.tick = D.tick.put ⟨s.data.toList, b, 0⟩ := by unfold Dk.addTo; rw [hfd]; rfl
    rw [e1]
    have hcnt2 : D.tick.fs.length < 65536 := hcnt.resolve_left fun h => by
      have h : (D.tick.find s.data.toList).isSome = true := h
      rw [hfd] at h
      cases h
    exact append_new w1 d mb av1 fbs D.tick h1 pd pn pb s hs hf axb capb b hd1 hn1 hb1 hx1 (fun hk => hxF mb hk (by simp [dbl])) q1 q2 q3 hroom hnm hcnt2

theorem append_nil_m (w : World) (s : ByteArray) (ax : Option Addr) (n c : Nat) : Calls Try.prog 20 #[.pointer none, .string s, .slice ax n c] w fun e w' => e = .returned (.int .i64 1) ∧ Ext Nil w w' := by
  go_enter Try.func20, Try.ntmps20
  go_wp2_with (go_at_call 57; refine (refuses_nil _ s).mono ?_; rintro e w' ⟨rfl, rfl⟩)
  go_ret
  exact ⟨rfl, (((Ext.refl _ _).alloc _).alloc _).alloc _⟩

set_option maxRecDepth 20000 in
set_option maxHeartbeats 1000000 in
theorem append_m (w : World) (d : Nat) (D : Dk) (F : Nat → Prop) (hD : Disk w d D F) (hc : D.calls ≤ 1099511627776) (s : ByteArray) (hs : s.size ≤ maxLen) (x : Value) (b : List UInt8) (hx : Bytes w x b) (hxF : ∀ k, inFoot x k → ¬ F k) (hb : b.length ≤ 549755813888) :
    Calls Try.prog 20 #[.pointer (some ⟨d, 0, none⟩), .string s, x] w (Acted w d F (D.append s.data.toList b)) := by
  obtain ⟨mb, av, fbs, h, rfl⟩ := hD
  obtain ⟨ax, cx, rfl, hcx, hmx, -⟩ := hx.open
  obtain ⟨eW, b1, b2, b3⟩ := boxes3_facts w (.pointer (some ⟨d, 0, none⟩)) (.string s) (.slice ax b.length cx) 22 9 31
  have hW := h.ext eW fun _ _ h => h
  have hxW := hx.ext eW fun _ _ h => h
  have hlt := h.lt
  have hDD : Disk w d D (· ∈ dbl d mb av fbs) := ⟨mb, av, fbs, h, rfl⟩
  by_cases hr : D.refuse s.data.toList = 0
  · have hdef : D.append s.data.toList b = if D.room s.data.toList (D.size s.data.toList + b.length) then D.num (Dk.addTo s.data.toList b) else (D, 62) := by
      unfold Dk.append
      rw [if_neg (by simp [hr])]
    have hnm : nmOk s.data.toList = true ∧ D.off = false := by
      unfold Dk.refuse at hr
      cases h1 : D.off <;> cases h2 : nmOk s.data.toList <;> simp [h1, h2] at hr ⊢
    have c0 := hW.cells.cell 0 rfl
    have hsz := size_le h.wf s.data.toList
    generalize hR : D.room s.data.toList (D.size s.data.toList + b.length) = R at *
    have hRm : R = true → D.used + b.length ≤ D.lim ∧ ((D.find s.data.toList).isSome = true ∨ D.fs.length < 65536) := fun e => by
      rw [e] at hR
      exact ⟨room_mono hR, (Dk.room_spec.1 hR).2⟩
    generalize hS : D.size s.data.toList = S at *
    obtain ⟨M, hM⟩ : ∃ M : Nat, M = S + b.length := ⟨_, rfl⟩
    have hw1 : IntKind.i64.wrap ((S : Int) + (b.length : Int)) = (M : Int) := by rw [IntWalk.i64_in _ (by omega)]; omega
    rw [← hM] at hR
    have hM2 : M ≤ 1099511627776 := by omega
    have HS := Lib.hid hS; have HR := Lib.hid hR; have HM := Lib.hid hM; have HRR := Lib.hid hr; have HDEF := Lib.hid hdef; have HRM := Lib.hid hRm; have HNM := Lib.hid hnm
    clear hS hR hM hr hdef hRm hnm
    unfold boxes3 Bx at *
    have hnb : ∀ k, w.heap.size ≤ k → k ∉ dbl d mb av fbs := fun k hk hm => by have := hlt k hm; omega
    have HNB := Lib.hid hnb; have HXF := Lib.hid hxF; have HXW := Lib.hid hxW; have HHW := Lib.hid hW; have HD := Lib.hid hDD; have HEW := Lib.hid eW
    clear hnb hxF hlt hx h hxW hDD
    by_cases hbig : D.lim < b.length
    · have hbi : (D.lim : Int) < (b.length : Int) := by omega
      have hRf : R = false := by
        cases hq : R with
        | false => rfl
        | true => have := (HRM.out hq).1; omega
      go_enter Try.func20, Try.ntmps20
      go_wp2_with (go_at_call 57; refine (refuses_at _ d mb av fbs D hW s hs).mono ?_; rintro e w' ⟨rfl, rfl⟩; rw [HRR.out])
      go_quiet (fail)
      go_wp2_with fail
      go_ret
      rw [HDEF.out, hRf]
      exact Acted.same HD.out (eW.drewN nq) 62
    · have hbi : ¬ (D.lim : Int) < (b.length : Int) := by omega
      have hbd : decide ((D.lim : Int) < (b.length : Int)) = false := decide_eq_false hbi
      go_enter Try.func20, Try.ntmps20
      go_wp2_with (go_at_call 57; refine (refuses_at _ d mb av fbs D hW s hs).mono ?_; rintro e w' ⟨rfl, rfl⟩; rw [HRR.out])
      go_quiet ((first
        | (go_at_call 59; exact Calls.quiet_of_same (size_q _ d mb av fbs D (hW.drewN _) s hs S HS))
        | (go_at_call 58; exact Calls.quiet_of (holds_q _ d mb av fbs D (hW.drewN _) s hs M hM2 R HR))))
      cases hRv : R
      · subst hRv
        go_wp2_with fail
        go_ret
        rw [HDEF.out]
        exact Acted.same HD.out (eW.drewN nq) 62
      · subst hRv
        have hrm := HRM.out rfl
        have e1 := eW.drewN nq
        have hH := append_H (W := (boxes3 w (.pointer (some ⟨d, 0, none⟩)) (.string s) (.slice ax b.length cx) 22 9 31).drewN nq) (pd := w.heap.size) (pn := w.heap.size + 1) (pb := w.heap.size + 1 + 1) (av := av) hs b1 b2 b3 (HXW.out.drewN nq) (fun k hk => HXF.out k hk) (HNB.out _ (Nat.le_refl _)) (HNB.out _ (by omega)) (HNB.out _ (by omega)) hrm.1 HNM.out.1 hrm.2
        unfold boxes3 at hH
        have HH := Lib.hid hH
        clear hH
        go_wp2_with fail
        refine (number_any _ d mb av fbs D (hW.drewN nq) hc _ (.inl rfl) _ (Dk.addTo s.data.toList b) HH.out).mono ?_
        rintro e w2 ⟨rfl, hN⟩
        go_wp2_with fail
        go_ret
        rw [HDEF.out, if_pos trivial]
        exact Numbered.acted e1 ⟨rfl, hN⟩
  · have hdef : D.append s.data.toList b = (D, D.refuse s.data.toList) := by unfold Dk.append; rw [if_pos hr]
    have HDEF := Lib.hid hdef
    generalize hR : D.refuse s.data.toList = R at *
    have HRR := Lib.hid hR
    have hne : (R != 0) = true := by rw [bne_iff_ne]; exact hr
    clear hr hR hdef
    unfold boxes3 Bx at *
    clear hxF hlt hx hxW h
    go_enter Try.func20, Try.ntmps20
    go_wp2_with (go_at_call 57; refine (refuses_at _ d mb av fbs D hW s hs).mono ?_; rintro e w' ⟨rfl, rfl⟩; rw [HRR.out])
    go_ret
    rw [HDEF.out]
    exact Acted.same hDD eW _
end Go.Proofs.Ytnppneilbkmnfaa
namespace Go.Proofs.Ytnppneilbkmnfaa
open Go.RowKit

theorem Bx.new (w : World) (v : Value) (t : TypeId) : Bx (w.alloc (.cells #[v] t (0, 0))) w.heap.size v := (At.new w [v] t).cell 0 rfl
theorem Bx.ext {F : Nat → Prop} {w w' : World} {p : Nat} {v : Value} (h : Bx w p v) (e : Ext F w w') (hp : ¬ F p) : Bx w' p v := e.cell h hp
theorem Bx.alloc {w : World} {p : Nat} {v : Value} (h : Bx w p v) (o : Obj) : Bx (w.alloc o) p v := h.ext (F := Nil) ((Ext.refl _ _).alloc o) fun h => h

theorem replace_H {W : World} {d mb : Nat} {av : Value} {fbs : List FB} {D : Dk} {pd pn pb : Nat} {s : ByteArray} (hs : s.size ≤ maxLen) {x : Value} {b : List UInt8} (hd : Bx W pd (.pointer (some ⟨d, 0, none⟩))) (hn : Bx W pn (.string s)) (hb : Bx W pb x) (hx : Bytes W x b) (hxF : ∀ k, inFoot x k → k ∉ dbl d mb av fbs)
    (hpd : pd ∉ dbl d mb av fbs) (hpn : pn ∉ dbl d mb av fbs) (hpb : pb ∉ dbl d mb av fbs) (hroom : D.room s.data.toList b.length = true) (hnm : nmOk s.data.toList = true) (hbl : b.length ≤ 1099511627776) :
    ∀ w1 av1, Ext (fun k => k = d ∨ inFoot av k) W w1 → (∀ k, inFoot av1 k → inFoot av k) → DAt w1 d mb av1 fbs D.tick → Calls Try.prog 88 #[.pointer (some ⟨pd, 0, none⟩), .pointer (some ⟨pn, 0, none⟩), .pointer (some ⟨pb, 0, none⟩)] w1 (Did w1 d mb av1 fbs (D.tick.put ⟨s.data.toList, b, b.length⟩)) := by
  intro w1 av1 e hsub h1
  exact replace_do w1 d mb av1 fbs D.tick h1 pd pn pb s hs x b (hd.ext e (dbl_touch hpd)) (hn.ext e (dbl_touch hpn)) (hb.ext e (dbl_touch hpb)) (hx.ext e fun k hk => dbl_touch (hxF k hk))
    (fun h => hpd (dbl_sub hsub _ h)) (fun h => hpn (dbl_sub hsub _ h)) (fun h => hpb (dbl_sub hsub _ h)) hnm hroom hbl

theorem replace_nil_m (w : World) (s : ByteArray) (ax : Option Addr) (n c : Nat) : Calls Try.prog 52 #[.pointer none, .string s, .slice ax n c] w fun e w' => e = .returned (.int .i64 1) ∧ Ext Nil w w' := by
  go_enter Try.func52, Try.ntmps52
  go_wp2_with (go_at_call 57; refine (refuses_nil _ s).mono ?_; rintro e w' ⟨rfl, rfl⟩)
  go_ret
  exact ⟨rfl, (((Ext.refl _ _).alloc _).alloc _).alloc _⟩

set_option maxRecDepth 20000 in
set_option maxHeartbeats 1000000 in
theorem replace_m (w : World) (d : Nat) (D : Dk) (F : Nat → Prop) (hD : Disk w d D F) (hc : D.calls ≤ 1099511627776) (s : ByteArray) (hs : s.size ≤ maxLen) (x : Value) (b : List UInt8) (hx : Bytes w x b) (hxF : ∀ k, inFoot x k → ¬ F k) (hb : b.length ≤ 549755813888) :
    Calls Try.prog 52 #[.pointer (some ⟨d, 0, none⟩), .string s, x] w (Acted w d F (D.replace s.data.toList b)) := by
  obtain ⟨mb, av, fbs, h, rfl⟩ := hD
  obtain ⟨ax, cx, rfl, hcx, hmx, -⟩ := hx.open
  obtain ⟨eW, b1, b2, b3⟩ := boxes3_facts w (.pointer (some ⟨d, 0, none⟩)) (.string s) (.slice ax b.length cx) 22 9 31
  have hW := h.ext eW fun _ _ h => h
  have hxW := hx.ext eW fun _ _ h => h
  have hlt := h.lt
  have hDD : Disk w d D (· ∈ dbl d mb av fbs) := ⟨mb, av, fbs, h, rfl⟩
  by_cases hr : D.refuse s.data.toList = 0
  · have hdef : D.replace s.data.toList b = if D.room s.data.toList b.length then D.num (Dk.put · ⟨s.data.toList, b, b.length⟩) else (D, 62) := by
      unfold Dk.replace
      rw [if_neg (by simp [hr])]
    have hnm : nmOk s.data.toList = true := by
      unfold Dk.refuse at hr
      cases h1 : D.off <;> cases h2 : nmOk s.data.toList <;> simp [h1, h2] at hr ⊢
    generalize hR : D.room s.data.toList b.length = R at *
    have hnb : ∀ k, w.heap.size ≤ k → k ∉ dbl d mb av fbs := fun k hk hm => by have := hlt k hm; omega
    have HR := Lib.hid hR; have HRR := Lib.hid hr; have HDEF := Lib.hid hdef; have HNM := Lib.hid hnm
    have HNB := Lib.hid hnb; have HXF := Lib.hid hxF; have HXW := Lib.hid hxW; have HD := Lib.hid hDD; have HEW := Lib.hid eW
    clear hR hr hdef hnm hnb hxF hlt hx h hxW hDD
    unfold boxes3 Bx at *
    cases hRv : R
    · subst hRv
      go_enter Try.func52, Try.ntmps52
      go_wp2_with (first
        | (go_at_call 57; refine (refuses_at _ d mb av fbs D hW s hs).mono ?_; rintro e w' ⟨rfl, rfl⟩; rw [HRR.out])
        | (go_at_call 58; refine (holds_q _ d mb av fbs D hW s hs b.length (by omega) false HR).mono ?_; rintro e w' ⟨rfl, q, rfl⟩))
      go_ret
      rw [HDEF.out]
      exact Acted.same HD.out (eW.drewN q) 62
    · subst hRv
      go_enter Try.func52, Try.ntmps52
      go_wp2_with (first
        | (go_at_call 57; refine (refuses_at _ d mb av fbs D hW s hs).mono ?_; rintro e w' ⟨rfl, rfl⟩; rw [HRR.out])
        | (go_at_call 58; refine (holds_q _ d mb av fbs D hW s hs b.length (by omega) true HR).mono ?_; rintro e w' ⟨rfl, q, rfl⟩))
      have e1 := eW.drewN q
      have hH := replace_H (W := (boxes3 w (.pointer (some ⟨d, 0, none⟩)) (.string s) (.slice ax b.length cx) 22 9 31).drewN q) (pd := w.heap.size) (pn := w.heap.size + 1) (pb := w.heap.size + 1 + 1) (av := av) (D := D) hs b1 b2 b3 (HXW.out.drewN q) (fun k hk => HXF.out k hk) (HNB.out _ (Nat.le_refl _)) (HNB.out _ (by omega)) (HNB.out _ (by omega)) HR.out HNM.out (by omega)
      unfold boxes3 at hH
      refine (number_any _ d mb av fbs D (hW.drewN q) hc _ (.inr (.inr (.inl rfl))) _ (Dk.put · ⟨s.data.toList, b, b.length⟩) hH).mono ?_
      rintro e w2 ⟨rfl, hN⟩
      clear hH
      go_wp2_with fail
      go_ret
      rw [HDEF.out, if_pos trivial]
      exact Numbered.acted e1 ⟨rfl, hN⟩
  · have hdef : D.replace s.data.toList b = (D, D.refuse s.data.toList) := by unfold Dk.replace; rw [if_pos hr]
    have HDEF := Lib.hid hdef
    generalize hR : D.refuse s.data.toList = R at *
    have HRR := Lib.hid hR
    have hne : (R != 0) = true := by rw [bne_iff_ne]; exact hr
    clear hr hR hdef
    unfold boxes3 Bx at *
    clear hxF hlt hx hxW h
    go_enter Try.func52, Try.ntmps52
    go_wp2_with (go_at_call 57; refine (refuses_at _ d mb av fbs D hW s hs).mono ?_; rintro e w' ⟨rfl, rfl⟩; rw [HRR.out])
    go_ret
    rw [HDEF.out]
    exact Acted.same hDD eW _

theorem sync_nil_m (w : World) (s : ByteArray) : Calls Try.prog 65 #[.pointer none, .string s] w fun e w' => e = .returned (.int .i64 1) ∧ Ext Nil w w' := by
  go_enter Try.func65, Try.ntmps65
  go_wp2_with (go_at_call 69; refine (find_nil _ s).mono ?_; rintro e w' ⟨rfl, rfl⟩)
  go_ret
  exact ⟨rfl, (Ext.refl _ _).alloc _⟩

theorem seek_zero {D : Dk} {s : Nm} (h : D.seek s = 0) : D.refuse s = 0 ∧ ∃ f, D.find s = some f := by
  unfold Dk.seek at h
  by_cases hr : D.refuse s = 0
  · rw [if_neg (by simp [hr])] at h
    cases hf : D.find s with
    | none => rw [hf] at h; simp at h
    | some f => exact ⟨hr, f, rfl⟩
  · rw [if_pos hr] at h
    exact absurd h hr

set_option maxRecDepth 20000 in
set_option maxHeartbeats 1000000 in
theorem sync_m (w : World) (d : Nat) (D : Dk) (F : Nat → Prop) (hD : Disk w d D F) (hc : D.calls ≤ 1099511627776) (s : ByteArray) (hs : s.size ≤ maxLen) :
    Calls Try.prog 65 #[.pointer (some ⟨d, 0, none⟩), .string s] w (Acted w d F (D.sync s.data.toList)) := by
  obtain ⟨mb, av, fbs, h, rfl⟩ := hD
  have hlt := h.lt
  have hDD : Disk w d D (· ∈ dbl d mb av fbs) := ⟨mb, av, fbs, h, rfl⟩
  by_cases hr : D.seek s.data.toList = 0
  · have hdef : D.sync s.data.toList = D.num (Dk.syncIt s.data.toList) := by
      unfold Dk.sync
      rw [if_neg (by simp [hr])]
    obtain ⟨-, f, hf⟩ := seek_zero hr
    have hfd := h.find s.data.toList
    rw [hf] at hfd
    cases hfx : findK FB.nm s.data.toList fbs with
    | none => rw [hfx] at hfd; cases hfd
    | some x =>
      rw [hfx] at hfd
      have hfo : found s.data.toList fbs D = .pointer (some ⟨x.blk, 0, none⟩) := by unfold found fileAt; rw [if_pos hr, hfx]
      have eW : Ext Nil w (w.alloc (.cells #[.pointer (some ⟨x.blk, 0, none⟩)] 113 (0, 0))) := (Ext.refl _ _).alloc _
      have hW := h.ext eW fun _ _ h => h
      have b1 := Bx.new w (.pointer (some ⟨x.blk, 0, none⟩)) 113
      have hH : ∀ w1 av1, Ext (fun k => k = d ∨ inFoot av k) (w.alloc (.cells #[.pointer (some ⟨x.blk, 0, none⟩)] 113 (0, 0))) w1 → (∀ k, inFoot av1 k → inFoot av k) → DAt w1 d mb av1 fbs D.tick → Calls Try.prog 94 #[.pointer (some ⟨w.heap.size, 0, none⟩)] w1 (Did w1 d mb av1 fbs (Dk.syncIt s.data.toList D.tick)) := by
        intro w1 av1 e hsub h1
        have hpf : w.heap.size ∉ dbl d mb av fbs := fun hm => by have := hlt _ hm; omega
        have hf1 := h1.find s.data.toList
        rw [hfx] at hf1
        have e1 : Dk.syncIt s.data.toList D.tick = D.tick.put ⟨s.data.toList, x.f.b, x.f.b.length⟩ := by unfold Dk.syncIt; rw [hf1]; rfl
        rw [e1]
        exact sync_do w1 d mb av1 fbs D.tick h1 w.heap.size s.data.toList x hfx (b1.ext e (dbl_touch hpf)) fun hm => hpf (dbl_sub hsub _ hm)
      have HFO := Lib.hid hfo; have HR := Lib.hid hr; have HDEF := Lib.hid hdef; have HH := Lib.hid hH; have HW := Lib.hid hW; have HHH := Lib.hid h
      clear hfo hr hdef hH hlt hfx hfd hf b1
      go_enter Try.func65, Try.ntmps65
      go_wp2_with (go_at_call 69; refine (find_at w d mb av fbs D h s hs).mono ?_; rintro e w' ⟨rfl, rfl⟩; rw [HFO.out, HR.out])
      refine (number_any _ d mb av fbs D HW.out hc _ (.inr (.inl rfl)) _ (Dk.syncIt s.data.toList) HH.out).mono ?_
      rintro e w2 ⟨rfl, hN⟩
      go_wp2_with fail
      go_ret
      rw [HDEF.out]
      exact Numbered.acted eW ⟨rfl, hN⟩
  · have hdef : D.sync s.data.toList = (D, D.seek s.data.toList) := by unfold Dk.sync; rw [if_pos hr]
    have hfo : found s.data.toList fbs D = .pointer none := if_neg hr
    have HDEF := Lib.hid hdef; have HFO := Lib.hid hfo
    generalize hR : D.seek s.data.toList = R at *
    have HRR := Lib.hid hR
    have hne : (R != 0) = true := by rw [bne_iff_ne]; exact hr
    clear hr hR hdef hlt hfo
    go_enter Try.func65, Try.ntmps65
    go_wp2_with (go_at_call 69; refine (find_at w d mb av fbs D h s hs).mono ?_; rintro e w' ⟨rfl, rfl⟩; rw [HFO.out, HRR.out])
    go_ret
    rw [HDEF.out]
    exact Acted.same hDD ((Ext.refl _ _).alloc _) _
end Go.Proofs.Ytnppneilbkmnfaa
namespace Go.Proofs.Ytnppneilbkmnfaa
open Go.RowKit

theorem remove_nil_m (w : World) (s : ByteArray) : Calls Try.prog 67 #[.pointer none, .string s] w fun e w' => e = .returned (.int .i64 1) ∧ Ext Nil w w' := by
  go_enter Try.func67, Try.ntmps67
  go_wp2_with (go_at_call 69; refine (find_nil _ s).mono ?_; rintro e w' ⟨rfl, rfl⟩)
  go_ret
  exact ⟨rfl, ((Ext.refl _ _).alloc _).alloc _⟩
theorem cut_nil_m (w : World) (s : ByteArray) (n : Int) : Calls Try.prog 66 #[.pointer none, .string s, .int .i64 n] w fun e w' => e = .returned (.int .i64 1) ∧ Ext Nil w w' := by
  go_enter Try.func66, Try.ntmps66
  go_wp2_with (go_at_call 69; refine (find_nil _ s).mono ?_; rintro e w' ⟨rfl, rfl⟩)
  go_ret
  exact ⟨rfl, ((((Ext.refl _ _).alloc _).alloc _).alloc _).alloc _⟩
theorem seek_at {w : World} {d mb : Nat} {av : Value} {fbs : List FB} {D : Dk} (h : DAt w d mb av fbs D) {s : Nm} (hr : D.seek s = 0) :
    ∃ x, findK FB.nm s fbs = some x ∧ D.find s = some x.f ∧ found s fbs D = .pointer (some ⟨x.blk, 0, none⟩) ∧ nmOk s = true := by
  obtain ⟨hr0, f, hf⟩ := seek_zero hr
  have hfd := h.find s
  rw [hf] at hfd
  cases hfx : findK FB.nm s fbs with
  | none => rw [hfx] at hfd; cases hfd
  | some x =>
    rw [hfx] at hfd
    refine ⟨x, rfl, hf.trans hfd, by unfold found fileAt; rw [if_pos hr, hfx], ?_⟩
    unfold Dk.refuse at hr0
    cases h1 : D.off <;> cases h2 : nmOk s <;> simp [h1, h2] at hr0 ⊢

set_option maxRecDepth 20000 in
set_option maxHeartbeats 1000000 in
theorem remove_m (w : World) (d : Nat) (D : Dk) (F : Nat → Prop) (hD : Disk w d D F) (hc : D.calls ≤ 1099511627776) (s : ByteArray) (hs : s.size ≤ maxLen) :
    Calls Try.prog 67 #[.pointer (some ⟨d, 0, none⟩), .string s] w (Acted w d F (D.remove s.data.toList)) := by
  obtain ⟨mb, av, fbs, h, rfl⟩ := hD
  have hlt := h.lt
  have hDD : Disk w d D (· ∈ dbl d mb av fbs) := ⟨mb, av, fbs, h, rfl⟩
  have eW : Ext Nil w ((w.alloc (.cells #[.pointer (some ⟨d, 0, none⟩)] 22 (0, 0))).alloc (.cells #[.string s] 9 (0, 0))) := ((Ext.refl _ _).alloc _).alloc _
  have hW := h.ext eW fun _ _ h => h
  by_cases hr : D.seek s.data.toList = 0
  · have hdef : D.remove s.data.toList = D.num (Dk.del · s.data.toList) := by
      unfold Dk.remove
      rw [if_neg (by simp [hr])]
    obtain ⟨x, hfx, hf, hfo, -⟩ := seek_at h hr
    have b1 := (Bx.new w (.pointer (some ⟨d, 0, none⟩)) 22).alloc (.cells #[.string s] 9 (0, 0))
    have b2 := Bx.new (w.alloc (.cells #[.pointer (some ⟨d, 0, none⟩)] 22 (0, 0))) (.string s) 9
    have hsz : (w.alloc (.cells #[.pointer (some ⟨d, 0, none⟩)] 22 (0, 0))).heap.size = w.heap.size + 1 := by simp
    rw [hsz] at b2
    have hH : ∀ w1 av1, Ext (fun k => k = d ∨ inFoot av k) ((w.alloc (.cells #[.pointer (some ⟨d, 0, none⟩)] 22 (0, 0))).alloc (.cells #[.string s] 9 (0, 0))) w1 → (∀ k, inFoot av1 k → inFoot av k) → DAt w1 d mb av1 fbs D.tick → Calls Try.prog 96 #[.pointer (some ⟨w.heap.size, 0, none⟩), .pointer (some ⟨w.heap.size + 1, 0, none⟩)] w1 (Did w1 d mb av1 fbs (Dk.del D.tick s.data.toList)) := by
      intro w1 av1 e hsub h1
      have p1 : w.heap.size ∉ dbl d mb av fbs := fun hm => by have := hlt _ hm; omega
      have p2 : w.heap.size + 1 ∉ dbl d mb av fbs := fun hm => by have := hlt _ hm; omega
      exact remove_do w1 d mb av1 fbs D.tick h1 _ _ s hs x hfx (b1.ext e (dbl_touch p1)) (b2.ext e (dbl_touch p2)) (fun hm => p1 (dbl_sub hsub _ hm)) fun hm => p2 (dbl_sub hsub _ hm)
    have HFO := Lib.hid hfo; have HR := Lib.hid hr; have HDEF := Lib.hid hdef; have HH := Lib.hid hH
    clear hfo hr hdef hH hlt hfx hf b1 b2 hsz h
    go_enter Try.func67, Try.ntmps67
    go_wp2_with (go_at_call 69; refine (find_at _ d mb av fbs D hW s hs).mono ?_; rintro e w' ⟨rfl, rfl⟩; rw [HFO.out, HR.out])
    refine (number_any _ d mb av fbs D hW hc _ (.inr (.inr (.inr (.inr rfl)))) _ (Dk.del · s.data.toList) HH.out).mono ?_
    rintro e w2 ⟨rfl, hN⟩
    go_wp2_with fail
    go_ret
    rw [HDEF.out]
    exact Numbered.acted eW ⟨rfl, hN⟩
  · have hdef : D.remove s.data.toList = (D, D.seek s.data.toList) := by unfold Dk.remove; rw [if_pos hr]
    have hfo : found s.data.toList fbs D = .pointer none := if_neg hr
    have HDEF := Lib.hid hdef; have HFO := Lib.hid hfo
    generalize hR : D.seek s.data.toList = R at *
    have HRR := Lib.hid hR
    have hne : (R != 0) = true := by rw [bne_iff_ne]; exact hr
    clear hr hR hdef hlt hfo
    go_enter Try.func67, Try.ntmps67
    go_wp2_with (go_at_call 69; refine (find_at _ d mb av fbs D hW s hs).mono ?_; rintro e w' ⟨rfl, rfl⟩; rw [HFO.out, HRR.out])
    go_ret
    rw [HDEF.out]
    exact Acted.same hDD eW _

/-- four boxes -/
def boxes4 (w : World) (v1 v2 v3 v4 : Value) (t1 t2 t3 t4 : TypeId) : World := (boxes3 w v1 v2 v3 t1 t2 t3).alloc (.cells #[v4] t4 (0, 0))
theorem boxes4_facts (w : World) (v1 v2 v3 v4 : Value) (t1 t2 t3 t4 : TypeId) : Ext Nil w (boxes4 w v1 v2 v3 v4 t1 t2 t3 t4) ∧ Bx (boxes4 w v1 v2 v3 v4 t1 t2 t3 t4) w.heap.size v1 ∧ Bx (boxes4 w v1 v2 v3 v4 t1 t2 t3 t4) (w.heap.size + 1) v2 ∧ Bx (boxes4 w v1 v2 v3 v4 t1 t2 t3 t4) (w.heap.size + 1 + 1) v3 ∧ Bx (boxes4 w v1 v2 v3 v4 t1 t2 t3 t4) (w.heap.size + 1 + 1 + 1) v4 := by
  obtain ⟨e, h1, h2, h3⟩ := boxes3_facts w v1 v2 v3 t1 t2 t3
  have h4 := Bx.new (boxes3 w v1 v2 v3 t1 t2 t3) v4 t4
  have hs : (boxes3 w v1 v2 v3 t1 t2 t3).heap.size = w.heap.size + 1 + 1 + 1 := by simp [boxes3]
  rw [hs] at h4
  exact ⟨e.alloc _, h1.alloc _, h2.alloc _, h3.alloc _, h4⟩

set_option maxRecDepth 20000 in
set_option maxHeartbeats 1000000 in
theorem cut_m (w : World) (d : Nat) (D : Dk) (F : Nat → Prop) (hD : Disk w d D F) (hc : D.calls ≤ 1099511627776) (s : ByteArray) (hs : s.size ≤ maxLen) (n : Int) :
    Calls Try.prog 66 #[.pointer (some ⟨d, 0, none⟩), .string s, .int .i64 n] w (Acted w d F (D.cut s.data.toList n)) := by
  obtain ⟨mb, av, fbs, h, rfl⟩ := hD
  have hlt := h.lt
  have hDD : Disk w d D (· ∈ dbl d mb av fbs) := ⟨mb, av, fbs, h, rfl⟩
  have e3 := (boxes3_facts w (.pointer (some ⟨d, 0, none⟩)) (.string s) (.int .i64 n) 22 9 3).1
  have hW3 := h.ext e3 fun _ _ h => h
  by_cases hr : D.seek s.data.toList = 0
  · obtain ⟨x, hfx, hf, hfo, hnm⟩ := seek_at h hr
    obtain ⟨eW, b1, b2, b3, b4⟩ := boxes4_facts w (.pointer (some ⟨d, 0, none⟩)) (.string s) (.int .i64 n) (.pointer (some ⟨x.blk, 0, none⟩)) 22 9 3 113
    have hW := h.ext eW fun _ _ h => h
    have hx := h.files x (findK_some _ hfx).1
    have f0 := (hx.1.ext eW fun h => h).cell 0 rfl
    obtain ⟨ao, cap, hv, hcap, hcm⟩ := hx.2.shape
    rw [hv] at f0
    have hxlt := hx.1.lt
    have hsz : D.size s.data.toList = x.f.b.length := Dk.size_some hf
    have hdef : D.cut s.data.toList n = if n < 0 ∨ (x.f.b.length : Int) < n then (D, 2) else D.num (Dk.cutTo s.data.toList n.toNat) := by
      unfold Dk.cut
      rw [if_neg (by simp [hr]), hsz]
    have hmem := (findK_some _ hf).1
    have hbl := sumF_mem hmem
    have hul := h.wf.used
    have hl1 := h.wf.lim1
    have hH : ∀ m : Nat, n = (m : Int) → m ≤ x.f.b.length → ∀ q, ∀ w1 av1, Ext (fun k => k = d ∨ inFoot av k) ((boxes4 w (.pointer (some ⟨d, 0, none⟩)) (.string s) (.int .i64 n) (.pointer (some ⟨x.blk, 0, none⟩)) 22 9 3 113).drewN q) w1 → (∀ k, inFoot av1 k → inFoot av k) → DAt w1 d mb av1 fbs D.tick →
        Calls Try.prog 95 #[.pointer (some ⟨w.heap.size, 0, none⟩), .pointer (some ⟨w.heap.size + 1, 0, none⟩), .pointer (some ⟨w.heap.size + 1 + 1 + 1, 0, none⟩), .pointer (some ⟨w.heap.size + 1 + 1, 0, none⟩)] w1 (Did w1 d mb av1 fbs (Dk.cutTo s.data.toList n.toNat D.tick)) := by
      intro m hm hml q w1 av1 e hsub h1
      have p1 : w.heap.size ∉ dbl d mb av fbs := fun hm => by have := hlt _ hm; omega
      have p2 : w.heap.size + 1 ∉ dbl d mb av fbs := fun hm => by have := hlt _ hm; omega
      have p3 : w.heap.size + 1 + 1 ∉ dbl d mb av fbs := fun hm => by have := hlt _ hm; omega
      have p4 : w.heap.size + 1 + 1 + 1 ∉ dbl d mb av fbs := fun hm => by have := hlt _ hm; omega
      have hf1 := h1.find s.data.toList
      rw [hfx] at hf1
      subst hm
      have e1 : Dk.cutTo s.data.toList (m : Int).toNat D.tick = D.tick.put ⟨s.data.toList, x.f.b.take m, m⟩ := by unfold Dk.cutTo; rw [hf1, Int.toNat_natCast]; rfl
      rw [e1]
      have g1 : Bx _ _ _ := (b1.ext (F := Nil) ((Ext.refl Nil _).drewN q) fun h => h).ext e (dbl_touch p1)
      have g2 : Bx _ _ _ := (b2.ext (F := Nil) ((Ext.refl Nil _).drewN q) fun h => h).ext e (dbl_touch p2)
      have g3 : Bx _ _ _ := (b3.ext (F := Nil) ((Ext.refl Nil _).drewN q) fun h => h).ext e (dbl_touch p3)
      have g4 : Bx _ _ _ := (b4.ext (F := Nil) ((Ext.refl Nil _).drewN q) fun h => h).ext e (dbl_touch p4)
      exact cut_do w1 d mb av1 fbs D.tick h1 _ _ _ _ s hs x hfx m hml g1 g2 g4 g3 (fun hm => p1 (dbl_sub hsub _ hm)) (fun hm => p2 (dbl_sub hsub _ hm)) (fun hm => p4 (dbl_sub hsub _ hm)) (fun hm => p3 (dbl_sub hsub _ hm)) hnm
    generalize hB : x.f.b.length = L at *
    have HFO := Lib.hid hfo; have HR := Lib.hid hr; have HDEF := Lib.hid hdef; have HH := Lib.hid hH
    clear hfo hr hdef hH hlt hfx hf b1 b2 b3 b4 hsz h hx hv hnm hB
    unfold boxes4 at *
    unfold boxes3 at *
    by_cases hn0 : n < 0
    · go_enter Try.func66, Try.ntmps66
      go_wp2_with (go_at_call 69; refine (find_at _ d mb av fbs D hW3 s hs).mono ?_; rintro e w' ⟨rfl, rfl⟩; rw [HFO.out, HR.out])
      go_quiet (fail)
      go_wp2_with fail
      go_ret
      rw [HDEF.out, if_pos (.inl hn0)]
      exact Acted.same hDD (eW.drewN nq) 2
    · have hd0 : decide (n < 0) = false := decide_eq_false hn0
      have hn00 : 0 ≤ n := by omega
      by_cases hn1 : (L : Int) < n
      · go_enter Try.func66, Try.ntmps66
        go_wp2_with (go_at_call 69; refine (find_at _ d mb av fbs D hW3 s hs).mono ?_; rintro e w' ⟨rfl, rfl⟩; rw [HFO.out, HR.out])
        go_quiet (fail)
        go_wp2_with fail
        go_ret
        rw [HDEF.out, if_pos (.inr hn1)]
        exact Acted.same hDD (eW.drewN nq) 2
      · have hd1 : decide ((L : Int) < n) = false := decide_eq_false hn1
        obtain ⟨m, hm⟩ := Int.eq_ofNat_of_zero_le hn00
        have H2 := HH.out m hm (by omega)
        have H3 := Lib.hid H2
        clear H2 HH
        have HM := Lib.hid hm
        clear hm
        go_enter Try.func66, Try.ntmps66
        go_wp2_with (go_at_call 69; refine (find_at _ d mb av fbs D hW3 s hs).mono ?_; rintro e w' ⟨rfl, rfl⟩; rw [HFO.out, HR.out])
        go_quiet (fail)
        go_wp2_with fail
        refine (number_any _ d mb av fbs D (hW.drewN nq) hc _ (.inr (.inr (.inr (.inl rfl)))) _ (Dk.cutTo s.data.toList n.toNat) (H3.out nq)).mono ?_
        rintro e w2 ⟨rfl, hN⟩
        have e1 := eW.drewN nq
        go_wp2_with fail
        go_ret
        rw [HDEF.out, if_neg (by omega)]
        exact Numbered.acted e1 ⟨rfl, hN⟩
  · have hdef : D.cut s.data.toList n = (D, D.seek s.data.toList) := by unfold Dk.cut; rw [if_pos hr]
    have hfo : found s.data.toList fbs D = .pointer none := if_neg hr
    have eW := (boxes4_facts w (.pointer (some ⟨d, 0, none⟩)) (.string s) (.int .i64 n) (.pointer none) 22 9 3 113).1
    have HDEF := Lib.hid hdef; have HFO := Lib.hid hfo
    generalize hR : D.seek s.data.toList = R at *
    have HRR := Lib.hid hR
    have hne : (R != 0) = true := by rw [bne_iff_ne]; exact hr
    clear hr hR hdef hlt hfo
    unfold boxes4 at *
    unfold boxes3 at *
    go_enter Try.func66, Try.ntmps66
    go_wp2_with (go_at_call 69; refine (find_at _ d mb av fbs D hW3 s hs).mono ?_; rintro e w' ⟨rfl, rfl⟩; rw [HFO.out, HRR.out])
    go_ret
    rw [HDEF.out]
    exact Acted.same hDD eW _
end Go.Proofs.Ytnppneilbkmnfaa
