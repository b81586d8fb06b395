/- Auxiliary: what it is that a disk of the program stands at a block (its map of files, the files, the troubles), and what may be turned beside it. No condition. -/
import Derived.Test.YtnppneilbkmnfaaDm
import Derived.Test.YtnppneilbkmnfaaRefW
import Derived.Maps.OwnSet
import Derived.StringKeys
namespace Go.Proofs.Ytnppneilbkmnfaa
open Go.RowKit

/-- a file, where it lies -/
structure FB where
  f : FileM
  blk : Nat
  v : Value
namespace FB
def nm (x : FB) : Nm := x.f.nm
end FB
def footL (v : Value) : List Nat := (foot v).toList
theorem mem_footL {v : Value} {k : Nat} : k ∈ footL v ↔ inFoot v k := by
  unfold footL inFoot
  cases foot v <;> simp
  exact eq_comm
theorem footL_nodup (v : Value) : (footL v).Nodup := by
  unfold footL
  cases foot v <;> simp

/-! ### the map -/
def ptrElem : Value → Option (DataW Unit × List MemPlace)
  | .pointer none => some (.nil, [])
  | .pointer (some ⟨b, 0, none⟩) => some (.lit (.int .u64 b), [])
  | _ => none
theorem ptrElem_nil {v : Value} {ps : List MemPlace} (h : ptrElem v = some (.nil, ps)) : v = .pointer none := by
  unfold ptrElem at h
  split at h
  · rfl
  · simp at h
  · cases h
theorem ptrElem_at {v : Value} {b : Nat} {ps : List MemPlace} (h : ptrElem v = some (.lit (.int .u64 b), ps)) : v = .pointer (some ⟨b, 0, none⟩) := by
  unfold ptrElem at h
  split at h
  · simp at h
  · simp only [Option.some.injEq, Prod.mk.injEq, DataW.lit.injEq, Lit.int.injEq, true_and] at h
    have := h.1
    congr 3
    omega
  · cases h
def ent (x : FB) : Lit × DataW Unit := (.string x.f.nm, .lit (.int .u64 x.blk))
def mapD (l : List FB) : DataW Unit := .map (l.map ent)
def fileAt (s : Nm) (l : List FB) : Value := match findK FB.nm s l with | some x => .pointer (some ⟨x.blk, 0, none⟩) | none => .pointer none
def MapAt (w : World) (mb : Nat) (l : List FB) : Prop := w.ownsMap Try.prog 9 ptrElem mb l.length (mapD l)

theorem ent_insert (x : FB) : ∀ l : List FB, DataW.insert (ent x) (l.map ent) = (insK FB.nm x l).map ent
  | [] => rfl
  | y :: r => by
    have ih := ent_insert x r
    simp only [List.map_cons, DataW.insert, insK]
    show (if bytesBefore x.f.nm y.f.nm = true then _ else _) = List.map ent (if bytesBefore x.f.nm y.f.nm = true then _ else _)
    split
    · rfl
    · simp only [List.map_cons, ih]
theorem ent_filter (s : Nm) : ∀ l : List FB, (l.map ent).filter (fun p => !p.1.sameKey (.string s)) = (delK FB.nm s l).map ent
  | [] => rfl
  | y :: r => by
    have ih := ent_filter s r
    unfold delK at *
    simp only [List.map_cons, List.filter_cons]
    have e : (ent y).1.sameKey (.string s) = (y.nm == s) := rfl
    rw [e]
    split
    · simp only [List.map_cons, ih]
    · exact ih
theorem mapD_put (x : FB) (l : List FB) : (mapD l).put (.string x.f.nm) (.lit (.int .u64 x.blk)) = mapD (putK FB.nm x l) := by
  show DataW.map (DataW.insert (ent x) ((l.map ent).filter fun p => !p.1.sameKey (.string x.f.nm))) = .map ((insK FB.nm x (delK FB.nm x.nm l)).map ent)
  rw [ent_filter]
  exact congrArg DataW.map (ent_insert x _)
theorem mapD_del (s : Nm) (l : List FB) : (mapD l).del (.string s) = mapD (delK FB.nm s l) := by
  show DataW.map ((l.map ent).filter fun p => !p.1.sameKey (.string s)) = .map ((delK FB.nm s l).map ent)
  rw [ent_filter]
theorem mapD_at (s : Nm) (z : DataW Unit) : ∀ l : List FB, (mapD l).atKey (.string s) z = match findK FB.nm s l with | some x => .lit (.int .u64 x.blk) | none => z
  | [] => rfl
  | y :: r => by
    have ih := mapD_at s z r
    unfold mapD DataW.atKey findK at *
    simp only [List.map_cons, List.find?_cons]
    have e : (ent y).1.sameKey (.string s) = (y.nm == s) := rfl
    rw [e]
    cases h : (y.nm == s)
    · simp only []
      exact ih
    · rfl

theorem tight {w : World} {b n : Nat} {es : List (Lit × DataW Unit)} (h : w.ownsMap Try.prog 9 ptrElem b n (.map es)) : w.ownsMap Try.prog 9 ptrElem b es.length (.map es) := by
  obtain ⟨es', clock, h1, h2, h3, h4⟩ := h
  refine ⟨es', clock, h1, h2, ?_, h4⟩
  have := DataW.map.inj h4
  rw [this, length_sorted]
  simp
theorem keyStr : Maps.Keyed Try.prog 9 := Maps.string_keyed Try.underlying9
theorem zeroPtr (w : World) : (zeroValue 113).run Try.prog w = .ok (.pointer none) w := by kernel_rfl

theorem MapAt.look {w : World} {mb : Nat} {l : List FB} (h : MapAt w mb l) (s : ByteArray) (hs : s.size ≤ maxLen) :
    (Instr.lookup 54 (.map (some mb)) (.string s) false).run Try.prog w = .ok (fileAt s.data.toList l) w := by
  obtain ⟨v, ps, hrun, hv⟩ := World.ownsMap.lookup h keyStr Try.underlying54 (zeroPtr w) (zd := .nil) (zp := []) rfl (kl := .string s.data.toList) (WideMaps.keyOf_string_mk Try.underlying9 hs)
  rw [mapD_at] at hv
  rw [hrun]
  unfold fileAt
  cases hf : findK FB.nm s.data.toList l with
  | none => rw [hf] at hv; rw [ptrElem_nil hv]
  | some x => rw [hf] at hv; rw [ptrElem_at hv]
theorem MapAt.ext {F : Nat → Prop} {w w' : World} {mb : Nat} {l : List FB} (h : MapAt w mb l) (e : Ext F w w') (hf : ¬ F mb) : MapAt w' mb l := by
  have hl := World.ownsMap.lt h
  obtain ⟨es', clock, h1, h2⟩ := h
  exact ⟨es', clock, (e.block mb hl hf).trans h1, h2⟩
theorem grown_ext {w w' : World} {b : Nat} (h : w.grownBy w' (some b)) : Ext (One b) w w' := by
  obtain ⟨h1, h2, h3, h4, h5⟩ := h
  exact ⟨h1, h2, h3, h4, fun k hk hne => h5 k hk fun e => hne (Option.some.inj e)⟩
theorem MapAt.put {w : World} {mb : Nat} {l : List FB} (h : MapAt w mb l) (s : ByteArray) (hs : s.size ≤ maxLen) (hn : l.length < maxLen) (x : FB) (hx : x.f.nm = s.data.toList) :
    ∃ w', (Instr.mapUpdate 54 (.map (some mb)) (.string s) (.pointer (some ⟨x.blk, 0, none⟩))).run Try.prog w = .ok () w' ∧ MapAt w' mb (putK FB.nm x l) ∧ Ext (One mb) w w' := by
  obtain ⟨w', hrun, h1, h2⟩ := World.ownsMap.update h keyStr Try.underlying54 hn (kl := .string s.data.toList) (val := .pointer (some ⟨x.blk, 0, none⟩)) (d := .lit (.int .u64 x.blk)) (ps := []) (WideMaps.keyOf_string_mk Try.underlying9 hs) rfl
  rw [← hx, mapD_put] at h1
  have h3 := tight h1
  rw [List.length_map] at h3
  exact ⟨w', hrun, h3, grown_ext h2⟩
theorem MapAt.del {w : World} {mb : Nat} {l : List FB} (h : MapAt w mb l) (s : ByteArray) (hs : s.size ≤ maxLen) (ty : TypeId) :
    ∃ w', (Builtin.delete_ #[54, 9] ty #[.map (some mb), .string s]).run Try.prog w = .ok (.tuple #[]) w' ∧ MapAt w' mb (delK FB.nm s.data.toList l) ∧ Ext (One mb) w w' := by
  obtain ⟨w', hrun, h1, h2⟩ := World.ownsMap.drop h keyStr Try.underlying54 (kl := .string s.data.toList) (WideMaps.keyOf_string_mk Try.underlying9 hs) ty
  rw [mapD_del] at h1
  have h3 := tight h1
  rw [List.length_map] at h3
  exact ⟨w', hrun, h3, grown_ext h2.grown⟩
theorem MapAt.len {w : World} {mb : Nat} {l : List FB} (h : MapAt w mb l) (ty : TypeId) : (Builtin.len_ #[54] ty #[.map (some mb)]).run Try.prog w = .ok (.int .i64 l.length) w := by
  have := World.ownsMap.len h Try.underlying54 ty
  have e : Maps.size (mapD l) = l.length := by unfold mapD; rw [Maps.size_eq, List.length_map]
  rw [e] at this
  exact this

/-! ### the disk -/
def armCells (a : ArmM) : List Value := [.int .i64 a.call, .int .i64 a.tat, .int .i64 a.kind, .bool a.done]
def FB.bl (x : FB) : List Nat := x.blk :: footL x.v
/-- all blocks of a disk -/
def dbl (d mb : Nat) (av : Value) (fbs : List FB) : List Nat := d :: mb :: (footL av ++ fbs.flatMap FB.bl)
def FileOk (w : World) (x : FB) : Prop := At w x.blk 115 [x.v, .int .i64 x.f.sy] ∧ OwnB w x.v x.f.b
structure DAt (w : World) (d mb : Nat) (av : Value) (fbs : List FB) (D : Dk) : Prop where
  cells : At w d 57 [.int .i64 D.lim, .int .i64 D.used, .map (some mb), .bool D.off, .bool D.out, .int .i64 D.calls, av]
  map : MapAt w mb fbs
  arms : Own w 108 4 av D.arms.length (D.arms.flatMap armCells)
  files : ∀ x ∈ fbs, FileOk w x
  same : fbs.map FB.f = D.fs
  nodup : (dbl d mb av fbs).Nodup
  wf : D.Wf

theorem FileOk.ext {F : Nat → Prop} {w w' : World} {x : FB} (h : FileOk w x) (e : Ext F w w') (hf : ∀ k ∈ x.bl, ¬ F k) : FileOk w' x :=
  ⟨h.1.ext e (hf _ (List.mem_cons_self ..)), h.2.ext e fun k hk => hf k (List.mem_cons_of_mem _ (mem_footL.2 hk))⟩
theorem FileOk.lt {w : World} {x : FB} (h : FileOk w x) : ∀ k ∈ x.bl, k < w.heap.size := by
  intro k hk
  rcases List.mem_cons.1 hk with rfl | hk
  · exact h.1.lt
  · exact h.2.lt k (mem_footL.1 hk)
theorem DAt.ext {F : Nat → Prop} {w w' : World} {d mb : Nat} {av : Value} {fbs : List FB} {D : Dk} (h : DAt w d mb av fbs D) (e : Ext F w w') (hf : ∀ k ∈ dbl d mb av fbs, ¬ F k) : DAt w' d mb av fbs D where
  cells := h.cells.ext e (hf d (by simp [dbl]))
  map := h.map.ext e (hf mb (by simp [dbl]))
  arms := h.arms.ext e fun k hk => hf k (by simp [dbl, mem_footL, hk])
  files := fun x hx => (h.files x hx).ext e fun k hk => hf k (by
    simp only [dbl, List.mem_cons, List.mem_append, List.mem_flatMap]
    exact .inr (.inr (.inr ⟨x, hx, hk⟩)))
  same := h.same
  nodup := h.nodup
  wf := h.wf
theorem DAt.lt {w : World} {d mb : Nat} {av : Value} {fbs : List FB} {D : Dk} (h : DAt w d mb av fbs D) : ∀ k ∈ dbl d mb av fbs, k < w.heap.size := by
  intro k hk
  simp only [dbl, List.mem_cons, List.mem_append, List.mem_flatMap] at hk
  rcases hk with rfl | rfl | hk | ⟨x, hx, hk⟩
  · exact h.cells.lt
  · exact World.ownsMap.lt h.map
  · exact h.arms.lt k (mem_footL.1 hk)
  · exact (h.files x hx).lt k hk
theorem DAt.rises {w : World} {d mb : Nat} {av : Value} {fbs : List FB} {D : Dk} (h : DAt w d mb av fbs D) : Rises FB.nm fbs := by
  have := h.wf.rises
  rw [← h.same, rises_map FB.nm FileM.nm FB.f fun _ => rfl] at this
  exact this
theorem DAt.find {w : World} {d mb : Nat} {av : Value} {fbs : List FB} {D : Dk} (h : DAt w d mb av fbs D) (s : Nm) : D.find s = (findK FB.nm s fbs).map FB.f := by
  unfold Dk.find
  rw [← h.same]
  exact findK_map FB.nm FileM.nm FB.f (fun _ => rfl) s fbs
theorem DAt.count {w : World} {d mb : Nat} {av : Value} {fbs : List FB} {D : Dk} (h : DAt w d mb av fbs D) : fbs.length = D.fs.length := by
  rw [← h.same, List.length_map]

/-- some files turned -/
theorem DAt.change {w w' : World} {d mb : Nat} {av : Value} {A X X' B : List FB} {D D' : Dk} (h : DAt w d mb av (A ++ X ++ B) D) (e : Ext (fun k => k = d ∨ k = mb ∨ k ∈ X.flatMap FB.bl) w w')
    (hcells : At w' d 57 [.int .i64 D'.lim, .int .i64 D'.used, .map (some mb), .bool D'.off, .bool D'.out, .int .i64 D'.calls, av]) (hmap : MapAt w' mb (A ++ X' ++ B)) (harms : D'.arms = D.arms)
    (hX : ∀ x ∈ X', FileOk w' x) (hn : (X'.flatMap FB.bl).Nodup) (hk : ∀ k ∈ X'.flatMap FB.bl, k ∈ X.flatMap FB.bl ∨ w.heap.size ≤ k) (hs : (A ++ X' ++ B).map FB.f = D'.fs) (wf : D'.Wf) :
    DAt w' d mb av (A ++ X' ++ B) D' ∧ Step (· ∈ dbl d mb av (A ++ X ++ B)) w (· ∈ dbl d mb av (A ++ X' ++ B)) w' := by
  have hnd := h.nodup
  have hlt := h.lt
  have hout : ∀ k ∈ footL av ++ (A.flatMap FB.bl ++ B.flatMap FB.bl), ¬ (k = d ∨ k = mb ∨ k ∈ X.flatMap FB.bl) := by
    intro k hk
    simp only [dbl, List.flatMap_append, List.nodup_cons, List.nodup_append, List.mem_append, List.mem_cons] at hnd hk ⊢
    obtain ⟨h1, h2, h3, ⟨⟨h4, h5, h6⟩, h7, h8⟩, h9⟩ := hnd
    rintro (rfl | rfl | hx)
    · rcases hk with hk | hk | hk
      · exact h1 (.inr (.inl hk))
      · exact h1 (.inr (.inr (.inl (.inl hk))))
      · exact h1 (.inr (.inr (.inr hk)))
    · rcases hk with hk | hk | hk
      · exact h2 (.inl hk)
      · exact h2 (.inr (.inl (.inl hk)))
      · exact h2 (.inr (.inr hk))
    · rcases hk with hk | hk | hk
      · exact h9 k hk k (.inl (.inr hx)) rfl
      · exact h6 k hk k hx rfl
      · exact h8 k (.inr hx) k hk rfl
  refine ⟨⟨hcells, hmap, ?_, ?_, hs, ?_, wf⟩, ?_, ?_⟩
  · rw [harms]
    exact h.arms.ext e fun k hk => hout k (List.mem_append_left _ (mem_footL.2 hk))
  · intro x hx
    simp only [List.mem_append] at hx
    rcases hx with (hx | hx) | hx
    · exact (h.files x (by simp [hx])).ext e fun k hk => hout k (by simp only [List.mem_append, List.mem_flatMap]; exact .inr (.inl ⟨x, hx, hk⟩))
    · exact hX x hx
    · exact (h.files x (by simp [hx])).ext e fun k hk => hout k (by simp only [List.mem_append, List.mem_flatMap]; exact .inr (.inr ⟨x, hx, hk⟩))
  · simp only [dbl, List.flatMap_append, List.nodup_cons, List.nodup_append, List.mem_append, List.mem_cons] at hnd hlt ⊢
    obtain ⟨h1, h2, h3, ⟨⟨h4, h5, h6⟩, h7, h8⟩, h9⟩ := hnd
    refine ⟨?_, ?_, h3, ⟨⟨h4, hn, ?_⟩, h7, ?_⟩, ?_⟩
    · rintro (hq | hq | (hq | hq) | hq)
      · exact h1 (.inl hq)
      · exact h1 (.inr (.inl hq))
      · exact h1 (.inr (.inr (.inl (.inl hq))))
      · rcases hk d hq with hk | hk
        · exact h1 (.inr (.inr (.inl (.inr hk))))
        · have := hlt d (.inl rfl); omega
      · exact h1 (.inr (.inr (.inr hq)))
    · rintro (hq | (hq | hq) | hq)
      · exact h2 (.inl hq)
      · exact h2 (.inr (.inl (.inl hq)))
      · rcases hk mb hq with hk | hk
        · exact h2 (.inr (.inl (.inr hk)))
        · have := hlt mb (.inr (.inl rfl)); omega
      · exact h2 (.inr (.inr hq))
    · intro a ha b hb e
      subst e
      rcases hk a hb with hk | hk
      · exact h6 a ha a hk rfl
      · have := hlt a (.inr (.inr (.inr (.inl (.inl ha))))); omega
    · intro a ha b hb e
      subst e
      rcases ha with ha | ha
      · exact h8 a (.inl ha) a hb rfl
      · rcases hk a ha with hk | hk
        · exact h8 a (.inr hk) a hb rfl
        · have := hlt a (.inr (.inr (.inr (.inr hb)))); omega
    · intro a ha b hb e
      subst e
      rcases hb with (hb | hb) | hb
      · exact h9 a ha a (.inl (.inl hb)) rfl
      · rcases hk a hb with hk | hk
        · exact h9 a ha a (.inl (.inr hk)) rfl
        · have := hlt a (.inr (.inr (.inl ha))); omega
      · exact h9 a ha a (.inr hb) rfl
  · refine e.mono fun k _ hk => ?_
    simp only [dbl, List.flatMap_append, List.mem_append, List.mem_cons]
    rcases hk with rfl | rfl | hk
    · exact .inl rfl
    · exact .inr (.inl rfl)
    · exact .inr (.inr (.inr (.inl (.inr hk))))
  · intro k hq
    simp only [dbl, List.flatMap_append, List.mem_append, List.mem_cons] at hq ⊢
    rcases hq with hq | hq | hq | (hq | hq) | hq
    · exact .inl (.inl hq)
    · exact .inl (.inr (.inl hq))
    · exact .inl (.inr (.inr (.inl hq)))
    · exact .inl (.inr (.inr (.inr (.inl (.inl hq)))))
    · rcases hk k hq with hk | hk
      · exact .inl (.inr (.inr (.inr (.inl (.inr hk)))))
      · exact .inr hk
    · exact .inl (.inr (.inr (.inr (.inr hq))))

/-- the troubles turned -/
theorem DAt.rearm {w w' : World} {d mb : Nat} {av av' : Value} {fbs : List FB} {D D' : Dk} (h : DAt w d mb av fbs D) (e : Ext (fun k => k = d ∨ inFoot av k) w w')
    (hcells : At w' d 57 [.int .i64 D'.lim, .int .i64 D'.used, .map (some mb), .bool D'.off, .bool D'.out, .int .i64 D'.calls, av']) (harms : Own w' 108 4 av' D'.arms.length (D'.arms.flatMap armCells))
    (hk : ∀ k, inFoot av' k → inFoot av k ∨ w.heap.size ≤ k) (hs : D'.fs = D.fs) (wf : D'.Wf) :
    DAt w' d mb av' fbs D' ∧ Step (· ∈ dbl d mb av fbs) w (· ∈ dbl d mb av' fbs) w' := by
  have hnd := h.nodup
  have hlt := h.lt
  simp only [dbl, List.nodup_cons, List.nodup_append, List.mem_append, List.mem_cons] at hnd hlt
  obtain ⟨h1, h2, h3, h4, h5⟩ := hnd
  refine ⟨⟨hcells, h.map.ext e ?_, harms, ?_, h.same.trans hs.symm, ?_, wf⟩, ?_, ?_⟩
  · rintro (hq | hq)
    · exact h1 (.inl hq.symm)
    · exact h2 (.inl (mem_footL.2 hq))
  · intro x hx
    refine (h.files x hx).ext e fun k hk => ?_
    have hm : k ∈ fbs.flatMap FB.bl := List.mem_flatMap.2 ⟨x, hx, hk⟩
    rintro (rfl | hq)
    · exact h1 (.inr (.inr hm))
    · exact h5 k (mem_footL.2 hq) k hm rfl
  · simp only [dbl, List.nodup_cons, List.nodup_append, List.mem_append, List.mem_cons]
    refine ⟨?_, ?_, footL_nodup _, h4, ?_⟩
    · rintro (hq | hq | hq)
      · exact h1 (.inl hq)
      · rcases hk d (mem_footL.1 hq) with hk | hk
        · exact h1 (.inr (.inl (mem_footL.2 hk)))
        · have := hlt d (.inl rfl); omega
      · exact h1 (.inr (.inr hq))
    · rintro (hq | hq)
      · rcases hk mb (mem_footL.1 hq) with hk | hk
        · exact h2 (.inl (mem_footL.2 hk))
        · have := hlt mb (.inr (.inl rfl)); omega
      · exact h2 (.inr hq)
    · intro a ha b hb e
      subst e
      rcases hk a (mem_footL.1 ha) with hk | hk
      · exact h5 a (mem_footL.2 hk) a hb rfl
      · have := hlt a (.inr (.inr (.inr hb))); omega
  · refine e.mono fun k _ hk => ?_
    simp only [dbl, List.mem_append, List.mem_cons]
    rcases hk with rfl | hk
    · exact .inl rfl
    · exact .inr (.inr (.inl (mem_footL.2 hk)))
  · intro k hq
    simp only [dbl, List.mem_append, List.mem_cons] at hq ⊢
    rcases hq with hq | hq | hq | hq
    · exact .inl (.inl hq)
    · exact .inl (.inr (.inl hq))
    · rcases hk k (mem_footL.1 hq) with hk | hk
      · exact .inl (.inr (.inr (.inl (mem_footL.2 hk))))
      · exact .inr hk
    · exact .inl (.inr (.inr (.inr hq)))

/-- A disk stands at d; its blocks are F. -/
def Disk (w : World) (d : Nat) (D : Dk) (F : Nat → Prop) : Prop := ∃ mb av fbs, DAt w d mb av fbs D ∧ F = (· ∈ dbl d mb av fbs)
theorem Disk.ext {F G : Nat → Prop} {w w' : World} {d : Nat} {D : Dk} (h : Disk w d D F) (e : Ext G w w') (hf : ∀ k, F k → ¬ G k) : Disk w' d D F := by
  obtain ⟨mb, av, fbs, h1, rfl⟩ := h
  exact ⟨mb, av, fbs, h1.ext e hf, rfl⟩
theorem Disk.lt {F : Nat → Prop} {w : World} {d : Nat} {D : Dk} (h : Disk w d D F) : ∀ k, F k → k < w.heap.size := by
  obtain ⟨mb, av, fbs, h1, rfl⟩ := h
  exact h1.lt
end Go.Proofs.Ytnppneilbkmnfaa
