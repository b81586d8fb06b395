/- Auxiliary: the law of append in a walk, over whatever element type; rows of values. No condition. -/
import Derived.Test.YtdgagpoeefbdjaaAll
namespace Go.Proofs.Ytdgagpoeefbdjaa
open Go.RowKit

/-- append onto a row of one's own, whatever its elements -/
theorem wpList_append_row {P : Program} {ops : Array Oper} {rest : List Oper} {o : Oper} {a : Act} {Q : Exit → Act → World → Prop} {w : World} {v : Value} {n m size bytes : Nat} {e t tx : TypeId} {z : Value} {xs news : List Value} {vx : Value}
    (hinfo : (P.info? e).map (fun i => (i.zero, i.size, i.bytes)) = some (some z, size, bytes)) (hz : z.cells.size = size) (hu : P.underlying t = some (.slice e)) (hown : Own w e size v n xs)
    (hsrc : Src P size tx vx m news w) (h63 : n + m ≤ maxLen) (hbytes : (n + m) * bytes ≤ 140737488355328) (hgd : o.guard = none) (s x : Operand)
    (ho : o.op = .call { callee := .builtin .append, args := #[s, x], argTypes := #[t, tx] }) (hs : a.eval s = v) (hx : a.eval x = vx)
    (h : ∀ ao cap w', n + m ≤ cap → cap ≤ maxLen → Own w' e size (.slice ao (n + m) cap) (n + m) (xs ++ news) → Step (inFoot v) w (inFoot (.slice ao (n + m) cap)) w' →
      wpList P ops Q rest (a.put o.dst (.slice ao (n + m) cap)) w') : wpList P ops Q (o :: rest) a w := by
  obtain ⟨i, hi, h0, h1, h2⟩ := info_parts hinfo
  obtain ⟨v', w', hr, h3, h4, h5⟩ := run_append (P := P) w t tx o.type e i z size bytes hu hi h0 h1 h2 hz v n xs hown vx m news hsrc h63 hbytes
  obtain ⟨ao, cap, rfl, h6, h7⟩ := h3.shape
  refine wpList_plain hgd fun K hK => ?_
  unfold Oper.wp execOp
  simp only [ho, resolve, invoke, builtin, Sem.run_bind, Sem.run_pure, Result.andThen_ok, List.map_toArray, List.map_cons, List.map_nil, hs, hx, hr]
  exact hK _ _ (h ao cap w' h6 h7 h3 ⟨h4, h5⟩)

/-- the slice that a literal of one element lays -/
theorem Reads.one (w : World) (cs : List Value) (t : TypeId) : Reads (w.alloc (.cells cs.toArray t (0, 0))) cs.length (.slice (some ⟨w.heap.size, 0, none⟩) 1 1) 1 cs := by
  refine ⟨by simp, _, _, rfl, Nat.le_refl _, by simp [maxLen], fun _ => ⟨_, _, rfl, fun j u hj => ?_⟩⟩
  rw [Nat.zero_add]
  exact (At.new w cs t).cell j hj

theorem info_put : (Try.prog.info? 39).map (fun i => (i.zero, i.size, i.bytes)) = some (some (.agg #[.int .i64 0, .int .u64 0, .slice none 0 0]), 3, 40) := by kernel_rfl

/-- a row of values of one's own -/
structure OwnPuts (B0 : Nat) (w : World) (v : Value) (l : List PutD) : Prop where
  own : Own w 39 3 v l.length (l.flatMap PutD.cells)
  each : ∀ d ∈ l, PutOk w d.K d.N d.x d.B
  old : ∀ d ∈ l, ∀ k, inFoot d.x k → k < B0
theorem OwnPuts.puts {B0 : Nat} {w : World} {v : Value} {l : List PutD} (h : OwnPuts B0 w v l) : Puts B0 w v l := ⟨h.own.reads, h.each, h.old⟩
theorem OwnPuts.ext {F : Nat → Prop} {B0 : Nat} {w w' : World} {v : Value} {l : List PutD} (h : OwnPuts B0 w v l) (e : Ext F w w') (hf : ∀ k, F k → B0 ≤ k) (hv : ∀ k, inFoot v k → ¬ F k) : OwnPuts B0 w' v l :=
  ⟨h.own.ext e hv, fun d hd => (h.each d hd).ext e fun k hk hF => by have := h.old d hd k hk; have := hf k hF; omega, h.old⟩
end Go.Proofs.Ytdgagpoeefbdjaa
