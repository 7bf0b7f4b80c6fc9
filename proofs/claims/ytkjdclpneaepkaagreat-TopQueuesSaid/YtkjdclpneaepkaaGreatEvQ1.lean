/- The hatch at this program: put and Take over the machine's own steps, as hooks. The hatch at this program: put and Take of packets over the machine's own steps, as hooks. The sorted keys of maps at this program, as hooks. The sorted keys of maps of strings at this program, as hooks. Hooks: a thing is put into a row. -/
import Derived.Test.YtkjdclpneaepkaaGreatProg
import Derived.Test.YtkjdclpneaepkaaGreatEvP3
import Derived.Conc.LoneSelect
import Derived.Conc.LoneSelectN
import Derived.Conc.SmallLaws
import Derived.Deep.RegionHeld3
import Derived.Deep.CutRange
import Derived.IntWalk
import Derived.KernelRfl
import Derived.Test.YtkjdclpneaepkaaGreatShelf
import Derived.Maps.Own
import Derived.Lib.SlKeysI
import Derived.Maps.Range
import Derived.WalkArith
import Derived.StringKeys
import Derived.Sort.Walk0
set_option linter.unusedVariables false
section
open Go Go.RowKit Go.Conc Go.Ev
namespace Go.Proofs.YtkjdclpneaepkaaGreat

set_option maxRecDepth 100000 in
set_option maxHeartbeats 4000000 in
theorem hputS_room (p c cap s r : Nat) (buf : Array Value) (x : Value) (w : World)
    (hc : w.heap[c]? = some (.chan cap buf false s r false)) (hr : buf.size < cap) :
    Calls Tryz.prog 487 #[.pointer (some ⟨p, 0, none⟩), .chan (some c), x] w fun e w' =>
      e = .returned (.bool true) ∧ w' = w.setChan c cap (buf.push x) false (s + 1) r false := by
  refine calls_of_loneTo fun cs => ?_
  have e : Frame.enter Tryz.prog 487 #[.pointer (some ⟨p, 0, none⟩), .chan (some c), x] .normal =
      (base 487).at ⟨#[.pointer (some ⟨p, 0, none⟩), .chan (some c), x, undef, undef, undef, undef, undef, undef, undef, undef, undef, undef, undef, undef, undef, undef, undef, undef], []⟩ [.code (Tryz.f487.body.getD .skip)] := by
    simp [Frame.enter, Frame.at, Tryz.func487, base, Tryz.f487] <;> rfl
  rw [e]
  clear e
  refine LoneTo.goes (n := 60) ?_
  simp only [Tryz.f487, Option.getD_some]
  s_c stepG_seq
  s_reg
  s_op
  s_c stepG_region_end
  s_c stepG_seq
  s_c stepG_seq
  s_reg
  s_op
  s_c stepG_region_end
  s_reg
  s_op
  s_c stepG_region_end
  s_c stepG_seq
  s_reg
  s_stop
  refine LoneTo.step (step_lone_select_send_room (c := c) (cap := cap) (buf := buf) (s := s) (r := r) (tm := false) (stepG_comm (cases := #[scase c x (.string ⟨#[]⟩)]) (blocking := false) (shape := .select) (w' := w) rfl rfl (by decide) (by simp [go_sem, execOp, scase, Act.eval, *])) hc hr) ?_
  rw [Frame.finish_at]
  walk_nrm
  refine LoneTo.goes (n := 60) ?_
  s_op
  s_op
  s_c stepG_region_end
  s_c stepG_block
  s_cond true
  s_c stepG_seq
  s_reg
  s_op
  s_c stepG_region_end
  s_c stepG_ret'
  s_stop
  exact LoneTo.done ⟨.returned (.bool true), _, rfl, ⟨rfl, rfl⟩, rfl, rfl, rfl, rfl, _, Tryz.func487, by simp [results, Tryz.f487, Frame.at]⟩

set_option maxRecDepth 100000 in
set_option maxHeartbeats 4000000 in
theorem hputS_full (p c cap s r : Nat) (buf : Array Value) (x : Value) (n : Int) (w : World)
    (hc : w.heap[c]? = some (.chan cap buf false s r false)) (hr : cap ≤ buf.size)
    (hn : w.cell? ⟨p, 2, none⟩ = some (.int .i64 n)) (hz : w.frozen? ⟨p, 2, none⟩ = false) (h1 : IntKind.i64.wrap (n + 1) = n + 1) :
    Calls Tryz.prog 487 #[.pointer (some ⟨p, 0, none⟩), .chan (some c), x] w fun e w' =>
      e = .returned (.bool false) ∧ w' = w.setCell ⟨p, 2, none⟩ (.int .i64 (n + 1)) := by
  refine calls_of_loneTo fun cs => ?_
  have e : Frame.enter Tryz.prog 487 #[.pointer (some ⟨p, 0, none⟩), .chan (some c), x] .normal =
      (base 487).at ⟨#[.pointer (some ⟨p, 0, none⟩), .chan (some c), x, undef, undef, undef, undef, undef, undef, undef, undef, undef, undef, undef, undef, undef, undef, undef, undef], []⟩ [.code (Tryz.f487.body.getD .skip)] := by
    simp [Frame.enter, Frame.at, Tryz.func487, base, Tryz.f487] <;> rfl
  rw [e]
  clear e
  refine LoneTo.goes (n := 60) ?_
  simp only [Tryz.f487, Option.getD_some]
  s_c stepG_seq
  s_reg
  s_op
  s_c stepG_region_end
  s_c stepG_seq
  s_c stepG_seq
  s_reg
  s_op
  s_c stepG_region_end
  s_reg
  s_op
  s_c stepG_region_end
  s_c stepG_seq
  s_reg
  s_stop
  refine LoneTo.step (step_lone_select_send_full (c := c) (cap := cap) (buf := buf) (s := s) (r := r) (tm := false) (stepG_comm (cases := #[scase c x (.string ⟨#[]⟩)]) (blocking := false) (shape := .select) (w' := w) rfl rfl (by decide) (by simp [go_sem, execOp, scase, Act.eval, *])) hc hr) ?_
  rw [Frame.finish_at]
  walk_nrm
  refine LoneTo.goes (n := 60) ?_
  s_op
  s_op
  s_c stepG_region_end
  s_c stepG_block
  s_cond false
  s_c stepG_seq
  s_reg
  s_op
  s_op
  s_op
  s_op
  s_op
  s_op
  s_op
  s_op
  s_c stepG_region_end
  s_c stepG_seq
  s_reg
  s_op
  s_c stepG_region_end
  s_c stepG_ret'
  s_stop
  exact LoneTo.done ⟨.returned (.bool false), _, rfl, ⟨rfl, rfl⟩, rfl, rfl, rfl, rfl, _, Tryz.func487, by simp [results, Tryz.f487, Frame.at]⟩

set_option maxRecDepth 100000 in
set_option maxHeartbeats 4000000 in
theorem htakeS_fast (p cf cap s r : Nat) (buf bt : Array Value) (v : Value) (w : World)
    (hl0 : w.cell? ⟨p, 0, none⟩ = some (.chan (some cf))) (hc : w.heap[cf]? = some (.chan cap buf false s r false)) (hr : 0 < buf.size) (hv : buf.getD 0 undef = v) (ht : buf.extract 1 buf.size = bt) :
    Calls Tryz.prog 446 #[.pointer (some ⟨p, 0, none⟩)] w fun e w' =>
      e = .returned (.tuple #[v, .bool true]) ∧ w' = w.setChan cf cap bt false s (r + 1) false := by
  refine calls_of_loneTo fun cs => ?_
  have e : Frame.enter Tryz.prog 446 #[.pointer (some ⟨p, 0, none⟩)] .normal =
      (base 446).at ⟨#[.pointer (some ⟨p, 0, none⟩), undef, undef, undef, undef, undef, undef, undef, undef, undef, undef, undef, undef, undef, undef, undef, undef, undef, undef, undef, undef, undef, undef, undef, undef, undef, undef, undef, undef], []⟩ [.code (Tryz.f446.body.getD .skip)] := by
    simp [Frame.enter, Frame.at, Tryz.func446, base, Tryz.f446] <;> rfl
  rw [e]
  clear e
  refine LoneTo.goes (n := 60) ?_
  simp only [Tryz.f446, Option.getD_some]
  s_c stepG_seq
  s_reg
  s_op
  s_op
  s_c stepG_region_end
  s_c stepG_seq
  s_reg
  s_op
  s_c stepG_region_end
  s_c stepG_seq
  s_c stepG_seq
  s_reg
  s_op
  s_op
  s_c stepG_region_end
  s_cond false
  s_c stepG_skip
  s_c stepG_seq
  s_c stepG_seq
  s_reg
  s_op
  s_op
  s_op
  s_op
  s_c stepG_region_end
  s_c stepG_seq
  s_reg
  s_stop
  refine LoneTo.step (step_lone_select_recv_buf (c := cf) (cap := cap) (buf := buf) (s := s) (r := r) (tm := false) (stepG_comm (cases := #[rcase cf (.string ⟨#[]⟩)]) (blocking := false) (shape := .select) (w' := w) rfl rfl (by decide) (by simp [go_sem, execOp, rcase, Act.eval, *])) hc hr) ?_
  rw [Frame.finish_at, hv, ht]
  walk_nrm
  refine LoneTo.goes (n := 60) ?_
  s_op
  s_op
  s_c stepG_region_end
  s_c stepG_block
  s_cond true
  s_c stepG_seq
  s_reg
  s_op
  s_op
  s_c stepG_region_end
  s_c stepG_seq
  s_reg
  s_op
  s_op
  s_op
  s_c stepG_region_end
  s_c stepG_ret'
  s_stop
  exact LoneTo.done ⟨.returned (.tuple #[v, .bool true]), _, rfl, ⟨rfl, rfl⟩, rfl, rfl, rfl, rfl, _, Tryz.func446, by simp [results, Tryz.f446, Frame.at]⟩

set_option maxRecDepth 100000 in
set_option maxHeartbeats 4000000 in
theorem htakeS_slow (p cf cl cap s r capl sl rl : Nat) (buf bt : Array Value) (v : Value) (w : World)
    (hl0 : w.cell? ⟨p, 0, none⟩ = some (.chan (some cf))) (hl1 : w.cell? ⟨p, 1, none⟩ = some (.chan (some cl)))
    (hc : w.heap[cf]? = some (.chan cap #[] false s r false)) (hl : w.heap[cl]? = some (.chan capl buf false sl rl false)) (hr : 0 < buf.size) (hv : buf.getD 0 undef = v) (ht : buf.extract 1 buf.size = bt) :
    Calls Tryz.prog 446 #[.pointer (some ⟨p, 0, none⟩)] w fun e w' =>
      e = .returned (.tuple #[v, .bool true]) ∧ w' = w.setChan cl capl bt false sl (rl + 1) false := by
  refine calls_of_loneTo fun cs => ?_
  have e : Frame.enter Tryz.prog 446 #[.pointer (some ⟨p, 0, none⟩)] .normal =
      (base 446).at ⟨#[.pointer (some ⟨p, 0, none⟩), undef, undef, undef, undef, undef, undef, undef, undef, undef, undef, undef, undef, undef, undef, undef, undef, undef, undef, undef, undef, undef, undef, undef, undef, undef, undef, undef, undef], []⟩ [.code (Tryz.f446.body.getD .skip)] := by
    simp [Frame.enter, Frame.at, Tryz.func446, base, Tryz.f446] <;> rfl
  rw [e]
  clear e
  refine LoneTo.goes (n := 60) ?_
  simp only [Tryz.f446, Option.getD_some]
  s_c stepG_seq
  s_reg
  s_op
  s_op
  s_c stepG_region_end
  s_c stepG_seq
  s_reg
  s_op
  s_c stepG_region_end
  s_c stepG_seq
  s_c stepG_seq
  s_reg
  s_op
  s_op
  s_c stepG_region_end
  s_cond false
  s_c stepG_skip
  s_c stepG_seq
  s_c stepG_seq
  s_reg
  s_op
  s_op
  s_op
  s_op
  s_c stepG_region_end
  s_c stepG_seq
  s_reg
  s_stop
  refine LoneTo.step (step_lone_select_default (c := cf) (cap := cap) (s := s) (r := r) (tm := false) (stepG_comm (cases := #[rcase cf (.string ⟨#[]⟩)]) (blocking := false) (shape := .select) (w' := w) rfl rfl (by decide) (by simp [go_sem, execOp, rcase, Act.eval, *])) hc) ?_
  rw [Frame.finish_at]
  walk_nrm
  refine LoneTo.goes (n := 60) ?_
  s_op
  s_op
  s_c stepG_region_end
  s_c stepG_block
  s_cond false
  s_c stepG_skip
  s_c stepG_inBlock
  s_c stepG_seq
  s_reg
  s_op
  s_op
  s_op
  s_op
  s_c stepG_region_end
  s_c stepG_seq
  s_reg
  s_stop
  refine LoneTo.step (step_lone_select_recv_buf (c := cl) (cap := capl) (buf := buf) (s := sl) (r := rl) (tm := false) (stepG_comm (cases := #[rcase cl (.string ⟨#[]⟩)]) (blocking := false) (shape := .select) (w' := w) rfl rfl (by decide) (by simp [go_sem, execOp, rcase, Act.eval, *])) hl hr) ?_
  rw [Frame.finish_at, hv, ht]
  walk_nrm
  refine LoneTo.goes (n := 60) ?_
  s_op
  s_op
  s_c stepG_region_end
  s_c stepG_block
  s_cond true
  s_c stepG_seq
  s_reg
  s_op
  s_op
  s_c stepG_region_end
  s_c stepG_seq
  s_reg
  s_op
  s_op
  s_op
  s_c stepG_region_end
  s_c stepG_ret'
  s_stop
  exact LoneTo.done ⟨.returned (.tuple #[v, .bool true]), _, rfl, ⟨rfl, rfl⟩, rfl, rfl, rfl, rfl, _, Tryz.func446, by simp [results, Tryz.f446, Frame.at]⟩

set_option maxRecDepth 100000 in
set_option maxHeartbeats 4000000 in
theorem htakeS_none (p cf cl cap s r capl sl rl : Nat) (w : World)
    (hl0 : w.cell? ⟨p, 0, none⟩ = some (.chan (some cf))) (hl1 : w.cell? ⟨p, 1, none⟩ = some (.chan (some cl)))
    (hc : w.heap[cf]? = some (.chan cap #[] false s r false)) (hl : w.heap[cl]? = some (.chan capl #[] false sl rl false)) :
    Calls Tryz.prog 446 #[.pointer (some ⟨p, 0, none⟩)] w fun e w' =>
      e = .returned (.tuple #[(.string ⟨#[]⟩), .bool false]) ∧ w' = w := by
  refine calls_of_loneTo fun cs => ?_
  have e : Frame.enter Tryz.prog 446 #[.pointer (some ⟨p, 0, none⟩)] .normal =
      (base 446).at ⟨#[.pointer (some ⟨p, 0, none⟩), undef, undef, undef, undef, undef, undef, undef, undef, undef, undef, undef, undef, undef, undef, undef, undef, undef, undef, undef, undef, undef, undef, undef, undef, undef, undef, undef, undef], []⟩ [.code (Tryz.f446.body.getD .skip)] := by
    simp [Frame.enter, Frame.at, Tryz.func446, base, Tryz.f446] <;> rfl
  rw [e]
  clear e
  refine LoneTo.goes (n := 60) ?_
  simp only [Tryz.f446, Option.getD_some]
  s_c stepG_seq
  s_reg
  s_op
  s_op
  s_c stepG_region_end
  s_c stepG_seq
  s_reg
  s_op
  s_c stepG_region_end
  s_c stepG_seq
  s_c stepG_seq
  s_reg
  s_op
  s_op
  s_c stepG_region_end
  s_cond false
  s_c stepG_skip
  s_c stepG_seq
  s_c stepG_seq
  s_reg
  s_op
  s_op
  s_op
  s_op
  s_c stepG_region_end
  s_c stepG_seq
  s_reg
  s_stop
  refine LoneTo.step (step_lone_select_default (c := cf) (cap := cap) (s := s) (r := r) (tm := false) (stepG_comm (cases := #[rcase cf (.string ⟨#[]⟩)]) (blocking := false) (shape := .select) (w' := w) rfl rfl (by decide) (by simp [go_sem, execOp, rcase, Act.eval, *])) hc) ?_
  rw [Frame.finish_at]
  walk_nrm
  refine LoneTo.goes (n := 60) ?_
  s_op
  s_op
  s_c stepG_region_end
  s_c stepG_block
  s_cond false
  s_c stepG_skip
  s_c stepG_inBlock
  s_c stepG_seq
  s_reg
  s_op
  s_op
  s_op
  s_op
  s_c stepG_region_end
  s_c stepG_seq
  s_reg
  s_stop
  refine LoneTo.step (step_lone_select_default (c := cl) (cap := capl) (s := sl) (r := rl) (tm := false) (stepG_comm (cases := #[rcase cl (.string ⟨#[]⟩)]) (blocking := false) (shape := .select) (w' := w) rfl rfl (by decide) (by simp [go_sem, execOp, rcase, Act.eval, *])) hl) ?_
  rw [Frame.finish_at]
  walk_nrm
  refine LoneTo.goes (n := 60) ?_
  s_op
  s_op
  s_c stepG_region_end
  s_c stepG_block
  s_cond false
  s_c stepG_seq
  s_reg
  s_op
  s_op
  s_op
  s_c stepG_region_end
  s_c stepG_ret'
  s_stop
  exact LoneTo.done ⟨.returned (.tuple #[(.string ⟨#[]⟩), .bool false]), _, rfl, ⟨rfl, rfl⟩, rfl, rfl, rfl, rfl, _, Tryz.func446, by simp [results, Tryz.f446, Frame.at]⟩

set_option maxRecDepth 100000 in
set_option maxHeartbeats 4000000 in
theorem htakeS_nil (w : World) : Calls Tryz.prog 446 #[.pointer none] w fun e w' =>
      e = .returned (.tuple #[(.string ⟨#[]⟩), .bool false]) ∧ w' = w := by
  refine calls_of_loneTo fun cs => ?_
  have e : Frame.enter Tryz.prog 446 #[.pointer none] .normal =
      (base 446).at ⟨#[.pointer none, undef, undef, undef, undef, undef, undef, undef, undef, undef, undef, undef, undef, undef, undef, undef, undef, undef, undef, undef, undef, undef, undef, undef, undef, undef, undef, undef, undef], []⟩ [.code (Tryz.f446.body.getD .skip)] := by
    simp [Frame.enter, Frame.at, Tryz.func446, base, Tryz.f446] <;> rfl
  rw [e]
  clear e
  refine LoneTo.goes (n := 60) ?_
  simp only [Tryz.f446, Option.getD_some]
  s_c stepG_seq
  s_reg
  s_op
  s_op
  s_c stepG_region_end
  s_c stepG_seq
  s_reg
  s_op
  s_c stepG_region_end
  s_c stepG_seq
  s_c stepG_seq
  s_reg
  s_op
  s_op
  s_c stepG_region_end
  s_cond true
  s_c stepG_seq
  s_reg
  s_op
  s_op
  s_op
  s_c stepG_region_end
  s_c stepG_ret'
  s_stop
  exact LoneTo.done ⟨.returned (.tuple #[(.string ⟨#[]⟩), .bool false]), _, rfl, ⟨rfl, rfl⟩, rfl, rfl, rfl, rfl, _, Tryz.func446, by simp [results, Tryz.f446, Frame.at]⟩

theorem hook_putS : HookAt Tryz.prog 487 (hPut okAny) := hput_at (okv := fun _ => True) (fun _ _ _ _ _ => trivial)
  (fun p c cap s r buf x w _ hc hr => (hputS_room p c cap s r buf x w hc hr).mono fun e w' ⟨a, b⟩ => ⟨a, by subst b; exact ChG.set (Array.getElem?_eq_some_iff.1 hc).1⟩)
  (fun p c cap s r buf x n w _ hc hr hn hz h1 => (hputS_full p c cap s r buf x n w hc hr hn hz h1).mono fun e w' ⟨a, b⟩ => ⟨a, w, Gr.refl w, b⟩)
theorem hook_takeS : HookAt Tryz.prog 446 (hTake okAny (.s [])) := htake_at (okv := fun _ => True) (fun _ _ _ _ _ => trivial) (zv := (.string ⟨#[]⟩)) (fun ρ => rfl)
  (fun p cf cap s r buf bt v w h0 hc hr _ hv ht => (htakeS_fast p cf cap s r buf bt v w h0 hc hr hv ht).mono fun e w' ⟨a, b⟩ => ⟨a, by subst b; exact ChG.set (Array.getElem?_eq_some_iff.1 hc).1⟩)
  (fun p cf cl cap s r capl sl rl buf bt v w h0 h1 hc hl hr _ hv ht => (htakeS_slow p cf cl cap s r capl sl rl buf bt v w h0 h1 hc hl hr hv ht).mono fun e w' ⟨a, b⟩ => ⟨a, by subst b; exact ChG.set (Array.getElem?_eq_some_iff.1 hl).1⟩)
  (fun p cf cl cap s r capl sl rl w h0 h1 hc hl => (htakeS_none p cf cl cap s r capl sl rl w h0 h1 hc hl).mono fun e w' ⟨a, b⟩ => ⟨a, by subst b; exact Gr.refl _⟩)
  (fun w => (htakeS_nil w).mono fun e w' ⟨a, b⟩ => ⟨a, by subst b; exact Gr.refl _⟩)
end Go.Proofs.YtkjdclpneaepkaaGreat
end

section
open Go Go.RowKit Go.Conc Go.Ev
namespace Go.Proofs.YtkjdclpneaepkaaGreat

theorem _root_.Go.Ev.Gr.alloc (w : World) (o : Obj) : Gr w (w.alloc o) := ⟨rfl, rfl, rfl, by show _ ≤ (w.heap.push o).size; simp, fun k hk => by show (w.heap.push o)[k]? = _; rw [Array.getElem?_push_lt hk]; simp [hk]⟩
theorem _root_.Go.Ev.Gr.trans {a b c : World} (h : Gr a b) (k : Gr b c) : Gr a c := ⟨k.os.trans h.os, k.tape.trans h.tape, k.output.trans h.output, Nat.le_trans h.size k.size, fun i hi => (k.keep i (Nat.lt_of_lt_of_le hi h.size)).trans (h.keep i hi)⟩
theorem _root_.Go.Ev.Gr.cell {a b : World} (h : Gr a b) {g o : Nat} {v : Value} (e : a.cell? ⟨g, o, none⟩ = some v) : b.cell? ⟨g, o, none⟩ = some v := by
  have hg : g < a.heap.size := by
    rcases Nat.lt_or_ge g a.heap.size with q | q
    · exact q
    · simp [World.cell?, Array.getElem?_eq_none q] at e
  rw [← e]; simp only [World.cell?, h.keep g hg]
theorem _root_.Go.Ev.Gr.frozen {a b : World} (h : Gr a b) {g o : Nat} (hg : g < a.heap.size) : b.frozen? ⟨g, o, none⟩ = a.frozen? ⟨g, o, none⟩ := by
  simp only [World.frozen?, h.keep g hg]
theorem _root_.Go.Ev.ChG.after {w w1 w2 : World} {c cap : Nat} {buf : Array Value} {s r : Nat} (h : Gr w w1) (k : ChG w1 w2 c cap buf s r) : ChG w w2 c cap buf s r :=
  ⟨k.os.trans h.os, k.tape.trans h.tape, k.output.trans h.output, Nat.le_trans h.size k.size, fun i hi hn => (k.keep i (Nat.lt_of_lt_of_le hi h.size) hn).trans (h.keep i hi), k.chan⟩

set_option maxRecDepth 100000 in
set_option maxHeartbeats 4000000 in
theorem hputP_room (p c cap s r : Nat) (buf : Array Value) (i0 i1 i2 i3 i4 : Int) (i5 : Bool) (w : World)
    (hc : w.heap[c]? = some (.chan cap buf false s r false)) (hr : buf.size < cap) :
    Calls Tryz.prog 251 #[.pointer (some ⟨p, 0, none⟩), .chan (some c), (.agg #[.int .i64 i0, .int .i64 i1, .int .i64 i2, .int .i64 i3, .int .i64 i4, .bool i5])] w fun e w' =>
      e = .returned (.bool true) ∧ w' = (w.alloc (.cells #[.int .i64 i0, .int .i64 i1, .int .i64 i2, .int .i64 i3, .int .i64 i4, .bool i5] 115)).setChan c cap (buf.push (.agg #[.int .i64 i0, .int .i64 i1, .int .i64 i2, .int .i64 i3, .int .i64 i4, .bool i5])) false (s + 1) r false := by
  have hcl := (Array.getElem?_eq_some_iff.1 hc).1
  have hc1 : (w.alloc (.cells #[.int .i64 i0, .int .i64 i1, .int .i64 i2, .int .i64 i3, .int .i64 i4, .bool i5] 115)).heap[c]? = some (.chan cap buf false s r false) := ((Gr.alloc w _).keep c hcl).trans hc
  refine calls_of_loneTo fun cs => ?_
  have e : Frame.enter Tryz.prog 251 #[.pointer (some ⟨p, 0, none⟩), .chan (some c), (.agg #[.int .i64 i0, .int .i64 i1, .int .i64 i2, .int .i64 i3, .int .i64 i4, .bool i5])] .normal =
      (base 251).at ⟨#[.pointer (some ⟨p, 0, none⟩), .chan (some c), (.agg #[.int .i64 i0, .int .i64 i1, .int .i64 i2, .int .i64 i3, .int .i64 i4, .bool i5]), undef, undef, undef, undef, undef, undef, undef, undef, undef, undef, undef, undef, undef, undef, undef, undef], []⟩ [.code (Tryz.f251.body.getD .skip)] := by
    simp [Frame.enter, Frame.at, Tryz.func251, base, Tryz.f251] <;> rfl
  rw [e]
  clear e
  refine LoneTo.goes (n := 60) ?_
  simp only [Tryz.f251, Option.getD_some]
  s_c stepG_seq
  s_reg
  s_op
  s_op
  s_c stepG_region_end
  s_c stepG_seq
  s_c stepG_seq
  s_reg
  s_op
  s_c stepG_region_end
  s_reg
  s_op
  s_c stepG_region_end
  s_c stepG_seq
  s_reg
  s_stop
  refine LoneTo.step (step_lone_select_send_room (c := c) (cap := cap) (buf := buf) (s := s) (r := r) (tm := false) (stepG_comm (cases := #[scase c (.agg #[.int .i64 i0, .int .i64 i1, .int .i64 i2, .int .i64 i3, .int .i64 i4, .bool i5]) (.agg #[.int .i64 0, .int .i64 0, .int .i64 0, .int .i64 0, .int .i64 0, .bool false])]) (blocking := false) (shape := .select) (w' := (w.alloc (.cells #[.int .i64 i0, .int .i64 i1, .int .i64 i2, .int .i64 i3, .int .i64 i4, .bool i5] 115))) rfl rfl (by decide) (by simp [go_sem, execOp, scase, Act.eval, *])) hc1 hr) ?_
  rw [Frame.finish_at]
  walk_nrm
  refine LoneTo.goes (n := 60) ?_
  s_op
  s_op
  s_c stepG_region_end
  s_c stepG_block
  s_cond true
  s_c stepG_seq
  s_reg
  s_op
  s_c stepG_region_end
  s_c stepG_ret'
  s_stop
  exact LoneTo.done ⟨.returned (.bool true), _, rfl, ⟨rfl, rfl⟩, rfl, rfl, rfl, rfl, _, Tryz.func251, by simp [results, Tryz.f251, Frame.at]⟩

set_option maxRecDepth 100000 in
set_option maxHeartbeats 4000000 in
theorem hputP_full (p c cap s r : Nat) (buf : Array Value) (i0 i1 i2 i3 i4 : Int) (i5 : Bool) (n : Int) (w : World)
    (hc : w.heap[c]? = some (.chan cap buf false s r false)) (hr : cap ≤ buf.size)
    (hn : (w.alloc (.cells #[.int .i64 i0, .int .i64 i1, .int .i64 i2, .int .i64 i3, .int .i64 i4, .bool i5] 115)).cell? ⟨p, 2, none⟩ = some (.int .i64 n)) (hz : (w.alloc (.cells #[.int .i64 i0, .int .i64 i1, .int .i64 i2, .int .i64 i3, .int .i64 i4, .bool i5] 115)).frozen? ⟨p, 2, none⟩ = false) (h1 : IntKind.i64.wrap (n + 1) = n + 1) :
    Calls Tryz.prog 251 #[.pointer (some ⟨p, 0, none⟩), .chan (some c), (.agg #[.int .i64 i0, .int .i64 i1, .int .i64 i2, .int .i64 i3, .int .i64 i4, .bool i5])] w fun e w' =>
      e = .returned (.bool false) ∧ w' = (w.alloc (.cells #[.int .i64 i0, .int .i64 i1, .int .i64 i2, .int .i64 i3, .int .i64 i4, .bool i5] 115)).setCell ⟨p, 2, none⟩ (.int .i64 (n + 1)) := by
  have hcl := (Array.getElem?_eq_some_iff.1 hc).1
  have hc1 : (w.alloc (.cells #[.int .i64 i0, .int .i64 i1, .int .i64 i2, .int .i64 i3, .int .i64 i4, .bool i5] 115)).heap[c]? = some (.chan cap buf false s r false) := ((Gr.alloc w _).keep c hcl).trans hc
  refine calls_of_loneTo fun cs => ?_
  have e : Frame.enter Tryz.prog 251 #[.pointer (some ⟨p, 0, none⟩), .chan (some c), (.agg #[.int .i64 i0, .int .i64 i1, .int .i64 i2, .int .i64 i3, .int .i64 i4, .bool i5])] .normal =
      (base 251).at ⟨#[.pointer (some ⟨p, 0, none⟩), .chan (some c), (.agg #[.int .i64 i0, .int .i64 i1, .int .i64 i2, .int .i64 i3, .int .i64 i4, .bool i5]), undef, undef, undef, undef, undef, undef, undef, undef, undef, undef, undef, undef, undef, undef, undef, undef], []⟩ [.code (Tryz.f251.body.getD .skip)] := by
    simp [Frame.enter, Frame.at, Tryz.func251, base, Tryz.f251] <;> rfl
  rw [e]
  clear e
  refine LoneTo.goes (n := 60) ?_
  simp only [Tryz.f251, Option.getD_some]
  s_c stepG_seq
  s_reg
  s_op
  s_op
  s_c stepG_region_end
  s_c stepG_seq
  s_c stepG_seq
  s_reg
  s_op
  s_c stepG_region_end
  s_reg
  s_op
  s_c stepG_region_end
  s_c stepG_seq
  s_reg
  s_stop
  refine LoneTo.step (step_lone_select_send_full (c := c) (cap := cap) (buf := buf) (s := s) (r := r) (tm := false) (stepG_comm (cases := #[scase c (.agg #[.int .i64 i0, .int .i64 i1, .int .i64 i2, .int .i64 i3, .int .i64 i4, .bool i5]) (.agg #[.int .i64 0, .int .i64 0, .int .i64 0, .int .i64 0, .int .i64 0, .bool false])]) (blocking := false) (shape := .select) (w' := (w.alloc (.cells #[.int .i64 i0, .int .i64 i1, .int .i64 i2, .int .i64 i3, .int .i64 i4, .bool i5] 115))) rfl rfl (by decide) (by simp [go_sem, execOp, scase, Act.eval, *])) hc1 hr) ?_
  rw [Frame.finish_at]
  walk_nrm
  refine LoneTo.goes (n := 60) ?_
  s_op
  s_op
  s_c stepG_region_end
  s_c stepG_block
  s_cond false
  s_c stepG_seq
  s_reg
  s_op
  s_op
  s_op
  s_op
  s_op
  s_op
  s_op
  s_op
  s_c stepG_region_end
  s_c stepG_seq
  s_reg
  s_op
  s_c stepG_region_end
  s_c stepG_ret'
  s_stop
  exact LoneTo.done ⟨.returned (.bool false), _, rfl, ⟨rfl, rfl⟩, rfl, rfl, rfl, rfl, _, Tryz.func251, by simp [results, Tryz.f251, Frame.at]⟩

theorem _root_.Go.Ev.ChG.grow {w a b : World} {c cap : Nat} {buf : Array Value} {s r : Nat} (k : ChG w a c cap buf s r) (g : Gr a b) : ChG w b c cap buf s r :=
  ⟨g.os.trans k.os, g.tape.trans k.tape, g.output.trans k.output, Nat.le_trans k.size g.size, fun i hi hn => (g.keep i (Nat.lt_of_lt_of_le hi k.size)).trans (k.keep i hi hn), (g.keep c (Array.getElem?_eq_some_iff.1 k.chan).1).trans k.chan⟩
theorem _root_.Go.Ev.ChG.off {w a : World} {c cap : Nat} {buf : Array Value} {s r : Nat} (k : ChG w a c cap buf s r) {b : Nat} (hb : w.heap.size ≤ b) (hc : c < w.heap.size) {cs : Array Value} {ty : TypeId} {fz : Nat × Nat} (h : a.heap[b]? = some (.cells cs ty fz)) (vs : List Value) : ChG w (a.setCells b 0 vs) c cap buf s r := by
  obtain ⟨_, a2, a3, a4, a5, a6⟩ := setCells_heap vs a b 0 cs ty fz h
  exact ⟨a4.trans k.os, a5.trans k.tape, a6.trans k.output, by rw [a3]; exact k.size, fun i hi hn => (a2 i (by omega)).trans (k.keep i hi hn), (a2 c (by omega)).trans k.chan⟩
theorem _root_.Go.Ev.Gr.off {w a : World} (k : Gr w a) {b : Nat} (hb : w.heap.size ≤ b) {cs : Array Value} {ty : TypeId} {fz : Nat × Nat} (h : a.heap[b]? = some (.cells cs ty fz)) (vs : List Value) : Gr w (a.setCells b 0 vs) := by
  obtain ⟨_, a2, a3, a4, a5, a6⟩ := setCells_heap vs a b 0 cs ty fz h
  exact ⟨a4.trans k.os, a5.trans k.tape, a6.trans k.output, by rw [a3]; exact k.size, fun i hi => (a2 i (by omega)).trans (k.keep i hi)⟩
theorem _root_.Go.Ev.chan_off {w : World} {c cap : Nat} {buf : Array Value} {s r k : Nat} (hk : k ≠ c) : (w.setChan c cap buf false s r false).heap[k]? = w.heap[k]? := by simp only [World.setChan]; rw [Array.getElem?_setIfInBounds_ne (Ne.symm hk)]
theorem _root_.Go.Ev.new_at (w : World) (o : Obj) : (w.alloc o).heap[w.heap.size]? = some o := by show (w.heap.push o)[_]? = _; simp
theorem _root_.Go.Ev.new_lt (w : World) (o : Obj) : w.heap.size < (w.alloc o).heap.size := by show _ < (w.heap.push o).size; simp
theorem store_pk {W : World} {b : Nat} {c : Array Value} {ty : TypeId} (hb : W.heap[b]? = some (.cells c ty (0, 0))) {ev : Operand → Value} {o : Oper} {x y : Operand} {vs : List Value} (ho : o.op = .store 115 x y) (hx : ev x = .pointer (some ⟨b, 0, none⟩)) (hy : ev y = .agg vs.toArray) (hl : vs.length = 6) (hs : c.size = 6) (h1 : ∀ v ∈ vs, v.oneCell' = true) :
    (execOp ev o).run Tryz.prog W = .ok .skip (W.setCells b 0 vs) := by
  have h2 := stores (P := Tryz.prog) hb (vs := vs) (off := 0) (by omega) (by simp) h1
  have h3 : (sizeOf 115).run Tryz.prog W = .ok 6 W := by kernel_rfl
  simp [execOp, ho, Instr.storeAt, hx, hy, Instr.sureAddr, storeVar, h3, Value.cells, hl, h2]
theorem load_pk {W : World} {b : Nat} {c : Array Value} {ty : TypeId} {fz : Nat × Nat} (hb : W.heap[b]? = some (.cells c ty fz)) {vs : List Value} (hl : vs.length = 6) (hc : wr c 0 vs = vs.toArray) : (loadVar 115 ⟨b, 0, none⟩).run Tryz.prog (W.setCells b 0 vs) = .ok (.agg vs.toArray) (W.setCells b 0 vs) := by
  have h1 := (setCells_heap vs W b 0 c ty fz hb).1
  rw [hc] at h1
  have h2 : Tryz.prog.underlying 115 = some (Tryz.prog.underlying 115).get! := by kernel_rfl
  exact loadVar_agg h2 (by kernel_rfl) (by rw [hl]; kernel_rfl) fun j u hj => by rw [cell_of h1]; simpa using hj

set_option maxRecDepth 100000 in
set_option maxHeartbeats 4000000 in
theorem htakeP_fast (p cf cap s r : Nat) (buf bt : Array Value) (i0 i1 i2 i3 i4 : Int) (i5 : Bool) (w : World)
    (hl0 : w.cell? ⟨p, 0, none⟩ = some (.chan (some cf))) (hc : w.heap[cf]? = some (.chan cap buf false s r false)) (hr : 0 < buf.size) (hv : buf.getD 0 undef = (.agg #[.int .i64 i0, .int .i64 i1, .int .i64 i2, .int .i64 i3, .int .i64 i4, .bool i5])) (ht : buf.extract 1 buf.size = bt) :
    Calls Tryz.prog 142 #[.pointer (some ⟨p, 0, none⟩)] w fun e w' =>
      e = .returned (.tuple #[(.agg #[.int .i64 i0, .int .i64 i1, .int .i64 i2, .int .i64 i3, .int .i64 i4, .bool i5]), .bool true]) ∧ ChG w w' cf cap bt s (r + 1) := by
  have hG : Gr w ((w.alloc (.cells #[.int .i64 0, .int .i64 0, .int .i64 0, .int .i64 0, .int .i64 0, .bool false] 115)).alloc (.cells #[.int .i64 0, .int .i64 0, .int .i64 0, .int .i64 0, .int .i64 0, .bool false] 115)) := (Gr.alloc w _).trans (Gr.alloc _ _)
  have hl0' := hG.cell hl0
  have hc' : ((w.alloc (.cells #[.int .i64 0, .int .i64 0, .int .i64 0, .int .i64 0, .int .i64 0, .bool false] 115)).alloc (.cells #[.int .i64 0, .int .i64 0, .int .i64 0, .int .i64 0, .int .i64 0, .bool false] 115)).heap[cf]? = _ := (hG.keep cf (Array.getElem?_eq_some_iff.1 hc).1).trans hc
  have hlt := (Array.getElem?_eq_some_iff.1 hc).1
  have hB : (((w.alloc (.cells #[.int .i64 0, .int .i64 0, .int .i64 0, .int .i64 0, .int .i64 0, .bool false] 115)).alloc (.cells #[.int .i64 0, .int .i64 0, .int .i64 0, .int .i64 0, .int .i64 0, .bool false] 115)).setChan cf cap bt false s (r + 1) false).heap[w.heap.size]? = some (.cells #[.int .i64 0, .int .i64 0, .int .i64 0, .int .i64 0, .int .i64 0, .bool false] 115 (0, 0)) := by
    rw [chan_off (by omega), (Gr.alloc _ _).keep _ (new_lt _ _)]; exact new_at _ _
  have hB' : ((((w.alloc (.cells #[.int .i64 0, .int .i64 0, .int .i64 0, .int .i64 0, .int .i64 0, .bool false] 115)).alloc (.cells #[.int .i64 0, .int .i64 0, .int .i64 0, .int .i64 0, .int .i64 0, .bool false] 115)).setChan cf cap bt false s (r + 1) false).alloc (.cells #[.int .i64 i0, .int .i64 i1, .int .i64 i2, .int .i64 i3, .int .i64 i4, .bool i5] 115)).heap[w.heap.size]? = some (.cells #[.int .i64 0, .int .i64 0, .int .i64 0, .int .i64 0, .int .i64 0, .bool false] 115 (0, 0)) := ((Gr.alloc _ _).keep _ (Array.getElem?_eq_some_iff.1 hB).1).trans hB
  have hR : ChG w ((((w.alloc (.cells #[.int .i64 0, .int .i64 0, .int .i64 0, .int .i64 0, .int .i64 0, .bool false] 115)).alloc (.cells #[.int .i64 0, .int .i64 0, .int .i64 0, .int .i64 0, .int .i64 0, .bool false] 115)).setChan cf cap bt false s (r + 1) false).alloc (.cells #[.int .i64 i0, .int .i64 i1, .int .i64 i2, .int .i64 i3, .int .i64 i4, .bool i5] 115)) cf cap bt s (r + 1) := (ChG.after hG (ChG.set (Array.getElem?_eq_some_iff.1 hc').1)).grow (Gr.alloc _ _)
  have hR' := hR.off (Nat.le_refl _) hlt hB' [.int .i64 i0, .int .i64 i1, .int .i64 i2, .int .i64 i3, .int .i64 i4, .bool i5]
  have hD := load_pk hB' (vs := [.int .i64 i0, .int .i64 i1, .int .i64 i2, .int .i64 i3, .int .i64 i4, .bool i5]) rfl rfl
  refine calls_of_loneTo fun cs => ?_
  have e : Frame.enter Tryz.prog 142 #[.pointer (some ⟨p, 0, none⟩)] .normal =
      (base 142).at ⟨#[.pointer (some ⟨p, 0, none⟩), undef, undef, undef, undef, undef, undef, undef, undef, undef, undef, undef, undef, undef, undef, undef, undef, undef, undef, undef, undef, undef, undef, undef, undef, undef, undef, undef, undef], []⟩ [.code (Tryz.f142.body.getD .skip)] := by
    simp [Frame.enter, Frame.at, Tryz.func142, base, Tryz.f142] <;> rfl
  rw [e]
  clear e
  refine LoneTo.goes (n := 60) ?_
  simp only [Tryz.f142, Option.getD_some]
  s_c stepG_seq
  s_reg
  s_op
  s_op
  s_c stepG_region_end
  s_c stepG_seq
  s_reg
  s_op
  s_c stepG_region_end
  s_c stepG_seq
  s_c stepG_seq
  s_reg
  s_op
  s_op
  s_c stepG_region_end
  s_cond false
  s_c stepG_skip
  s_c stepG_seq
  s_c stepG_seq
  s_reg
  s_op
  s_op
  s_op
  s_op
  s_c stepG_region_end
  s_c stepG_seq
  s_reg
  s_stop
  refine LoneTo.step (step_lone_select_recv_buf (c := cf) (cap := cap) (buf := buf) (s := s) (r := r) (tm := false) (stepG_comm (cases := #[rcase cf (.agg #[.int .i64 0, .int .i64 0, .int .i64 0, .int .i64 0, .int .i64 0, .bool false])]) (blocking := false) (shape := .select) (w' := ((w.alloc (.cells #[.int .i64 0, .int .i64 0, .int .i64 0, .int .i64 0, .int .i64 0, .bool false] 115)).alloc (.cells #[.int .i64 0, .int .i64 0, .int .i64 0, .int .i64 0, .int .i64 0, .bool false] 115))) rfl rfl (by decide) (by simp [go_sem, execOp, rcase, Act.eval, *])) hc' hr) ?_
  rw [Frame.finish_at, hv, ht]
  walk_nrm
  refine LoneTo.goes (n := 60) ?_
  s_op
  s_op
  s_c stepG_region_end
  s_c stepG_block
  s_cond true
  s_c stepG_seq
  s_reg
  s_op
  s_op
  s_op
  s_c stepG_region_end
  s_c stepG_seq
  s_reg
  s_op
  s_in
  refine goes_oper_k rfl rfl (by decide) (fun K hK => ?_)
  rw [store_pk (b := w.heap.size) (hB') rfl rfl rfl rfl (by decide) (by simp [Value.oneCell'])]
  refine hK _ _ ⟨trivial, ?_⟩
  clear hK K
  s_op
  s_c stepG_region_end
  s_c stepG_ret'
  s_stop
  exact LoneTo.done ⟨.returned (.tuple #[(.agg #[.int .i64 i0, .int .i64 i1, .int .i64 i2, .int .i64 i3, .int .i64 i4, .bool i5]), .bool true]), _, rfl, ⟨rfl, hR'⟩, rfl, rfl, rfl, rfl, _, Tryz.func142, by simp [results, Tryz.f142, Frame.at, asAddr, hD]⟩

set_option maxRecDepth 100000 in
set_option maxHeartbeats 4000000 in
theorem htakeP_slow (p cf cl cap s r capl sl rl : Nat) (buf bt : Array Value) (i0 i1 i2 i3 i4 : Int) (i5 : Bool) (w : World)
    (hl0 : w.cell? ⟨p, 0, none⟩ = some (.chan (some cf))) (hl1 : w.cell? ⟨p, 1, none⟩ = some (.chan (some cl)))
    (hc : w.heap[cf]? = some (.chan cap #[] false s r false)) (hl : w.heap[cl]? = some (.chan capl buf false sl rl false)) (hr : 0 < buf.size) (hv : buf.getD 0 undef = (.agg #[.int .i64 i0, .int .i64 i1, .int .i64 i2, .int .i64 i3, .int .i64 i4, .bool i5])) (ht : buf.extract 1 buf.size = bt) :
    Calls Tryz.prog 142 #[.pointer (some ⟨p, 0, none⟩)] w fun e w' =>
      e = .returned (.tuple #[(.agg #[.int .i64 i0, .int .i64 i1, .int .i64 i2, .int .i64 i3, .int .i64 i4, .bool i5]), .bool true]) ∧ ChG w w' cl capl bt sl (rl + 1) := by
  have hG : Gr w ((w.alloc (.cells #[.int .i64 0, .int .i64 0, .int .i64 0, .int .i64 0, .int .i64 0, .bool false] 115)).alloc (.cells #[.int .i64 0, .int .i64 0, .int .i64 0, .int .i64 0, .int .i64 0, .bool false] 115)) := (Gr.alloc w _).trans (Gr.alloc _ _)
  have hl0' := hG.cell hl0
  have hl1' := hG.cell hl1
  have hc' : ((w.alloc (.cells #[.int .i64 0, .int .i64 0, .int .i64 0, .int .i64 0, .int .i64 0, .bool false] 115)).alloc (.cells #[.int .i64 0, .int .i64 0, .int .i64 0, .int .i64 0, .int .i64 0, .bool false] 115)).heap[cf]? = _ := (hG.keep cf (Array.getElem?_eq_some_iff.1 hc).1).trans hc
  have hl' : ((w.alloc (.cells #[.int .i64 0, .int .i64 0, .int .i64 0, .int .i64 0, .int .i64 0, .bool false] 115)).alloc (.cells #[.int .i64 0, .int .i64 0, .int .i64 0, .int .i64 0, .int .i64 0, .bool false] 115)).heap[cl]? = _ := (hG.keep cl (Array.getElem?_eq_some_iff.1 hl).1).trans hl
  have hlt := (Array.getElem?_eq_some_iff.1 hl).1
  have hB : (((w.alloc (.cells #[.int .i64 0, .int .i64 0, .int .i64 0, .int .i64 0, .int .i64 0, .bool false] 115)).alloc (.cells #[.int .i64 0, .int .i64 0, .int .i64 0, .int .i64 0, .int .i64 0, .bool false] 115)).setChan cl capl bt false sl (rl + 1) false).heap[w.heap.size]? = some (.cells #[.int .i64 0, .int .i64 0, .int .i64 0, .int .i64 0, .int .i64 0, .bool false] 115 (0, 0)) := by
    rw [chan_off (by omega), (Gr.alloc _ _).keep _ (new_lt _ _)]; exact new_at _ _
  have hB' : ((((w.alloc (.cells #[.int .i64 0, .int .i64 0, .int .i64 0, .int .i64 0, .int .i64 0, .bool false] 115)).alloc (.cells #[.int .i64 0, .int .i64 0, .int .i64 0, .int .i64 0, .int .i64 0, .bool false] 115)).setChan cl capl bt false sl (rl + 1) false).alloc (.cells #[.int .i64 i0, .int .i64 i1, .int .i64 i2, .int .i64 i3, .int .i64 i4, .bool i5] 115)).heap[w.heap.size]? = some (.cells #[.int .i64 0, .int .i64 0, .int .i64 0, .int .i64 0, .int .i64 0, .bool false] 115 (0, 0)) := ((Gr.alloc _ _).keep _ (Array.getElem?_eq_some_iff.1 hB).1).trans hB
  have hR : ChG w ((((w.alloc (.cells #[.int .i64 0, .int .i64 0, .int .i64 0, .int .i64 0, .int .i64 0, .bool false] 115)).alloc (.cells #[.int .i64 0, .int .i64 0, .int .i64 0, .int .i64 0, .int .i64 0, .bool false] 115)).setChan cl capl bt false sl (rl + 1) false).alloc (.cells #[.int .i64 i0, .int .i64 i1, .int .i64 i2, .int .i64 i3, .int .i64 i4, .bool i5] 115)) cl capl bt sl (rl + 1) := (ChG.after hG (ChG.set (Array.getElem?_eq_some_iff.1 hl').1)).grow (Gr.alloc _ _)
  have hR' := hR.off (Nat.le_refl _) hlt hB' [.int .i64 i0, .int .i64 i1, .int .i64 i2, .int .i64 i3, .int .i64 i4, .bool i5]
  have hD := load_pk hB' (vs := [.int .i64 i0, .int .i64 i1, .int .i64 i2, .int .i64 i3, .int .i64 i4, .bool i5]) rfl rfl
  refine calls_of_loneTo fun cs => ?_
  have e : Frame.enter Tryz.prog 142 #[.pointer (some ⟨p, 0, none⟩)] .normal =
      (base 142).at ⟨#[.pointer (some ⟨p, 0, none⟩), undef, undef, undef, undef, undef, undef, undef, undef, undef, undef, undef, undef, undef, undef, undef, undef, undef, undef, undef, undef, undef, undef, undef, undef, undef, undef, undef, undef], []⟩ [.code (Tryz.f142.body.getD .skip)] := by
    simp [Frame.enter, Frame.at, Tryz.func142, base, Tryz.f142] <;> rfl
  rw [e]
  clear e
  refine LoneTo.goes (n := 60) ?_
  simp only [Tryz.f142, Option.getD_some]
  s_c stepG_seq
  s_reg
  s_op
  s_op
  s_c stepG_region_end
  s_c stepG_seq
  s_reg
  s_op
  s_c stepG_region_end
  s_c stepG_seq
  s_c stepG_seq
  s_reg
  s_op
  s_op
  s_c stepG_region_end
  s_cond false
  s_c stepG_skip
  s_c stepG_seq
  s_c stepG_seq
  s_reg
  s_op
  s_op
  s_op
  s_op
  s_c stepG_region_end
  s_c stepG_seq
  s_reg
  s_stop
  refine LoneTo.step (step_lone_select_default (c := cf) (cap := cap) (s := s) (r := r) (tm := false) (stepG_comm (cases := #[rcase cf (.agg #[.int .i64 0, .int .i64 0, .int .i64 0, .int .i64 0, .int .i64 0, .bool false])]) (blocking := false) (shape := .select) (w' := ((w.alloc (.cells #[.int .i64 0, .int .i64 0, .int .i64 0, .int .i64 0, .int .i64 0, .bool false] 115)).alloc (.cells #[.int .i64 0, .int .i64 0, .int .i64 0, .int .i64 0, .int .i64 0, .bool false] 115))) rfl rfl (by decide) (by simp [go_sem, execOp, rcase, Act.eval, *])) hc') ?_
  rw [Frame.finish_at]
  walk_nrm
  refine LoneTo.goes (n := 60) ?_
  s_op
  s_op
  s_c stepG_region_end
  s_c stepG_block
  s_cond false
  s_c stepG_skip
  s_c stepG_inBlock
  s_c stepG_seq
  s_reg
  s_op
  s_op
  s_op
  s_op
  s_c stepG_region_end
  s_c stepG_seq
  s_reg
  s_stop
  refine LoneTo.step (step_lone_select_recv_buf (c := cl) (cap := capl) (buf := buf) (s := sl) (r := rl) (tm := false) (stepG_comm (cases := #[rcase cl (.agg #[.int .i64 0, .int .i64 0, .int .i64 0, .int .i64 0, .int .i64 0, .bool false])]) (blocking := false) (shape := .select) (w' := ((w.alloc (.cells #[.int .i64 0, .int .i64 0, .int .i64 0, .int .i64 0, .int .i64 0, .bool false] 115)).alloc (.cells #[.int .i64 0, .int .i64 0, .int .i64 0, .int .i64 0, .int .i64 0, .bool false] 115))) rfl rfl (by decide) (by simp [go_sem, execOp, rcase, Act.eval, *])) hl' hr) ?_
  rw [Frame.finish_at, hv, ht]
  walk_nrm
  refine LoneTo.goes (n := 60) ?_
  s_op
  s_op
  s_c stepG_region_end
  s_c stepG_block
  s_cond true
  s_c stepG_seq
  s_reg
  s_op
  s_op
  s_op
  s_c stepG_region_end
  s_c stepG_seq
  s_reg
  s_op
  s_in
  refine goes_oper_k rfl rfl (by decide) (fun K hK => ?_)
  rw [store_pk (b := w.heap.size) (hB') rfl rfl rfl rfl (by decide) (by simp [Value.oneCell'])]
  refine hK _ _ ⟨trivial, ?_⟩
  clear hK K
  s_op
  s_c stepG_region_end
  s_c stepG_ret'
  s_stop
  exact LoneTo.done ⟨.returned (.tuple #[(.agg #[.int .i64 i0, .int .i64 i1, .int .i64 i2, .int .i64 i3, .int .i64 i4, .bool i5]), .bool true]), _, rfl, ⟨rfl, hR'⟩, rfl, rfl, rfl, rfl, _, Tryz.func142, by simp [results, Tryz.f142, Frame.at, asAddr, hD]⟩

set_option maxRecDepth 100000 in
set_option maxHeartbeats 4000000 in
theorem htakeP_none (p cf cl cap s r capl sl rl : Nat) (w : World)
    (hl0 : w.cell? ⟨p, 0, none⟩ = some (.chan (some cf))) (hl1 : w.cell? ⟨p, 1, none⟩ = some (.chan (some cl)))
    (hc : w.heap[cf]? = some (.chan cap #[] false s r false)) (hl : w.heap[cl]? = some (.chan capl #[] false sl rl false)) :
    Calls Tryz.prog 142 #[.pointer (some ⟨p, 0, none⟩)] w fun e w' =>
      e = .returned (.tuple #[(.agg #[.int .i64 0, .int .i64 0, .int .i64 0, .int .i64 0, .int .i64 0, .bool false]), .bool false]) ∧ Gr w w' := by
  have hG : Gr w ((w.alloc (.cells #[.int .i64 0, .int .i64 0, .int .i64 0, .int .i64 0, .int .i64 0, .bool false] 115)).alloc (.cells #[.int .i64 0, .int .i64 0, .int .i64 0, .int .i64 0, .int .i64 0, .bool false] 115)) := (Gr.alloc w _).trans (Gr.alloc _ _)
  have hl0' := hG.cell hl0
  have hl1' := hG.cell hl1
  have hc' : ((w.alloc (.cells #[.int .i64 0, .int .i64 0, .int .i64 0, .int .i64 0, .int .i64 0, .bool false] 115)).alloc (.cells #[.int .i64 0, .int .i64 0, .int .i64 0, .int .i64 0, .int .i64 0, .bool false] 115)).heap[cf]? = _ := (hG.keep cf (Array.getElem?_eq_some_iff.1 hc).1).trans hc
  have hl' : ((w.alloc (.cells #[.int .i64 0, .int .i64 0, .int .i64 0, .int .i64 0, .int .i64 0, .bool false] 115)).alloc (.cells #[.int .i64 0, .int .i64 0, .int .i64 0, .int .i64 0, .int .i64 0, .bool false] 115)).heap[cl]? = _ := (hG.keep cl (Array.getElem?_eq_some_iff.1 hl).1).trans hl
  have hB : ((w.alloc (.cells #[.int .i64 0, .int .i64 0, .int .i64 0, .int .i64 0, .int .i64 0, .bool false] 115)).alloc (.cells #[.int .i64 0, .int .i64 0, .int .i64 0, .int .i64 0, .int .i64 0, .bool false] 115)).heap[w.heap.size]? = some (.cells #[.int .i64 0, .int .i64 0, .int .i64 0, .int .i64 0, .int .i64 0, .bool false] 115 (0, 0)) := by
    rw [(Gr.alloc _ _).keep _ (new_lt _ _)]; exact new_at _ _
  have hR := hG.off (Nat.le_refl _) hB [.int .i64 0, .int .i64 0, .int .i64 0, .int .i64 0, .int .i64 0, .bool false]
  have hD := load_pk hB (vs := [.int .i64 0, .int .i64 0, .int .i64 0, .int .i64 0, .int .i64 0, .bool false]) rfl rfl
  refine calls_of_loneTo fun cs => ?_
  have e : Frame.enter Tryz.prog 142 #[.pointer (some ⟨p, 0, none⟩)] .normal =
      (base 142).at ⟨#[.pointer (some ⟨p, 0, none⟩), undef, undef, undef, undef, undef, undef, undef, undef, undef, undef, undef, undef, undef, undef, undef, undef, undef, undef, undef, undef, undef, undef, undef, undef, undef, undef, undef, undef], []⟩ [.code (Tryz.f142.body.getD .skip)] := by
    simp [Frame.enter, Frame.at, Tryz.func142, base, Tryz.f142] <;> rfl
  rw [e]
  clear e
  refine LoneTo.goes (n := 60) ?_
  simp only [Tryz.f142, Option.getD_some]
  s_c stepG_seq
  s_reg
  s_op
  s_op
  s_c stepG_region_end
  s_c stepG_seq
  s_reg
  s_op
  s_c stepG_region_end
  s_c stepG_seq
  s_c stepG_seq
  s_reg
  s_op
  s_op
  s_c stepG_region_end
  s_cond false
  s_c stepG_skip
  s_c stepG_seq
  s_c stepG_seq
  s_reg
  s_op
  s_op
  s_op
  s_op
  s_c stepG_region_end
  s_c stepG_seq
  s_reg
  s_stop
  refine LoneTo.step (step_lone_select_default (c := cf) (cap := cap) (s := s) (r := r) (tm := false) (stepG_comm (cases := #[rcase cf (.agg #[.int .i64 0, .int .i64 0, .int .i64 0, .int .i64 0, .int .i64 0, .bool false])]) (blocking := false) (shape := .select) (w' := ((w.alloc (.cells #[.int .i64 0, .int .i64 0, .int .i64 0, .int .i64 0, .int .i64 0, .bool false] 115)).alloc (.cells #[.int .i64 0, .int .i64 0, .int .i64 0, .int .i64 0, .int .i64 0, .bool false] 115))) rfl rfl (by decide) (by simp [go_sem, execOp, rcase, Act.eval, *])) hc') ?_
  rw [Frame.finish_at]
  walk_nrm
  refine LoneTo.goes (n := 60) ?_
  s_op
  s_op
  s_c stepG_region_end
  s_c stepG_block
  s_cond false
  s_c stepG_skip
  s_c stepG_inBlock
  s_c stepG_seq
  s_reg
  s_op
  s_op
  s_op
  s_op
  s_c stepG_region_end
  s_c stepG_seq
  s_reg
  s_stop
  refine LoneTo.step (step_lone_select_default (c := cl) (cap := capl) (s := sl) (r := rl) (tm := false) (stepG_comm (cases := #[rcase cl (.agg #[.int .i64 0, .int .i64 0, .int .i64 0, .int .i64 0, .int .i64 0, .bool false])]) (blocking := false) (shape := .select) (w' := ((w.alloc (.cells #[.int .i64 0, .int .i64 0, .int .i64 0, .int .i64 0, .int .i64 0, .bool false] 115)).alloc (.cells #[.int .i64 0, .int .i64 0, .int .i64 0, .int .i64 0, .int .i64 0, .bool false] 115))) rfl rfl (by decide) (by simp [go_sem, execOp, rcase, Act.eval, *])) hl') ?_
  rw [Frame.finish_at]
  walk_nrm
  refine LoneTo.goes (n := 60) ?_
  s_op
  s_op
  s_c stepG_region_end
  s_c stepG_block
  s_cond false
  s_c stepG_seq
  s_reg
  s_op
  s_in
  refine goes_oper_k rfl rfl (by decide) (fun K hK => ?_)
  rw [store_pk (b := w.heap.size) (hB) rfl rfl rfl rfl (by decide) (by simp [Value.oneCell'])]
  refine hK _ _ ⟨trivial, ?_⟩
  clear hK K
  s_op
  s_c stepG_region_end
  s_c stepG_ret'
  s_stop
  exact LoneTo.done ⟨.returned (.tuple #[(.agg #[.int .i64 0, .int .i64 0, .int .i64 0, .int .i64 0, .int .i64 0, .bool false]), .bool false]), _, rfl, ⟨rfl, hR⟩, rfl, rfl, rfl, rfl, _, Tryz.func142, by simp [results, Tryz.f142, Frame.at, asAddr, hD]⟩

set_option maxRecDepth 100000 in
set_option maxHeartbeats 4000000 in
theorem htakeP_nil (w : World) : Calls Tryz.prog 142 #[.pointer none] w fun e w' =>
      e = .returned (.tuple #[(.agg #[.int .i64 0, .int .i64 0, .int .i64 0, .int .i64 0, .int .i64 0, .bool false]), .bool false]) ∧ Gr w w' := by
  have hG : Gr w ((w.alloc (.cells #[.int .i64 0, .int .i64 0, .int .i64 0, .int .i64 0, .int .i64 0, .bool false] 115)).alloc (.cells #[.int .i64 0, .int .i64 0, .int .i64 0, .int .i64 0, .int .i64 0, .bool false] 115)) := (Gr.alloc w _).trans (Gr.alloc _ _)
  have hB : ((w.alloc (.cells #[.int .i64 0, .int .i64 0, .int .i64 0, .int .i64 0, .int .i64 0, .bool false] 115)).alloc (.cells #[.int .i64 0, .int .i64 0, .int .i64 0, .int .i64 0, .int .i64 0, .bool false] 115)).heap[w.heap.size]? = some (.cells #[.int .i64 0, .int .i64 0, .int .i64 0, .int .i64 0, .int .i64 0, .bool false] 115 (0, 0)) := by
    rw [(Gr.alloc _ _).keep _ (new_lt _ _)]; exact new_at _ _
  have hR := hG.off (Nat.le_refl _) hB [.int .i64 0, .int .i64 0, .int .i64 0, .int .i64 0, .int .i64 0, .bool false]
  have hD := load_pk hB (vs := [.int .i64 0, .int .i64 0, .int .i64 0, .int .i64 0, .int .i64 0, .bool false]) rfl rfl
  refine calls_of_loneTo fun cs => ?_
  have e : Frame.enter Tryz.prog 142 #[.pointer none] .normal =
      (base 142).at ⟨#[.pointer none, undef, undef, undef, undef, undef, undef, undef, undef, undef, undef, undef, undef, undef, undef, undef, undef, undef, undef, undef, undef, undef, undef, undef, undef, undef, undef, undef, undef], []⟩ [.code (Tryz.f142.body.getD .skip)] := by
    simp [Frame.enter, Frame.at, Tryz.func142, base, Tryz.f142] <;> rfl
  rw [e]
  clear e
  refine LoneTo.goes (n := 60) ?_
  simp only [Tryz.f142, Option.getD_some]
  s_c stepG_seq
  s_reg
  s_op
  s_op
  s_c stepG_region_end
  s_c stepG_seq
  s_reg
  s_op
  s_c stepG_region_end
  s_c stepG_seq
  s_c stepG_seq
  s_reg
  s_op
  s_op
  s_c stepG_region_end
  s_cond true
  s_c stepG_seq
  s_reg
  s_op
  s_in
  refine goes_oper_k rfl rfl (by decide) (fun K hK => ?_)
  rw [store_pk (b := w.heap.size) (hB) rfl rfl rfl rfl (by decide) (by simp [Value.oneCell'])]
  refine hK _ _ ⟨trivial, ?_⟩
  clear hK K
  s_op
  s_c stepG_region_end
  s_c stepG_ret'
  s_stop
  exact LoneTo.done ⟨.returned (.tuple #[(.agg #[.int .i64 0, .int .i64 0, .int .i64 0, .int .i64 0, .int .i64 0, .bool false]), .bool false]), _, rfl, ⟨rfl, hR⟩, rfl, rfl, rfl, rfl, _, Tryz.func142, by simp [results, Tryz.f142, Frame.at, asAddr, hD]⟩

def okPkV (v : Value) : Prop := ∃ (i0 i1 i2 i3 i4 : Int) (i5 : Bool), v = (.agg #[.int .i64 i0, .int .i64 i1, .int .i64 i2, .int .i64 i3, .int .i64 i4, .bool i5])
theorem okPk_ok (ρ : Ren) (x : AV) (v : Value) (h : okPk x = true) (hv : V ρ x v) : okPkV v := by
  unfold okPk at h
  split at h
  · obtain ⟨vs, ⟨_, _, rfl, rfl, _, _, rfl, rfl, _, _, rfl, rfl, _, _, rfl, rfl, _, _, rfl, rfl, _, _, rfl, rfl, h0⟩, rfl⟩ := hv
    cases (show _ = [] from h0)
    exact ⟨_, _, _, _, _, _, rfl⟩
  · cases h
theorem hook_putP : HookAt Tryz.prog 251 (hPut okPk) := hput_at (okv := okPkV) okPk_ok
  (fun p c cap s r buf x w ⟨i0, i1, i2, i3, i4, i5, hx⟩ hc hr => by subst hx; exact (hputP_room p c cap s r buf i0 i1 i2 i3 i4 i5 w hc hr).mono fun e w' ⟨a, b⟩ => ⟨a, by subst b; exact ChG.after (Gr.alloc _ _) (ChG.set (Nat.lt_trans (Array.getElem?_eq_some_iff.1 hc).1 (new_lt _ _)))⟩)
  (fun p c cap s r buf x n w ⟨i0, i1, i2, i3, i4, i5, hx⟩ hc hr hn hz h1 => by
    subst hx
    have hp : p < w.heap.size := by
      rcases Nat.lt_or_ge p w.heap.size with q | q
      · exact q
      · simp [World.cell?, Array.getElem?_eq_none q] at hn
    exact (hputP_full p c cap s r buf i0 i1 i2 i3 i4 i5 n w hc hr ((Gr.alloc _ _).cell hn) (((Gr.alloc _ _).frozen hp).trans hz) h1).mono fun e w' ⟨a, b⟩ => ⟨a, _, Gr.alloc _ _, b⟩)
theorem hook_takeP : HookAt Tryz.prog 142 (hTake okPk zPacket) := htake_at (okv := okPkV) okPk_ok (zv := (.agg #[.int .i64 0, .int .i64 0, .int .i64 0, .int .i64 0, .int .i64 0, .bool false])) (fun ρ => ⟨[.int .i64 0, .int .i64 0, .int .i64 0, .int .i64 0, .int .i64 0, .bool false], ⟨_, _, rfl, rfl, _, _, rfl, rfl, _, _, rfl, rfl, _, _, rfl, rfl, _, _, rfl, rfl, _, _, rfl, rfl, rfl⟩, rfl⟩)
  (fun p cf cap s r buf bt v w h0 hc hr ⟨i0, i1, i2, i3, i4, i5, hx⟩ hv ht => by subst hx; exact htakeP_fast p cf cap s r buf bt i0 i1 i2 i3 i4 i5 w h0 hc hr hv ht)
  (fun p cf cl cap s r capl sl rl buf bt v w h0 h1 hc hl hr ⟨i0, i1, i2, i3, i4, i5, hx⟩ hv ht => by subst hx; exact htakeP_slow p cf cl cap s r capl sl rl buf bt i0 i1 i2 i3 i4 i5 w h0 h1 hc hl hr hv ht)
  (fun p cf cl cap s r capl sl rl w h0 h1 hc hl => htakeP_none p cf cl cap s r capl sl rl w h0 h1 hc hl)
  (fun w => htakeP_nil w)
end Go.Proofs.YtkjdclpneaepkaaGreat
end

section
open Go Go.Proofs Go.Maps
open Go.WideElems (Fit rg)
open Go.Ev (HookAt HR V Vs AV keyI keyS Gr hSortedI hSortedS hsorted_at)
namespace Go.Proofs.YtkjdclpneaepkaaGreat
def R0 (_ : Value) : Option (DataW Unit × List MemPlace) := some (.lit (.bool true), [])
theorem owns0 {P : Program} {t : TypeId} {w : World} {b clk : Nat} {ents : Array MapEntry} (hb : w.heap[b]? = some (.map ents clk)) (hst : MapKept.Stamped ents clk) (hsz : ents.size ≤ 1000000) {L : Value → Lit} (hk : ∀ m ∈ ents.toList, keyOf P t m.key = some (L m.key)) :
    ∃ es : List (Lit × DataW Unit), w.ownsMap P t R0 b ents.size (.map es) ∧ (es.map (·.1)).Perm (ents.toList.map fun m => L m.key) ∧ es.length = ents.size := by
  refine ⟨(ents.toList.map (rg P t R0)).foldr DataW.insert [], ⟨ents, clk, hb, ⟨by unfold maxLen; omega, hst, fun x hx => ⟨_, by unfold WideElems.rd; rw [hk x hx]; rfl⟩⟩, Nat.le_refl _, rfl⟩, ?_, by rw [length_sorted]; simp⟩
  refine ((WideShapes.sorted_perm _).map (·.1)).trans ?_
  rw [List.map_map]
  exact List.Perm.of_eq (List.map_congr_left fun m hm => by show (rg P t R0 m).1 = _; unfold rg WideElems.rd; rw [hk m hm]; rfl)
def encN (n : Nat) : Value := .int .i64 (.ofNat n)
theorem keyI_ok (ρ : Go.Ev.Ren) (x : AV) (v : Value) (k : Nat) (e : keyI x = some k) (hv : V ρ x v) : v = encN k ∧ k < 9223372036854775808 := by
  unfold keyI at e
  split at e
  · rename_i n
    cases hb : Nat.blt n 9223372036854775808 with
    | false => rw [hb] at e; cases e
    | true => rw [hb] at e; cases e; exact ⟨hv, by simpa using hb⟩
  · cases e
theorem ownsI {t : TypeId} (ht : Tryz.prog.underlying t = some (.int .i64)) {w : World} {b clk : Nat} {ents : Array MapEntry} (hb : w.heap[b]? = some (.map ents clk)) (hst : MapKept.Stamped ents clk) (hsz : ents.size ≤ 1000000) {ks : List Nat} (h1 : ents.toList.map (·.key) = ks.map encN) (h2 : ∀ k ∈ ks, k < 9223372036854775808) :
    ∃ D : DataW Unit, w.ownsMap Tryz.prog t R0 b ents.size D ∧ (intKeys D).Perm (ks.map Int.ofNat) ∧ Maps.size D = ents.size := by
  have hm : ∀ m ∈ ents.toList, ∃ k ∈ ks, m.key = encN k := fun m hm => by
    have : m.key ∈ ents.toList.map (·.key) := List.mem_map.2 ⟨m, hm, rfl⟩
    rw [h1] at this
    obtain ⟨k, hk, e⟩ := List.mem_map.1 this
    exact ⟨k, hk, e.symm⟩
  obtain ⟨es, a, c, d⟩ := owns0 (P := Tryz.prog) (t := t) hb hst hsz (L := fun v => match v with | .int q n => .int q n | _ => .bool false) (fun m hm' => by
    obtain ⟨k, hk, e⟩ := hm m hm'
    rw [e]
    exact keyOf_int_mk ht (WalkArith.wf_i64 (by have := h2 k hk; simp only [Int.ofNat_eq_natCast]; omega)))
  refine ⟨.map es, a, ?_, by rw [size_eq]; exact d⟩
  show (es.map fun p => Go.intOf p.1).Perm _
  have h3 := c.map Go.intOf
  rw [List.map_map, List.map_map] at h3
  refine h3.trans (List.Perm.of_eq ?_)
  have h4 := congrArg (List.map fun v : Value => match v with | .int _ n => n | _ => 0) h1
  rw [List.map_map, List.map_map] at h4
  refine Eq.trans (List.map_congr_left fun m hm' => ?_) h4
  obtain ⟨k, hk, e⟩ := hm m hm'
  simp only [Function.comp, e, encN, Go.intOf]
/-- at the program -/
theorem gr_of {w w' : World} (h : RowKit.Below w.heap.size w w') : Gr w w' := ⟨h.os, h.tape, h.output, h.size, h.block⟩
theorem lt_cell {w : World} {g o : Nat} {v : Value} (h : w.cell? ⟨g, o, none⟩ = some v) : g < w.heap.size := by
  rcases Nat.lt_or_ge g w.heap.size with q | q
  · exact q
  · simp [World.cell?, Array.getElem?_eq_none q] at h
theorem sorted_is {ss : List Int} {r : List Nat} (h : ss.Perm (r.map Int.ofNat)) (hr : r.Pairwise (· < ·)) : ss.mergeSort (fun x y => decide (x ≤ y)) = r.map Int.ofNat := by
  refine (mergeSort_of_perm_i h).trans ?_
  exact List.mergeSort_of_pairwise (List.pairwise_map.2 (hr.imp fun {a b} h => by simp only [leI, decide_eq_true_eq, Int.ofNat_eq_natCast]; omega))
theorem sortsAX (m : Nat) : AnyZI.SortsIn Tryz.prog Tryz.sortedA_ren Fence.wide m :=
  ⟨fun blk off cap ss W hH hblk hsz => callsIn_wide.2 (AnyM.slices_Sort_int Tryz.sortA blk off cap ss W hH hblk hsz),
   fun p cap W => callsIn_wide.2 (AnyM.slices_Sort_int_none Tryz.sortA p cap W)⟩
theorem sortsLX (m : Nat) : AnyZI.SortsIn Tryz.prog Tryz.sortedL_ren Fence.wide m :=
  ⟨fun blk off cap ss W hH hblk hsz => callsIn_wide.2 (AnyM.slices_Sort_int Tryz.sortL blk off cap ss W hH hblk hsz),
   fun p cap W => callsIn_wide.2 (AnyM.slices_Sort_int_none Tryz.sortL p cap W)⟩
set_option maxHeartbeats 1000000 in
theorem srtAB_nil (g : Nat) (w : World) (hc : w.cell? ⟨g, 0, none⟩ = some (.map none)) :
    Calls Tryz.prog 65 #[.func (.func 330) #[] #[.pointer (some ⟨g, 0, none⟩)]] w fun e w' => e = .returned (.slice none 0 0) ∧ Gr w w' := by
  refine (callsIn_wide (n := 5)).1 ?_
  have hseq : SeqGives Fence.wide 2 Tryz.prog 330 #[.pointer (some ⟨g, 0, none⟩)] encZ (fun ss => ss = []) 0 w :=
    AnyZI.keys_gives_nil (ρ := Tryz.keysA_ren) { Tryz.keysA with } Fence.wide _ trivial rfl g w (lt_cell hc) hc
  have cS := AnyZI.sorted_in Tryz.sortedA Fence.wide 5 trivial trivial trivial trivial rfl (by omega) (sortsAX _) (enters_of Tryz.func121 (by kernel_rfl) rfl) 330 #[.pointer (some ⟨g, 0, none⟩)] trivial (enters_of Tryz.func330 (by kernel_rfl) rfl) _ _ (by decide) (by decide) _ hseq
  change CallsIn _ _ Tryz.prog 65 _ _ _ at cS
  refine cS.mono ?_
  rintro e w' ⟨v, ss, rfl, hS, hrow, hnil, hB⟩
  exact ⟨by rw [hnil.2 hS], gr_of hB⟩
set_option maxHeartbeats 1000000 in
theorem srtAB_map (g b clk : Nat) (ents : Array MapEntry) (w : World) (hc : w.cell? ⟨g, 0, none⟩ = some (.map (some b))) (hb : w.heap[b]? = some (.map ents clk)) (hst : MapKept.Stamped ents clk) (hsz : ents.size ≤ 1000000) (ks r : List Nat) (h1 : ents.toList.map (·.key) = ks.map encN) (h2 : ∀ k ∈ ks, k < 9223372036854775808) (h3 : r.Pairwise (· < ·)) (h4 : r.Perm ks) :
    Calls Tryz.prog 65 #[.func (.func 330) #[] #[.pointer (some ⟨g, 0, none⟩)]] w fun e w' => ∃ v, e = .returned v ∧ w'.ownsRow w.heap.size 3 1 v r.length (r.map encN) ∧ (v = .slice none 0 0 ↔ r = []) ∧ Gr w w' := by
  refine (callsIn_wide (n := 5)).1 ?_
  obtain ⟨D, hown, hperm, hsz'⟩ := ownsI Tryz.underlying3 hb hst hsz h1 h2
  have hmax : Maps.size D ≤ maxLen := by rw [hsz']; unfold maxLen; omega
  have hbytes : Maps.size D * 8 ≤ 140737488355328 := by omega
  have hseq : SeqGives Fence.wide 2 Tryz.prog 330 #[.pointer (some ⟨g, 0, none⟩)] encZ (fun ss => ss.Perm (intKeys D)) (Maps.size D) w :=
    AnyZI.keys_gives (ρ := Tryz.keysA_ren) { Tryz.keysA with } Fence.wide _ trivial rfl (by omega) g b ents.size D w (lt_cell hc) hc hown
  have cS := AnyZI.sorted_in Tryz.sortedA Fence.wide 5 trivial trivial trivial trivial rfl (by omega) (sortsAX _) (enters_of Tryz.func121 (by kernel_rfl) rfl) 330 #[.pointer (some ⟨g, 0, none⟩)] trivial (enters_of Tryz.func330 (by kernel_rfl) rfl) _ _ hmax hbytes _ hseq
  change CallsIn _ _ Tryz.prog 65 _ _ _ at cS
  refine cS.mono ?_
  rintro e w' ⟨v, ss, rfl, hS, hrow, hnil, hB⟩
  have hp : ss.Perm (r.map Int.ofNat) := hS.trans (hperm.trans (h4.symm.map _))
  have hl : ss.length = r.length := by rw [hp.length_eq, List.length_map]
  rw [sorted_is hp h3, hl, List.map_map] at hrow
  exact ⟨v, rfl, hrow, by rw [hnil, ← List.length_eq_zero_iff, hl, List.length_eq_zero_iff], gr_of hB⟩
set_option maxHeartbeats 1000000 in
theorem srtAI_nil (g : Nat) (w : World) (hc : w.cell? ⟨g, 0, none⟩ = some (.map none)) :
    Calls Tryz.prog 65 #[.func (.func 122) #[] #[.pointer (some ⟨g, 0, none⟩)]] w fun e w' => e = .returned (.slice none 0 0) ∧ Gr w w' := by
  refine (callsIn_wide (n := 5)).1 ?_
  have hseq : SeqGives Fence.wide 2 Tryz.prog 122 #[.pointer (some ⟨g, 0, none⟩)] encZ (fun ss => ss = []) 0 w :=
    AnyZI.keys_gives_nil (ρ := Tryz.keysB_ren) { Tryz.keysB with } Fence.wide _ trivial rfl g w (lt_cell hc) hc
  have cS := AnyZI.sorted_in Tryz.sortedA Fence.wide 5 trivial trivial trivial trivial rfl (by omega) (sortsAX _) (enters_of Tryz.func121 (by kernel_rfl) rfl) 122 #[.pointer (some ⟨g, 0, none⟩)] trivial (enters_of Tryz.func122 (by kernel_rfl) rfl) _ _ (by decide) (by decide) _ hseq
  change CallsIn _ _ Tryz.prog 65 _ _ _ at cS
  refine cS.mono ?_
  rintro e w' ⟨v, ss, rfl, hS, hrow, hnil, hB⟩
  exact ⟨by rw [hnil.2 hS], gr_of hB⟩
set_option maxHeartbeats 1000000 in
theorem srtAI_map (g b clk : Nat) (ents : Array MapEntry) (w : World) (hc : w.cell? ⟨g, 0, none⟩ = some (.map (some b))) (hb : w.heap[b]? = some (.map ents clk)) (hst : MapKept.Stamped ents clk) (hsz : ents.size ≤ 1000000) (ks r : List Nat) (h1 : ents.toList.map (·.key) = ks.map encN) (h2 : ∀ k ∈ ks, k < 9223372036854775808) (h3 : r.Pairwise (· < ·)) (h4 : r.Perm ks) :
    Calls Tryz.prog 65 #[.func (.func 122) #[] #[.pointer (some ⟨g, 0, none⟩)]] w fun e w' => ∃ v, e = .returned v ∧ w'.ownsRow w.heap.size 3 1 v r.length (r.map encN) ∧ (v = .slice none 0 0 ↔ r = []) ∧ Gr w w' := by
  refine (callsIn_wide (n := 5)).1 ?_
  obtain ⟨D, hown, hperm, hsz'⟩ := ownsI Tryz.underlying3 hb hst hsz h1 h2
  have hmax : Maps.size D ≤ maxLen := by rw [hsz']; unfold maxLen; omega
  have hbytes : Maps.size D * 8 ≤ 140737488355328 := by omega
  have hseq : SeqGives Fence.wide 2 Tryz.prog 122 #[.pointer (some ⟨g, 0, none⟩)] encZ (fun ss => ss.Perm (intKeys D)) (Maps.size D) w :=
    AnyZI.keys_gives (ρ := Tryz.keysB_ren) { Tryz.keysB with } Fence.wide _ trivial rfl (by omega) g b ents.size D w (lt_cell hc) hc hown
  have cS := AnyZI.sorted_in Tryz.sortedA Fence.wide 5 trivial trivial trivial trivial rfl (by omega) (sortsAX _) (enters_of Tryz.func121 (by kernel_rfl) rfl) 122 #[.pointer (some ⟨g, 0, none⟩)] trivial (enters_of Tryz.func122 (by kernel_rfl) rfl) _ _ hmax hbytes _ hseq
  change CallsIn _ _ Tryz.prog 65 _ _ _ at cS
  refine cS.mono ?_
  rintro e w' ⟨v, ss, rfl, hS, hrow, hnil, hB⟩
  have hp : ss.Perm (r.map Int.ofNat) := hS.trans (hperm.trans (h4.symm.map _))
  have hl : ss.length = r.length := by rw [hp.length_eq, List.length_map]
  rw [sorted_is hp h3, hl, List.map_map] at hrow
  exact ⟨v, rfl, hrow, by rw [hnil, ← List.length_eq_zero_iff, hl, List.length_eq_zero_iff], gr_of hB⟩
set_option maxHeartbeats 1000000 in
theorem srtLI_nil (g : Nat) (w : World) (hc : w.cell? ⟨g, 0, none⟩ = some (.map none)) :
    Calls Tryz.prog 477 #[.func (.func 506) #[] #[.pointer (some ⟨g, 0, none⟩)]] w fun e w' => e = .returned (.slice none 0 0) ∧ Gr w w' := by
  refine (callsIn_wide (n := 5)).1 ?_
  have hseq : SeqGives Fence.wide 2 Tryz.prog 506 #[.pointer (some ⟨g, 0, none⟩)] encZ (fun ss => ss = []) 0 w :=
    AnyZI.keys_gives_nil (ρ := Tryz.keysL_ren) { Tryz.keysL with } Fence.wide _ trivial rfl g w (lt_cell hc) hc
  have cS := AnyZI.sorted_in Tryz.sortedL Fence.wide 5 trivial trivial trivial trivial rfl (by omega) (sortsLX _) (enters_of Tryz.func188 (by kernel_rfl) rfl) 506 #[.pointer (some ⟨g, 0, none⟩)] trivial (enters_of Tryz.func506 (by kernel_rfl) rfl) _ _ (by decide) (by decide) _ hseq
  change CallsIn _ _ Tryz.prog 477 _ _ _ at cS
  refine cS.mono ?_
  rintro e w' ⟨v, ss, rfl, hS, hrow, hnil, hB⟩
  exact ⟨by rw [hnil.2 hS], gr_of hB⟩
set_option maxHeartbeats 1000000 in
theorem srtLI_map (g b clk : Nat) (ents : Array MapEntry) (w : World) (hc : w.cell? ⟨g, 0, none⟩ = some (.map (some b))) (hb : w.heap[b]? = some (.map ents clk)) (hst : MapKept.Stamped ents clk) (hsz : ents.size ≤ 1000000) (ks r : List Nat) (h1 : ents.toList.map (·.key) = ks.map encN) (h2 : ∀ k ∈ ks, k < 9223372036854775808) (h3 : r.Pairwise (· < ·)) (h4 : r.Perm ks) :
    Calls Tryz.prog 477 #[.func (.func 506) #[] #[.pointer (some ⟨g, 0, none⟩)]] w fun e w' => ∃ v, e = .returned v ∧ w'.ownsRow w.heap.size 2 1 v r.length (r.map encN) ∧ (v = .slice none 0 0 ↔ r = []) ∧ Gr w w' := by
  refine (callsIn_wide (n := 5)).1 ?_
  obtain ⟨D, hown, hperm, hsz'⟩ := ownsI Tryz.underlying2 hb hst hsz h1 h2
  have hmax : Maps.size D ≤ maxLen := by rw [hsz']; unfold maxLen; omega
  have hbytes : Maps.size D * 8 ≤ 140737488355328 := by omega
  have hseq : SeqGives Fence.wide 2 Tryz.prog 506 #[.pointer (some ⟨g, 0, none⟩)] encZ (fun ss => ss.Perm (intKeys D)) (Maps.size D) w :=
    AnyZI.keys_gives (ρ := Tryz.keysL_ren) { Tryz.keysL with } Fence.wide _ trivial rfl (by omega) g b ents.size D w (lt_cell hc) hc hown
  have cS := AnyZI.sorted_in Tryz.sortedL Fence.wide 5 trivial trivial trivial trivial rfl (by omega) (sortsLX _) (enters_of Tryz.func188 (by kernel_rfl) rfl) 506 #[.pointer (some ⟨g, 0, none⟩)] trivial (enters_of Tryz.func506 (by kernel_rfl) rfl) _ _ hmax hbytes _ hseq
  change CallsIn _ _ Tryz.prog 477 _ _ _ at cS
  refine cS.mono ?_
  rintro e w' ⟨v, ss, rfl, hS, hrow, hnil, hB⟩
  have hp : ss.Perm (r.map Int.ofNat) := hS.trans (hperm.trans (h4.symm.map _))
  have hl : ss.length = r.length := by rw [hp.length_eq, List.length_map]
  rw [sorted_is hp h3, hl, List.map_map] at hrow
  exact ⟨v, rfl, hrow, by rw [hnil, ← List.length_eq_zero_iff, hl, List.length_eq_zero_iff], gr_of hB⟩
theorem hook_sortedI : HookAt Tryz.prog 65 (hSortedI [122, 330]) := hsorted_at (t := 3) (enc := encN) (ok := fun k => k < 9223372036854775808) (R := (· < ·)) keyI_ok (fun ρ k => rfl) (fun a b h e => by unfold encN at e; injection e with _ e; exact Nat.ne_of_lt h (Int.ofNat.inj e)) (fun a b h => by simpa using h) (fun a b c h k => Nat.lt_trans h k)
  (fun f' hf g w hc => by
    rcases List.mem_cons.1 hf with rfl | hf
    · exact srtAI_nil g w hc
    · cases List.mem_singleton.1 hf
      exact srtAB_nil g w hc)
  (fun f' hf g b clk ents w hc hb hst hsz ks r h1 h2 h3 h4 => by
    rcases List.mem_cons.1 hf with rfl | hf
    · exact srtAI_map g b clk ents w hc hb hst hsz ks r h1 h2 h3 h4
    · cases List.mem_singleton.1 hf
      exact srtAB_map g b clk ents w hc hb hst hsz ks r h1 h2 h3 h4)
theorem hook_sortedL : HookAt Tryz.prog 477 (hSortedI [506]) := hsorted_at (t := 2) (enc := encN) (ok := fun k => k < 9223372036854775808) (R := (· < ·)) keyI_ok (fun ρ k => rfl) (fun a b h e => by unfold encN at e; injection e with _ e; exact Nat.ne_of_lt h (Int.ofNat.inj e)) (fun a b h => by simpa using h) (fun a b c h k => Nat.lt_trans h k)
  (fun f' hf g w hc => by
    cases List.mem_singleton.1 hf
    exact srtLI_nil g w hc)
  (fun f' hf g b clk ents w hc hb hst hsz ks r h1 h2 h3 h4 => by
    cases List.mem_singleton.1 hf
    exact srtLI_map g b clk ents w hc hb hst hsz ks r h1 h2 h3 h4)
end Go.Proofs.YtkjdclpneaepkaaGreat
end

section
open Go Go.Proofs Go.Maps
open Go.Ev (HookAt HR V Vs AV keyS Gr hSortedS hsorted_at bsOf)
namespace Go.Proofs.YtkjdclpneaepkaaGreat
def byS (l : List Nat) : List UInt8 := l.map UInt8.ofNat
def encB (l : List Nat) : Value := .string (bsOf l)
theorem encB_eq (l : List Nat) : encB l = encStr (byS l) := by simp [encB, encStr, bsOf, byS]
theorem keyS_ok (ρ : Go.Ev.Ren) (x : AV) (v : Value) (k : List Nat) (e : keyS x = some k) (hv : V ρ x v) : v = encB k ∧ k.length ≤ 1000000 := by
  unfold keyS at e
  split at e
  · rename_i l
    cases hb : Nat.ble (Go.Ev.lenL l) 1000000 with
    | false => rw [hb] at e; cases e
    | true => rw [hb] at e; cases e; exact ⟨hv, by rw [← Go.Ev.lenL_eq]; exact Nat.le_of_ble_eq_true hb⟩
  · cases e
theorem ownsS {t : TypeId} (ht : Tryz.prog.underlying t = some .string) {w : World} {b clk : Nat} {ents : Array MapEntry} (hb : w.heap[b]? = some (.map ents clk)) (hst : MapKept.Stamped ents clk) (hsz : ents.size ≤ 1000000) {ks : List (List Nat)} (h1 : ents.toList.map (·.key) = ks.map encB) (h2 : ∀ k ∈ ks, k.length ≤ 1000000) :
    ∃ D : DataW Unit, w.ownsMap Tryz.prog t R0 b ents.size D ∧ (strKeys D).Perm (ks.map byS) ∧ Maps.size D = ents.size := by
  have hm : ∀ m ∈ ents.toList, ∃ k ∈ ks, m.key = encB k := fun m hm => by
    have : m.key ∈ ents.toList.map (·.key) := List.mem_map.2 ⟨m, hm, rfl⟩
    rw [h1] at this
    obtain ⟨k, hk, e⟩ := List.mem_map.1 this
    exact ⟨k, hk, e.symm⟩
  obtain ⟨es, a, c, d⟩ := owns0 (P := Tryz.prog) (t := t) hb hst hsz (L := fun v => match v with | .string s => .string s.data.toList | _ => .bool false) (fun m hm' => by
    obtain ⟨k, hk, e⟩ := hm m hm'
    rw [e]
    exact WideMaps.keyOf_string_mk ht (by have := h2 k hk; show (bsOf k).size ≤ maxLen; unfold maxLen; simp [bsOf, ByteArray.size]; omega))
  refine ⟨.map es, a, ?_, by rw [size_eq]; exact d⟩
  show (es.map fun p => Go.strOf p.1).Perm _
  have h3 := c.map Go.strOf
  rw [List.map_map, List.map_map] at h3
  refine h3.trans (List.Perm.of_eq ?_)
  have h4 := congrArg (List.map fun v : Value => match v with | .string s => s.data.toList | _ => []) h1
  rw [List.map_map, List.map_map] at h4
  refine (Eq.trans (List.map_congr_left fun m hm' => ?_) h4).trans (List.map_congr_left fun k _ => by simp [encB, bsOf, byS])
  obtain ⟨k, hk, e⟩ := hm m hm'
  simp only [Function.comp, e, encB, Go.strOf]
theorem sorted_isS {ss : List (List UInt8)} {r : List (List Nat)} (h : ss.Perm (r.map byS)) (hr : r.Pairwise (fun a b => byS a < byS b)) : ss.mergeSort (fun x y => decide (x ≤ y)) = r.map byS := by
  refine (mergeSort_of_perm h).trans ?_
  exact List.mergeSort_of_pairwise (List.pairwise_map.2 (hr.imp fun {a b} h => by simp only [leB, decide_eq_true_eq]; exact List.le_of_lt h))
theorem sortsSX (m : Nat) : AnyZ.SortsIn Tryz.prog Tryz.sortedS_ren Fence.wide m :=
  ⟨fun blk off cap ss W hH hblk hsz => callsIn_wide.2 (AnyM.slices_Sort_string Tryz.sortS blk off cap ss W hH hblk hsz),
   fun p cap W => callsIn_wide.2 (AnyM.slices_Sort_string_none Tryz.sortS p cap W)⟩
set_option maxHeartbeats 1000000 in
theorem srtSE_nil (g : Nat) (w : World) (hc : w.cell? ⟨g, 0, none⟩ = some (.map none)) :
    Calls Tryz.prog 507 #[.func (.func 527) #[] #[.pointer (some ⟨g, 0, none⟩)]] w fun e w' => e = .returned (.slice none 0 0) ∧ Gr w w' := by
  refine (callsIn_wide (n := 5)).1 ?_
  have hseq : SeqGives Fence.wide 2 Tryz.prog 527 #[.pointer (some ⟨g, 0, none⟩)] encStr (fun ss => ss = []) 0 w :=
    AnyZ.keys_gives_nil (ρ := Tryz.keysE_ren) { Tryz.keysE with } Fence.wide _ trivial rfl g w (lt_cell hc) hc
  have cS := AnyZ.sorted_in Tryz.sortedS Fence.wide 5 trivial trivial trivial trivial rfl (by omega) (sortsSX _) (enters_of Tryz.func385 (by kernel_rfl) rfl) 527 #[.pointer (some ⟨g, 0, none⟩)] trivial (enters_of Tryz.func527 (by kernel_rfl) rfl) _ _ (by decide) (by decide) _ hseq
  change CallsIn _ _ Tryz.prog 507 _ _ _ at cS
  refine cS.mono ?_
  rintro e w' ⟨v, ss, rfl, hS, hrow, hnil, hB⟩
  exact ⟨by rw [hnil.2 hS], gr_of hB⟩
set_option maxHeartbeats 1000000 in
theorem srtSE_map (g b clk : Nat) (ents : Array MapEntry) (w : World) (hc : w.cell? ⟨g, 0, none⟩ = some (.map (some b))) (hb : w.heap[b]? = some (.map ents clk)) (hst : MapKept.Stamped ents clk) (hsz : ents.size ≤ 1000000) (ks r : List (List Nat)) (h1 : ents.toList.map (·.key) = ks.map encB) (h2 : ∀ k ∈ ks, k.length ≤ 1000000) (h3 : r.Pairwise (fun a b => byS a < byS b)) (h4 : r.Perm ks) :
    Calls Tryz.prog 507 #[.func (.func 527) #[] #[.pointer (some ⟨g, 0, none⟩)]] w fun e w' => ∃ v, e = .returned v ∧ w'.ownsRow w.heap.size 9 1 v r.length (r.map encB) ∧ (v = .slice none 0 0 ↔ r = []) ∧ Gr w w' := by
  refine (callsIn_wide (n := 5)).1 ?_
  obtain ⟨D, hown, hperm, hsz'⟩ := ownsS Tryz.underlying9 hb hst hsz h1 h2
  have hmax : Maps.size D ≤ maxLen := by rw [hsz']; unfold maxLen; omega
  have hbytes : Maps.size D * 16 ≤ 140737488355328 := by omega
  have hseq : SeqGives Fence.wide 2 Tryz.prog 527 #[.pointer (some ⟨g, 0, none⟩)] encStr (fun ss => ss.Perm (strKeys D)) (Maps.size D) w :=
    AnyZ.keys_gives (ρ := Tryz.keysE_ren) { Tryz.keysE with } Fence.wide _ trivial rfl (by omega) g b ents.size D w (lt_cell hc) hc hown
  have cS := AnyZ.sorted_in Tryz.sortedS Fence.wide 5 trivial trivial trivial trivial rfl (by omega) (sortsSX _) (enters_of Tryz.func385 (by kernel_rfl) rfl) 527 #[.pointer (some ⟨g, 0, none⟩)] trivial (enters_of Tryz.func527 (by kernel_rfl) rfl) _ _ hmax hbytes _ hseq
  change CallsIn _ _ Tryz.prog 507 _ _ _ at cS
  refine cS.mono ?_
  rintro e w' ⟨v, ss, rfl, hS, hrow, hnil, hB⟩
  have hp : ss.Perm (r.map byS) := hS.trans (hperm.trans (h4.symm.map _))
  have hl : ss.length = r.length := by rw [hp.length_eq, List.length_map]
  rw [sorted_isS hp h3, hl, List.map_map, show encStr ∘ byS = encB from funext fun l => (encB_eq l).symm] at hrow
  exact ⟨v, rfl, hrow, by rw [hnil, ← List.length_eq_zero_iff, hl, List.length_eq_zero_iff], gr_of hB⟩
set_option maxHeartbeats 1000000 in
theorem srtSB_nil (g : Nat) (w : World) (hc : w.cell? ⟨g, 0, none⟩ = some (.map none)) :
    Calls Tryz.prog 507 #[.func (.func 544) #[] #[.pointer (some ⟨g, 0, none⟩)]] w fun e w' => e = .returned (.slice none 0 0) ∧ Gr w w' := by
  refine (callsIn_wide (n := 5)).1 ?_
  have hseq : SeqGives Fence.wide 2 Tryz.prog 544 #[.pointer (some ⟨g, 0, none⟩)] encStr (fun ss => ss = []) 0 w :=
    AnyZ.keys_gives_nil (ρ := Tryz.keysS_ren) { Tryz.keysS with } Fence.wide _ trivial rfl g w (lt_cell hc) hc
  have cS := AnyZ.sorted_in Tryz.sortedS Fence.wide 5 trivial trivial trivial trivial rfl (by omega) (sortsSX _) (enters_of Tryz.func385 (by kernel_rfl) rfl) 544 #[.pointer (some ⟨g, 0, none⟩)] trivial (enters_of Tryz.func544 (by kernel_rfl) rfl) _ _ (by decide) (by decide) _ hseq
  change CallsIn _ _ Tryz.prog 507 _ _ _ at cS
  refine cS.mono ?_
  rintro e w' ⟨v, ss, rfl, hS, hrow, hnil, hB⟩
  exact ⟨by rw [hnil.2 hS], gr_of hB⟩
set_option maxHeartbeats 1000000 in
theorem srtSB_map (g b clk : Nat) (ents : Array MapEntry) (w : World) (hc : w.cell? ⟨g, 0, none⟩ = some (.map (some b))) (hb : w.heap[b]? = some (.map ents clk)) (hst : MapKept.Stamped ents clk) (hsz : ents.size ≤ 1000000) (ks r : List (List Nat)) (h1 : ents.toList.map (·.key) = ks.map encB) (h2 : ∀ k ∈ ks, k.length ≤ 1000000) (h3 : r.Pairwise (fun a b => byS a < byS b)) (h4 : r.Perm ks) :
    Calls Tryz.prog 507 #[.func (.func 544) #[] #[.pointer (some ⟨g, 0, none⟩)]] w fun e w' => ∃ v, e = .returned v ∧ w'.ownsRow w.heap.size 9 1 v r.length (r.map encB) ∧ (v = .slice none 0 0 ↔ r = []) ∧ Gr w w' := by
  refine (callsIn_wide (n := 5)).1 ?_
  obtain ⟨D, hown, hperm, hsz'⟩ := ownsS Tryz.underlying9 hb hst hsz h1 h2
  have hmax : Maps.size D ≤ maxLen := by rw [hsz']; unfold maxLen; omega
  have hbytes : Maps.size D * 16 ≤ 140737488355328 := by omega
  have hseq : SeqGives Fence.wide 2 Tryz.prog 544 #[.pointer (some ⟨g, 0, none⟩)] encStr (fun ss => ss.Perm (strKeys D)) (Maps.size D) w :=
    AnyZ.keys_gives (ρ := Tryz.keysS_ren) { Tryz.keysS with } Fence.wide _ trivial rfl (by omega) g b ents.size D w (lt_cell hc) hc hown
  have cS := AnyZ.sorted_in Tryz.sortedS Fence.wide 5 trivial trivial trivial trivial rfl (by omega) (sortsSX _) (enters_of Tryz.func385 (by kernel_rfl) rfl) 544 #[.pointer (some ⟨g, 0, none⟩)] trivial (enters_of Tryz.func544 (by kernel_rfl) rfl) _ _ hmax hbytes _ hseq
  change CallsIn _ _ Tryz.prog 507 _ _ _ at cS
  refine cS.mono ?_
  rintro e w' ⟨v, ss, rfl, hS, hrow, hnil, hB⟩
  have hp : ss.Perm (r.map byS) := hS.trans (hperm.trans (h4.symm.map _))
  have hl : ss.length = r.length := by rw [hp.length_eq, List.length_map]
  rw [sorted_isS hp h3, hl, List.map_map, show encStr ∘ byS = encB from funext fun l => (encB_eq l).symm] at hrow
  exact ⟨v, rfl, hrow, by rw [hnil, ← List.length_eq_zero_iff, hl, List.length_eq_zero_iff], gr_of hB⟩
theorem hook_sortedS : HookAt Tryz.prog 507 (hSortedS [527, 544]) := hsorted_at (t := 9) (enc := encB) (ok := fun k => k.length ≤ 1000000) (R := fun a b => byS a < byS b) keyS_ok (fun ρ k => rfl)
  (fun a b h e => by rw [encB_eq, encB_eq] at e; rw [encStr_inj e] at h; exact List.lt_irrefl _ h) (fun a b h => by rw [Go.Ev.ltS_eq, Go.Proofs.bytesLess_eq] at h; exact of_decide_eq_true h) (fun a b c h k => List.lt_trans h k)
  (fun f' hf g w hc => by
    rcases List.mem_cons.1 hf with rfl | hf
    · exact srtSE_nil g w hc
    · cases List.mem_singleton.1 hf
      exact srtSB_nil g w hc)
  (fun f' hf g b clk ents w hc hb hst hsz ks r h1 h2 h3 h4 => by
    rcases List.mem_cons.1 hf with rfl | hf
    · exact srtSE_map g b clk ents w hc hb hst hsz ks r h1 h2 h3 h4
    · cases List.mem_singleton.1 hf
      exact srtSB_map g b clk ents w hc hb hst hsz ks r h1 h2 h3 h4)
end Go.Proofs.YtkjdclpneaepkaaGreat
end

section
open Go
namespace Go.Ev
section
variable {P : Program}
/-- A block that it owned gets a new name, and is written in place; the world may have grown. -/
theorem HR.movedLe {ρ : Ren} {h : Hp} {nx : Pa} {w w' : World} (H : HR ρ h nx w) {id : Pa} {b b' : Blk} {g t : Nat} (hid : getP id h = some b) (ho : b.own = true) (hg : ρ id = some (g, t))
    (hw : ∀ k, k < w.heap.size → k ≠ g → w'.heap[k]? = w.heap[k]?) (hs : w.heap.size ≤ w'.heap.size) (h1 : w'.os = w.os) (h2 : w'.tape = w.tape) (h3 : w'.output = w.output) (hb : BR (upd ρ nx (g, t)) b' g t w') :
    HR (upd ρ nx (g, t)) (setP (some b') nx (setP none id h)) nx.succ w' ∧ Stp ρ h w (upd ρ nx (g, t)) (setP (some b') nx (setP none id h)) w' := by
  refine ⟨(H.kill id).fresh (fun i c s e e' => ?_) (fun k hk hl => hw k hl hk) hb, H.ext _, h1, h2, h3, hs, fun k hl hn => hw k hl (fun e => hn (by subst e; exact ⟨id, b, t, hid, ho, hg⟩)), fun k o => ?_, fun k o => ?_⟩
  · rcases get_set' (Option.none : Option Blk) i id h with ⟨h4, _⟩ | ⟨h4, h5⟩
    · rw [h4] at e; cases e
    · exact h5 (H.inj i id c b g s t (by rw [← h4]; exact e) hid e' hg)
  · rcases own_set o with e | e
    · exact .inl (by subst e; exact ⟨id, b, t, hid, ho, hg⟩)
    · exact .inl (own_kill e)
  · rcases live_set o with e | e
    · exact .inl (by subst e; exact ⟨id, b, t, hid, hg⟩)
    · exact .inl (live_kill e)
/-- A block of which the first cells are known, as a new row's. -/
theorem CR_row {ρ : Ren} {l : AV} {vs : List Value} (hl : Vs ρ l vs) {c : Array Value} (ht : c.toList.take vs.length = vs) : CR ρ (putCells l 0 .lf) vs.length c := by
  refine CR_is l vs hl 0 .lf (fun i u q => by rw [getP_lf] at q; cases q) (by omega) fun j u q => ?_
  have hj : j < vs.length := (List.getElem?_eq_some_iff.1 q).1
  have : (c.toList.take vs.length)[j]? = some u := by rw [ht]; exact q
  rw [List.getElem?_take, if_pos hj] at this
  simpa using this
theorem plB_ok {id : Pa} {h : Hp} (e : plB id h = true) : ∃ tr n, getP id h = some (.ce tr n true true) := by
  unfold plB at e
  cases e1 : getP id h with
  | none => rw [e1] at e; cases e
  | some b =>
    rw [e1] at e
    cases b with
    | ce tr n rw' pl => obtain ⟨q1, q2⟩ := and_ok e; exact ⟨tr, n, by rw [show rw' = true from q1, show pl = true from q2]⟩
    | mp _ _ => cases e
    | ch _ _ _ _ => cases e
    | it _ _ _ _ => cases e
theorem take_of_cells {c : Array Value} {vs : List Value} {m : Nat} (hl : vs.length = m) (h : ∀ (j : Nat) (u : Value), vs[j]? = some u → c[j]? = some u) : c.toList.take m = vs ∧ m ≤ c.size := by
  have hm : m ≤ c.size := by
    cases m with
    | zero => exact Nat.zero_le _
    | succ k =>
      have h1 : vs[k]? = some vs[k] := List.getElem?_eq_getElem (by omega)
      have := (Array.getElem?_eq_some_iff.1 (h k _ h1)).1
      omega
  refine ⟨List.ext_getElem? fun j => ?_, hm⟩
  rw [List.getElem?_take]
  by_cases hj : j < m
  · have h1 : vs[j]? = some vs[j] := List.getElem?_eq_getElem (by omega)
    rw [if_pos hj, h1, Array.getElem?_toList, h j _ h1]
  · rw [if_neg hj, List.getElem?_eq_none (by omega)]
/-- What Insert leaves: a new row; the old one, written. -/
def GrowIs (T : TypeId) (w : World) (n : Nat) (l : List Value) (e : Ending) (w' : World) : Prop :=
  ∃ c cur, e = .returned (.slice (some ⟨w.heap.size, 0, none⟩) (n + 1) c) ∧ w'.heap[w.heap.size]? = some (.cells cur T (0, 0)) ∧ n + 1 ≤ c ∧ cur.size = c * 2 ∧ cur.toList.take ((n + 1) * 2) = l ∧ Gr w w'
def RoomIs (T : TypeId) (w : World) (g n cp sz : Nat) (l : List Value) (e : Ending) (w' : World) : Prop :=
  ∃ cur, e = .returned (.slice (some ⟨g, 0, none⟩) (n + 1) cp) ∧ w'.heap[g]? = some (.cells cur T (0, 0)) ∧ cur.size = sz ∧ cur.toList.take ((n + 1) * 2) = l ∧
    w'.os = w.os ∧ w'.tape = w.tape ∧ w'.output = w.output ∧ w.heap.size ≤ w'.heap.size ∧ ∀ k, k < w.heap.size → k ≠ g → w'.heap[k]? = w.heap[k]?
theorem hins_at {f : Nat} {t e : TypeId} {i0 : TypeInfo} {z : Value} (ht : P.underlying t = some (.slice e)) (hi : P.info? e = some i0) (hz : i0.zero = some z) (hzs : z.cells.size = i0.size) (h2 : i0.size = 2) (hb : i0.bytes ≤ 100000) (hb0 : 0 < i0.bytes)
    (hend : ∀ (ao : Option Addr) (n cp q : Nat) (r : Value) (w w1 : World), (Builtin.append_ #[t, t] t #[.slice ao n cp, .slice (some ⟨q, 0, none⟩) 1 1]).run P w = .ok r w1 → n ≤ 1000000 →
      Calls P f #[.slice ao n cp, .int .i64 n, .slice (some ⟨q, 0, none⟩) 1 1] w fun x w' => x = .returned r ∧ w' = w1)
    (hgrow : ∀ (g0 n i q : Nat) (c0 cq : Array Value) (T0 Tq : TypeId) (f0 fq : Nat × Nat) (xs : List Value) (y1 y2 : Value) (w : World), w.heap[g0]? = some (.cells c0 T0 f0) → n * 2 ≤ c0.size → c0.toList.take (n * 2) = xs → (∀ u ∈ xs, u.oneCell' = true) → y1.oneCell' = true ∧ y2.oneCell' = true →
      w.heap[q]? = some (.cells cq Tq fq) → cq[0]? = some y1 → cq[1]? = some y2 → n ≤ 1000000 → i < n →
      Calls P f #[.slice (some ⟨g0, 0, none⟩) n n, .int .i64 i, .slice (some ⟨q, 0, none⟩) 1 1] w (GrowIs e w n (xs.take (i * 2) ++ [y1, y2] ++ xs.drop (i * 2))))
    (hroom : ∀ (g0 n cp i q : Nat) (c0 cq : Array Value) (T0 Tq : TypeId) (xs : List Value) (y1 y2 : Value) (w : World), w.heap[g0]? = some (.cells c0 T0 (0, 0)) → cp * 2 ≤ c0.size → c0.toList.take (n * 2) = xs → (∀ u ∈ xs, u.oneCell' = true) → y1.oneCell' = true ∧ y2.oneCell' = true →
      w.heap[q]? = some (.cells cq Tq (0, 0)) → cq[0]? = some y1 → cq[1]? = some y2 → q ≠ g0 → n ≤ 1000000 → i < n → n + 1 ≤ cp →
      Calls P f #[.slice (some ⟨g0, 0, none⟩) n cp, .int .i64 i, .slice (some ⟨q, 0, none⟩) 1 1] w (RoomIs T0 w g0 n cp c0.size (xs.take (i * 2) ++ [y1, y2] ++ xs.drop (i * 2)))) : HookAt P f (hIns 2) := fun args h nx av h' nx' ρ w vs H hv e' => by
  unfold hIns at e'
  split at e'
  · rename_i s i j off len cap
    obtain ⟨v1, r1, rfl, hs, v2, r2, rfl, hv2, v3, r3, rfl, hj, h0⟩ := hv
    cases (show r3 = [] from h0)
    cases (show v2 = .int .i64 (Int.ofNat i) from hv2)
    replace ⟨k1, e'⟩ := cut1 e' (noBad _)
    obtain ⟨k2, k3, k4⟩ := and3 k1
    cases Nat.eq_of_beq_eq_true k2; cases Nat.eq_of_beq_eq_true k3; cases Nat.eq_of_beq_eq_true k4
    replace ⟨n, e1, e'⟩ := opt4 e' okNe
    replace ⟨k5, e'⟩ := cut1 e' (noBad _)
    have hn := Nat.le_of_ble_eq_true k5
    have hj' := hj
    obtain ⟨q, tq, hq, rfl⟩ := hj
    have hsl : ∃ ao cp, v1 = .slice ao n cp := by
      unfold dstLen at e1
      split at e1 <;> first | (cases e1; done) | skip
      · cases e1; exact ⟨_, _, hs⟩
      · cases e1; obtain ⟨a, c, hs⟩ := hs; exact ⟨_, _, hs⟩
      · cases e1; obtain ⟨a, c, _, hs⟩ := hs; exact ⟨_, _, hs⟩
      · cases e1; obtain ⟨a, c, _, hs⟩ := hs; exact ⟨_, _, hs⟩
    rcases bif_some e' with ⟨k6, ee⟩ | ⟨-, ee⟩
    · cases Nat.eq_of_beq_eq_true k6
      have e8 : oApp i0.size s (.sl j 0 1 1) h nx = .ok av h' nx' := by rw [h2]; exact ee
      clear e'
      unfold oApp at e8
      obtain ⟨p, e2, e'⟩ := opt4 e8 okNe
      obtain ⟨l, m⟩ := p
      obtain ⟨new, q1, q2, q3⟩ := srcA_run (P := P) H hj' e2
      obtain ⟨ρ', v, w1, j1, j2, j3, j4⟩ := app2_run (P := P) (ty := t) (tt := #[t, t]) (t := t) rfl ht hi hz hzs (by rw [h2]; decide) hb hb0 H hs ⟨q2, t, .slice e, rfl, ht, .inl ⟨fun k q => (by cases q), q3⟩⟩ q1 e'
      obtain ⟨ao, cp, rfl⟩ := hsl
      refine Calls.mono (hend ao i cp q v w w1 j1 hn) fun x w' ⟨y1, y2⟩ => ?_
      subst y2
      exact ⟨ρ', v, y1, j2, j3, j4⟩
    · clear e'
      obtain ⟨k6, e'⟩ := cut1 ee (noBad _)
      have hin : i < n := by simpa using k6
      split at e'
      · rename_i id o2 m es
        replace ⟨k7, e'⟩ := cut1 e' (noBad _)
        obtain ⟨a1, a2, a3, a4⟩ := and4 k7
        obtain ⟨a4, a5⟩ := and_ok a4
        cases Nat.eq_of_beq_eq_true a1; cases Nat.eq_of_beq_eq_true a2
        cases e1
        have hs' := hs
        obtain ⟨g0, t0, hg, rfl⟩ := hs'
        replace ⟨cA, e2, e'⟩ := opt4 e' okNe
        replace ⟨wA, e3, e'⟩ := opt4 e' okNe
        unfold insA at e'
        replace ⟨f1, f2, e'⟩ := cut2 e' (noBad _)
        rw [grow_eq] at e'
        obtain ⟨rfl, rfl, rfl⟩ := ok3 e'
        obtain ⟨tr, k, b1⟩ := plB_ok a4
        obtain ⟨tr2, k2, b2⟩ := plB_ok a5
        obtain ⟨c0, T0, z0, c1, c2, c3, -, -, c4⟩ := getP_ce H b1 hg
        obtain ⟨cq, Tq, zq, d1, d2, d3, -, -, d4⟩ := getP_ce H b2 hq
        cases c4 rfl; cases d4 rfl
        have hne : q ≠ g0 := fun x => by
          subst x
          have := H.inj _ _ _ _ q _ _ b1 b2 hg hq
          subst this
          rw [eqPa_refl] at a3; cases a3
        obtain ⟨bb, nn, cc, vs, g1, g2, g3, g4⟩ := sCells_get H hs e2
        cases g1
        obtain ⟨bb, nn, cc, ws, l1, l2, l3, l4⟩ := sCells_get H hj' e3
        cases l1
        obtain ⟨m1, m2⟩ := take_of_cells (c := c0) g3 fun j u hu => by have := g4 j u hu; rw [add_eq, cell_of c1, Nat.zero_add] at this; exact this
        obtain ⟨y1, y2, rfl⟩ : ∃ y1 y2, ws = [y1, y2] := by
          match ws, l3 with
          | [y1, y2], _ => exact ⟨y1, y2, rfl⟩
        have l5 : ∀ j u, [y1, y2][j]? = some u → cq[j]? = some u := fun j u hu => by have := l4 j u hu; rw [add_eq, cell_of d1, Nat.zero_add] at this; exact this
        have hone := flat_all _ _ g2 f1
        have hone2 := flat_all _ _ l2 f2
        have hy : y1.oneCell' = true ∧ y2.oneCell' = true := ⟨hone2 _ (by simp), hone2 _ (by simp)⟩
        have hL : Vs ρ (appA (takeA (i * 2) cA) (appA wA (dropA (i * 2) cA))) (vs.take (i * 2) ++ [y1, y2] ++ vs.drop (i * 2)) := by
          rw [List.append_assoc]
          exact Vs_app (Vs_app (Vs_drop _ _ _ g2) _ _ l2) _ _ (Vs_take _ _ _ g2)
        have hLl : (vs.take (i * 2) ++ [y1, y2] ++ vs.drop (i * 2)).length = (n + 1) * 2 := by simp [g3]; omega
        rw [Nat.sub_zero] at *
        by_cases hcp : n + 1 ≤ t0 / 2
        · refine Calls.mono (hroom g0 n (t0 / 2) i q c0 cq T0 Tq vs y1 y2 w c1 (by omega) m1 hone hy d1 (l5 0 y1 rfl) (l5 1 y2 rfl) hne hn hin hcp) fun x w' ⟨cur, j1, j2, j3, j4, j5, j6, j7, j8, j9⟩ => ?_
          have hCR := CR_row hL (c := cur) (by rw [hLl]; exact j4)
          obtain ⟨r1, r2⟩ := H.movedLe (nx := nx) (b' := newBlk (appA (takeA (i * 2) cA) (appA wA (dropA (i * 2) cA)))) b1 rfl hg j9 j8 j5 j6 j7 (by
            rw [newBlk_eq, Vs_size _ _ hL]
            exact ⟨cur, T0, (0, 0), j2, by rw [j3, c2], by rw [hLl]; omega, CR_mono (H.ext _) hCR (Nat.le_refl _), fun _ => .inl rfl, fun _ => rfl⟩)
          exact ⟨_, _, j1, ⟨g0, t0, upd_same _ _ _, by rw [Nat.sub_zero]⟩, r1, r2⟩
        · obtain hcn : t0 / 2 = n := by omega
          rw [hcn]
          refine Calls.mono (hgrow g0 n i q c0 cq T0 Tq _ _ vs y1 y2 w c1 m2 m1 hone hy d1 (l5 0 y1 rfl) (l5 1 y2 rfl) hn hin) fun x w' ⟨c, cur, j1, j2, j3, j4, j5, j6⟩ => ?_
          have hCR := CR_row hL (c := cur) (by rw [hLl]; exact j5)
          have hk := H.kill id
          refine ⟨upd ρ nx (w.heap.size, c * 2), _, j1, ⟨_, _, upd_same _ _ _, by rw [Nat.sub_zero, Nat.mul_div_cancel _ (by decide)]⟩, hk.fresh hk.notNew (fun k _ hl => j6.keep k hl) ?_, H.ext _, j6.os, j6.tape, j6.output, j6.size, fun k hl _ => j6.keep k hl, fun k o => ?_, fun k o => ?_⟩
          · rw [newBlk_eq, Vs_size _ _ hL]
            exact ⟨cur, e, (0, 0), j2, j4, by rw [hLl]; omega, CR_mono (H.ext _) hCR (Nat.le_refl _), fun _ => .inl rfl, fun _ => rfl⟩
          · rcases own_set o with r | r
            · exact .inr (by omega)
            · exact .inl (own_kill r)
          · rcases live_set o with r | r
            · exact .inr (by omega)
            · exact .inl (live_kill r)
      · cases e'
  · cases e'
end
end Go.Ev
end
