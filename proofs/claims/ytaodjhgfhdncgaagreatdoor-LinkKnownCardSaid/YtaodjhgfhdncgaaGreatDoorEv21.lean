/- Every operation. -/
import Derived.Test.YtaodjhgfhdncgaaGreatDoorEv20
set_option linter.unusedSectionVars false
set_option linter.unusedVariables false
set_option linter.unusedSimpArgs false
namespace Go.Ev
open Go.RowKit

section
variable {P : Program} {nt : Nat} {o : Oper} {id : Nat} {ph : Phi} {e : Env} {H : Heap} {k : K}

theorem bad_ok (hc : compOp P nt o = .bad) (h : evOp (compOp P nt o) id ph e H k = 1) : Good P nt o e H k := by
  rw [hc] at h
  exact (no_ne h).elim

theorem evOp_sound (hph : PhiOK P ph) (h : evOp (compOp P nt o) id ph e H k = 1) : Good P nt o e H k := by
  cases hop : o.op with
  | move x => exact s_move (.inl hop) h
  | assign x => exact s_move (.inr hop) h
  | pick c x y => exact s_pick hop h
  | alloc t => exact s_alloc hop h
  | box t x => exact s_box hop h
  | build t ps => exact s_build hop h
  | buildSlice t l ps => exact s_buildSlice hop h
  | insert t m x y => exact s_mapUpdate (.inr hop) h
  | mapUpdate t m x y => exact s_mapUpdate (.inl hop) h
  | load t x => exact s_load hop h
  | store t x y => exact s_store hop h
  | nilCheck x => exact s_nilc hop h
  | binOp op xt x y yt => exact s_binOp hop h
  | unOp op xt x => exact s_unOp hop h
  | convert s d x => exact s_convert hop h
  | makeInterface t x => exact s_makeInterface hop h
  | makeFunc f first caps =>
    cases f with
    | func f => exact s_makeFunc hop h
    | _ => exact bad_ok (by simp only [compOp, hop]) h
  | makeMap t r =>
    cases r with
    | none => exact s_makeMap hop h
    | some r => exact bad_ok (by simp only [compOp, hop]) h
  | makeSlice t l c => exact s_makeSlice hop h
  | slice t x lo hi mx => exact s_slice hop h
  | fieldAddr t x f => exact s_fieldAddr hop h
  | field t x f => exact s_field hop h
  | indexAddr t x i => exact s_indexAddr hop h
  | index t x i => exact s_index hop h
  | lookup t m x ok => exact s_lookup hop h
  | extract x i => exact s_extract hop h
  | call c =>
    obtain ⟨callee, as, ts⟩ := c
    cases callee with
    | value x =>
      cases x with
      | func f => exact s_callFunc hph hop h
      | tmp t => exact s_callVal hph hop h
      | _ => exact bad_ok (by simp only [compOp, hop]) h
    | builtin b =>
      cases b with
      | len => exact s_len hop h
      | cap => exact s_cap hop h
      | append => exact s_append hop h
      | copy => exact s_copy hop h
      | delete => exact s_delete hop h
      | max => exact s_mm (mx := true) hop h
      | min => exact s_mm (mx := false) hop h
      | _ => exact bad_ok (by simp only [compOp, hop, compBuiltin]) h
    | _ => exact bad_ok (by simp only [compOp, hop]) h
  | _ => exact bad_ok (by simp only [compOp, hop]) h
end
end Go.Ev
