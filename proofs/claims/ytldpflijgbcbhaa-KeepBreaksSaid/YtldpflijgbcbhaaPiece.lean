/- A piece of a function's code, found by its number. -/
import Derived.Test.YtldpflijgbcbhaaBase
namespace Go.Proofs.Ytldpflijgbcbhaa
open Go.RowKit
/-- a piece that goes on, used where something follows -/
theorem piece_use {P : Program} {s : Code} {K : Act → World → Prop} {Q' : Exit → Act → World → Prop} {a : Act} {w : World} (h : s.wp P (Exit.then K (fun _ _ _ => False)) a w) : s.wp P (Exit.then K Q') a w := by
  refine wp_mono h ?_
  intro e a' w' hq
  cases e with
  | normal => exact hq
  | exit id => exact hq.elim
  | goto l => exact hq.elim
  | ret => exact hq.elim
  | panic ch => exact hq.elim
  | outgrown => exact hq.elim
noncomputable def findR (n : Nat) : Code → Option Code
  | .region id ops d => if id = n then some (.region id ops d) else none
  | .seq a b => (findR n a).orElse fun _ => findR n b
  | .cond _ a b => (findR n a).orElse fun _ => findR n b
  | .block _ b => findR n b
  | .loop b => findR n b
  | .scope b => findR n b
  | _ => none
noncomputable def findB (n : Nat) : Code → Option Code
  | .seq a b => (findB n a).orElse fun _ => findB n b
  | .cond _ a b => (findB n a).orElse fun _ => findB n b
  | .block id b => if id = n then some (.block id b) else findB n b
  | .loop b => findB n b
  | .scope b => findB n b
  | _ => none
noncomputable def openC : Code := (Try.f20.body).getD .skip
set_option maxRecDepth 100000 in
theorem region_is : ∃ ops b, (findR 36 openC).getD .skip = Code.region 36 ops b := ⟨_, _, rfl⟩
set_option maxRecDepth 100000 in
theorem block_is : ∃ b, (findB 6 openC).getD .skip = Code.block 6 b := ⟨_, rfl⟩
end Go.Proofs.Ytldpflijgbcbhaa
