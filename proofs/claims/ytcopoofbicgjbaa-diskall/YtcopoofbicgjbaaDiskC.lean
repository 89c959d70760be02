/- disk: what the program's calls are. -/
import Derived.Test.YtcopoofbicgjbaaDiskD
import Derived.Test.YtcopoofbicgjbaaDiskM
import Derived.Test.YtcopoofbicgjbaaDiskN
import Derived.Test.YtcopoofbicgjbaaDiskS
set_option maxRecDepth 100000
set_option maxHeartbeats 1000000
set_option linter.unusedSimpArgs false
set_option linter.unusedVariables false
namespace Go.Proofs.Ytcopoofbicgjbaa
open Go.Tm Go.IntWalk
theorem freshp_rep {w w' : World} {R' : Nat → Prop} {t : Ty} {xs : List t.den} {A : Option Addr} {c : Nat} {cs : List Value} (hR : ∀ b, w.heap.size ≤ b → R' b) (h : FreshP w w' t xs A c cs) : rep w' R' (.slice t) xs [.slice A xs.length c] := by
  obtain ⟨h2, h3, h4, h5, h6, h7⟩ := h
  refine ⟨A, c, rfl, h2, h3, ?_⟩
  rcases h7 with ⟨rfl, rfl⟩ | ⟨ad, rfl, hm, hg⟩
  · exact .inl (List.eq_nil_of_length_eq_zero (by omega))
  · exact .inr ⟨ad, cs, rfl, hR _ hg, hm.block_lt, h6 _ _, hm.lies⟩
theorem diskV_rep {w w' : World} {R' : Nat → Prop} {d : Dk} {u : Value} (hR : ∀ b, w.heap.size ≤ b → R' b) (h : DiskV w w' d u) : vrep w' R' DkT d u := by
  obtain ⟨AL, cL, csL, AW, cW, csW, rfl, h1, h2⟩ := h
  exact ⟨[.slice AL d.1.length cL, .slice AW d.2.1.length cW, .int .i64 d.2.2.1, .bool d.2.2.2.1], ⟨[_], [_, _, _], rfl, freshp_rep hR h1, [_], [_, _], rfl, freshp_rep hR h2, [_], [_], rfl, rfl, [_], [], rfl, rfl, rfl⟩, rfl⟩
theorem goes_disk {f : FuncId} {fn : Func} (hf : Try.prog.funcs[f]? = some fn) (hname : (fn.name == "runtime.NumGoroutine") = false) (hb : fn.body.isSome = true) {args : List Arg} {vals : List Value} {w : World} {R : Nat → Prop} {d : Dk} (ha : ∀ a ∈ args, ∃ d, a = .val d) (hl : args.length = vals.length)
    (h : Calls Try.prog f vals.toArray w fun e w' => ∃ u, e = .returned u ∧ DiskV w w' d u ∧ But w none w') : Goes Try.prog f vals w (.val ⟨DkT, d⟩) (After w R args vals ⟨.val ⟨DkT, d⟩, []⟩) := by
  refine .inl ⟨f, vals.toArray, w, enters hf hname hb _ _, h.mono ?_⟩
  rintro _ w' ⟨u, rfl, k1, k6⟩
  exact ⟨_, rfl, ⟨k6.os, k6.tape, k6.output, k6.size, fun x hx _ => k6.block x hx (fun _ h => by cases h)⟩, (fun x hx => by cases hx), diskV_rep (fun b hb => ⟨.inr hb, fun h => by cases h⟩) k1, iosN hl ha⟩
theorem goes_disk2 {f : FuncId} {fn : Func} (hf : Try.prog.funcs[f]? = some fn) (hname : (fn.name == "runtime.NumGoroutine") = false) (hb : fn.body.isSome = true) {args : List Arg} {vals : List Value} {w : World} {R : Nat → Prop} {d : Dk} {o : Bool} (ha : ∀ a ∈ args, ∃ d, a = .val d) (hl : args.length = vals.length)
    (h : Calls Try.prog f vals.toArray w fun e w' => ∃ u, e = .returned (.tuple #[u, .bool o]) ∧ DiskV w w' d u ∧ But w none w') : Goes Try.prog f vals w (.tup [⟨DkT, d⟩, ⟨.bool, o⟩]) (After w R args vals ⟨.tup [⟨DkT, d⟩, ⟨.bool, o⟩], []⟩) := by
  refine .inl ⟨f, vals.toArray, w, enters hf hname hb _ _, h.mono ?_⟩
  rintro _ w' ⟨u, rfl, k1, k6⟩
  exact ⟨_, rfl, ⟨k6.os, k6.tape, k6.output, k6.size, fun x hx _ => k6.block x hx (fun _ h => by cases h)⟩, (fun x hx => by cases hx), ⟨[_, _], rfl, _, _, rfl, diskV_rep (fun b hb => ⟨.inr hb, fun h => by cases h⟩) k1, _, _, rfl, ⟨_, rfl, rfl⟩, rfl⟩, iosN hl ha⟩
/-- The contract of glacisref1.New. -/
def rnewC : Con := conN [(.v, .int .i64)] fun (n, _) => some ⟨.val ⟨DkT, newK n⟩, []⟩
theorem rnewC_eq {n : Int} : rnewC [.val ⟨.int .i64, n⟩] = some ⟨.val ⟨DkT, newK n⟩, []⟩ := conN_mk (ks := [(.v, .int .i64)]) (n, ())
def Γrnew : Cons := cons []
theorem rnew_ok : ConOK Try.prog 10 rnewC := by
  intro args out vals w R hc hr
  obtain ⟨x, e, h1⟩ := conN_inv hc
  obtain ⟨n, x0⟩ := x
  subst e
  replace h1 : some (⟨.val ⟨DkT, newK n⟩, []⟩ : Out) = some out := h1
  injection h1 with h1
  subst h1
  obtain ⟨v1, r1, rfl, hv1, e3⟩ := hr.rep
  simp only [argsRep] at e3
  subst e3
  have e1 := vrep_int hv1
  subst e1
  exact goes_disk Try.func10 (by kernel_rfl) (by kernel_rfl) (by intro a ha; simp [mkArgs, mkA] at ha; rcases ha with rfl; exact ⟨_, rfl⟩) rfl (rnew_calls n)
/-- The contract of disk.Crash. -/
def dcrashC : Con := conN [(.v, DkT), (.v, .slice .bool)] fun (d, keep, _) => if okD d then some ⟨.val ⟨DkT, crashK d keep⟩, []⟩ else none
theorem dcrashC_eq {d : Ty.den (DkT)} {keep : List Bool} : dcrashC [.val ⟨DkT, d⟩, .val ⟨.slice .bool, keep⟩] = if okD d then some ⟨.val ⟨DkT, crashK d keep⟩, []⟩ else none := conN_mk (ks := [(.v, DkT), (.v, .slice .bool)]) (d, keep, ())
def Γdcrash : Cons := cons []
theorem dcrash_ok : ConOK Try.prog 13 dcrashC := by
  intro args out vals w R hc hr
  obtain ⟨x, e, h1⟩ := conN_inv hc
  obtain ⟨d, keep, x0⟩ := x
  subst e
  replace h1 : (if okD d then some (⟨.val ⟨DkT, crashK d keep⟩, []⟩ : Out) else none) = some out := h1
  split at h1
  case isFalse => cases h1
  rename_i hb
  injection h1 with h1
  subst h1
  obtain ⟨v1, r1, rfl, hv1, v2, r2, rfl, hv2, e3⟩ := hr.rep
  simp only [argsRep] at e3
  subst e3
  exact goes_disk Try.func13 (by kernel_rfl) (by kernel_rfl) (by intro a ha; simp [mkArgs, mkA] at ha; rcases ha with rfl | rfl <;> exact ⟨_, rfl⟩) rfl (crash_calls d keep hb hv1 hv2)
/-- The contract of disk.Flush. -/
def dflushC : Con := conN [(.v, DkT)] fun (d, _) => if okD d then some ⟨.tup [⟨DkT, (flushK d).1⟩, ⟨.bool, (flushK d).2⟩], []⟩ else none
theorem dflushC_eq {d : Ty.den (DkT)} : dflushC [.val ⟨DkT, d⟩] = if okD d then some ⟨.tup [⟨DkT, (flushK d).1⟩, ⟨.bool, (flushK d).2⟩], []⟩ else none := conN_mk (ks := [(.v, DkT)]) (d, ())
def Γdflush : Cons := cons []
theorem dflush_ok : ConOK Try.prog 11 dflushC := by
  intro args out vals w R hc hr
  obtain ⟨x, e, h1⟩ := conN_inv hc
  obtain ⟨d, x0⟩ := x
  subst e
  replace h1 : (if okD d then some (⟨.tup [⟨DkT, (flushK d).1⟩, ⟨.bool, (flushK d).2⟩], []⟩ : Out) else none) = some out := h1
  split at h1
  case isFalse => cases h1
  rename_i hb
  injection h1 with h1
  subst h1
  obtain ⟨v1, r1, rfl, hv1, e3⟩ := hr.rep
  simp only [argsRep] at e3
  subst e3
  exact goes_disk2 Try.func11 (by kernel_rfl) (by kernel_rfl) (by intro a ha; simp [mkArgs, mkA] at ha; rcases ha with rfl; exact ⟨_, rfl⟩) rfl (flush_calls d hb hv1)
/-- The contract of disk.Write. -/
def dwriteC : Con := conN [(.v, DkT), (.v, .int .i64), (.v, .str)] fun (d, i, b, _) => if okD d then some ⟨.tup [⟨DkT, (writeK d i b).1⟩, ⟨.bool, (writeK d i b).2⟩], []⟩ else none
theorem dwriteC_eq {d : Ty.den (DkT)} {i : Int} {b : ByteArray} : dwriteC [.val ⟨DkT, d⟩, .val ⟨.int .i64, i⟩, .val ⟨.str, b⟩] = if okD d then some ⟨.tup [⟨DkT, (writeK d i b).1⟩, ⟨.bool, (writeK d i b).2⟩], []⟩ else none := conN_mk (ks := [(.v, DkT), (.v, .int .i64), (.v, .str)]) (d, i, b, ())
def Γdwrite : Cons := cons []
theorem dwrite_ok : ConOK Try.prog 17 dwriteC := by
  intro args out vals w R hc hr
  obtain ⟨x, e, h1⟩ := conN_inv hc
  obtain ⟨d, i, b, x0⟩ := x
  subst e
  replace h1 : (if okD d then some (⟨.tup [⟨DkT, (writeK d i b).1⟩, ⟨.bool, (writeK d i b).2⟩], []⟩ : Out) else none) = some out := h1
  split at h1
  case isFalse => cases h1
  rename_i hb
  injection h1 with h1
  subst h1
  obtain ⟨v1, r1, rfl, hv1, v2, r2, rfl, hv2, v3, r3, rfl, hv3, e3⟩ := hr.rep
  simp only [argsRep] at e3
  subst e3
  have e1 := vrep_int hv2
  have e2 := vrep_str hv3
  subst e1 e2
  exact goes_disk2 Try.func17 (by kernel_rfl) (by kernel_rfl) (by intro a ha; simp [mkArgs, mkA] at ha; rcases ha with rfl | rfl | rfl <;> exact ⟨_, rfl⟩) rfl (write_calls d i b hb hv1)
/-- The contract of disk.Read. -/
def dreadC : Con := conN [(.v, DkT), (.v, .int .i64)] fun (d, i, _) => if okD d then some ⟨.tup [⟨.str, (readK d i).1⟩, ⟨.bool, (readK d i).2⟩], []⟩ else none
theorem dreadC_eq {d : Ty.den (DkT)} {i : Int} : dreadC [.val ⟨DkT, d⟩, .val ⟨.int .i64, i⟩] = if okD d then some ⟨.tup [⟨.str, (readK d i).1⟩, ⟨.bool, (readK d i).2⟩], []⟩ else none := conN_mk (ks := [(.v, DkT), (.v, .int .i64)]) (d, i, ())
def Γdread : Cons := cons []
theorem dread_ok : ConOK Try.prog 15 dreadC := by
  intro args out vals w R hc hr
  obtain ⟨x, e, h1⟩ := conN_inv hc
  obtain ⟨d, i, x0⟩ := x
  subst e
  replace h1 : (if okD d then some (⟨.tup [⟨.str, (readK d i).1⟩, ⟨.bool, (readK d i).2⟩], []⟩ : Out) else none) = some out := h1
  split at h1
  case isFalse => cases h1
  rename_i hb
  injection h1 with h1
  subst h1
  obtain ⟨v1, r1, rfl, hv1, v2, r2, rfl, hv2, e3⟩ := hr.rep
  simp only [argsRep] at e3
  subst e3
  have e1 := vrep_int hv2
  subst e1
  exact goes_near2 Try.func15 (by kernel_rfl) (by kernel_rfl) (by intro a ha; simp [mkArgs, mkA] at ha; rcases ha with rfl | rfl <;> exact ⟨_, rfl⟩) rfl (fun _ _ => mk_str _ _ _) (fun _ _ => mk_bool _ _ _) ((read_calls d i hb hv1).mono fun e w' ⟨h1, h2⟩ => ⟨h1, ⟨h2.os, h2.tape, h2.output, h2.size, fun k hk => h2.block k hk (fun _ h => by cases h)⟩⟩)
end Go.Proofs.Ytcopoofbicgjbaa
