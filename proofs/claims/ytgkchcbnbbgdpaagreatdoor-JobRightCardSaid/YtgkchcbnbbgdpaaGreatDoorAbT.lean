/- The functions' table. (Written by mkT.py.) -/
import Derived.Test.YtgkchcbnbbgdpaaGreatDoorAbExtT
import Derived.Test.YtgkchcbnbbgdpaaGreatDoorAbLays
import Derived.Test.YtgkchcbnbbgdpaaGreatDoorProg
import Derived.KernelRfl
set_option maxRecDepth 100000
namespace Go.Ab
open Go.Proofs Go.Shelf
inductive BT (α : Type) where
  | leaf
  | node (l : BT α) (k : Nat) (v : α) (r : BT α)
def BT.find {α : Type} : BT α → Nat → Option α
  | .leaf, _ => none
  | .node l k v r, n => match Nat.beq n k with
    | true => some v
    | false => match Nat.blt n k with
      | true => l.find n
      | false => r.find n
def BT.All {α : Type} (Q : Nat → α → Prop) : BT α → Prop
  | .leaf => True
  | .node l k v r => l.All Q ∧ Q k v ∧ r.All Q
theorem BT.All.get {α : Type} {Q : Nat → α → Prop} : ∀ {t : BT α}, t.All Q → ∀ {n : Nat} {v : α}, t.find n = some v → Q n v
  | .leaf, _, n, v, h => by cases h
  | .node l k u r, hq, n, v, h => by
    simp only [BT.find] at h
    split at h
    · rename_i e
      injection h with h; subst h
      rw [Nat.eq_of_beq_eq_true e]; exact hq.2.1
    · split at h
      · exact BT.All.get hq.1 h
      · exact BT.All.get hq.2.2 h
noncomputable def fnT : BT Func := (.node (.node (.node (.node (.node (.node (.node .leaf 12 Tryz.f12 .leaf) 14 Tryz.f14 (.node .leaf 15 Tryz.f15 .leaf)) 17 Tryz.f17 (.node (.node .leaf 22 Tryz.f22 .leaf) 29 Tryz.f29 .leaf)) 30 Tryz.f30 (.node (.node (.node .leaf 31 Tryz.f31 .leaf) 32 Tryz.f32 (.node .leaf 33 Tryz.f33 .leaf)) 40 Tryz.f40 (.node (.node .leaf 41 Tryz.f41 .leaf) 42 Tryz.f42 .leaf))) 43 Tryz.f43 (.node (.node (.node (.node .leaf 44 Tryz.f44 .leaf) 45 Tryz.f45 (.node .leaf 46 Tryz.f46 .leaf)) 53 Tryz.f53 (.node (.node .leaf 54 Tryz.f54 .leaf) 58 Tryz.f58 .leaf)) 59 Tryz.f59 (.node (.node (.node .leaf 60 Tryz.f60 .leaf) 66 Tryz.f66 .leaf) 70 Tryz.f70 (.node (.node .leaf 71 Tryz.f71 .leaf) 72 Tryz.f72 .leaf)))) 73 Tryz.f73 (.node (.node (.node (.node (.node .leaf 74 Tryz.f74 .leaf) 80 Tryz.f80 (.node .leaf 81 Tryz.f81 .leaf)) 84 Tryz.f84 (.node (.node .leaf 91 Tryz.f91 .leaf) 95 Tryz.f95 .leaf)) 103 Tryz.f103 (.node (.node (.node .leaf 104 Tryz.f104 .leaf) 113 Tryz.f113 (.node .leaf 114 Tryz.f114 .leaf)) 115 Tryz.f115 (.node (.node .leaf 130 Tryz.f130 .leaf) 131 Tryz.f131 .leaf))) 141 Tryz.f141 (.node (.node (.node (.node .leaf 142 Tryz.f142 .leaf) 143 Tryz.f143 (.node .leaf 144 Tryz.f144 .leaf)) 145 Tryz.f145 (.node (.node .leaf 146 Tryz.f146 .leaf) 147 Tryz.f147 .leaf)) 148 Tryz.f148 (.node (.node (.node .leaf 149 Tryz.f149 .leaf) 150 Tryz.f150 .leaf) 151 Tryz.f151 (.node (.node .leaf 152 Tryz.f152 .leaf) 181 Tryz.f181 .leaf))))) 182 Tryz.f182 (.node (.node (.node (.node (.node (.node .leaf 183 Tryz.f183 .leaf) 184 Tryz.f184 (.node .leaf 185 Tryz.f185 .leaf)) 186 Tryz.f186 (.node (.node .leaf 187 Tryz.f187 .leaf) 188 Tryz.f188 .leaf)) 189 Tryz.f189 (.node (.node (.node .leaf 190 Tryz.f190 .leaf) 191 Tryz.f191 (.node .leaf 192 Tryz.f192 .leaf)) 193 Tryz.f193 (.node (.node .leaf 194 Tryz.f194 .leaf) 214 Tryz.f214 .leaf))) 215 Tryz.f215 (.node (.node (.node (.node .leaf 216 Tryz.f216 .leaf) 217 Tryz.f217 (.node .leaf 218 Tryz.f218 .leaf)) 219 Tryz.f219 (.node (.node .leaf 220 Tryz.f220 .leaf) 221 Tryz.f221 .leaf)) 222 Tryz.f222 (.node (.node (.node .leaf 223 Tryz.f223 .leaf) 224 Tryz.f224 .leaf) 225 Tryz.f225 (.node (.node .leaf 226 Tryz.f226 .leaf) 227 Tryz.f227 .leaf)))) 228 Tryz.f228 (.node (.node (.node (.node (.node .leaf 229 Tryz.f229 .leaf) 230 Tryz.f230 (.node .leaf 231 Tryz.f231 .leaf)) 232 Tryz.f232 (.node (.node .leaf 233 Tryz.f233 .leaf) 234 Tryz.f234 .leaf)) 235 Tryz.f235 (.node (.node (.node .leaf 236 Tryz.f236 .leaf) 237 Tryz.f237 (.node .leaf 238 Tryz.f238 .leaf)) 246 Tryz.f246 (.node (.node .leaf 247 Tryz.f247 .leaf) 248 Tryz.f248 .leaf))) 249 Tryz.f249 (.node (.node (.node (.node .leaf 250 Tryz.f250 .leaf) 251 Tryz.f251 (.node .leaf 252 Tryz.f252 .leaf)) 253 Tryz.f253 (.node (.node .leaf 254 Tryz.f254 .leaf) 255 Tryz.f255 .leaf)) 256 Tryz.f256 (.node (.node (.node .leaf 257 Tryz.f257 .leaf) 258 Tryz.f258 .leaf) 260 Tryz.f260 (.node (.node .leaf 261 Tryz.f261 .leaf) 262 Tryz.f262 .leaf))))))
theorem fnT_ok : fnT.All (fun n f => Tryz.prog.funcs[n]? = some f) :=
  ⟨⟨⟨⟨⟨⟨⟨trivial, Tryz.func12, trivial⟩, Tryz.func14, ⟨trivial, Tryz.func15, trivial⟩⟩, Tryz.func17, ⟨⟨trivial, Tryz.func22, trivial⟩, Tryz.func29, trivial⟩⟩, Tryz.func30, ⟨⟨⟨trivial, Tryz.func31, trivial⟩, Tryz.func32, ⟨trivial, Tryz.func33, trivial⟩⟩, Tryz.func40, ⟨⟨trivial, Tryz.func41, trivial⟩, Tryz.func42, trivial⟩⟩⟩, Tryz.func43, ⟨⟨⟨⟨trivial, Tryz.func44, trivial⟩, Tryz.func45, ⟨trivial, Tryz.func46, trivial⟩⟩, Tryz.func53, ⟨⟨trivial, Tryz.func54, trivial⟩, Tryz.func58, trivial⟩⟩, Tryz.func59, ⟨⟨⟨trivial, Tryz.func60, trivial⟩, Tryz.func66, trivial⟩, Tryz.func70, ⟨⟨trivial, Tryz.func71, trivial⟩, Tryz.func72, trivial⟩⟩⟩⟩, Tryz.func73, ⟨⟨⟨⟨⟨trivial, Tryz.func74, trivial⟩, Tryz.func80, ⟨trivial, Tryz.func81, trivial⟩⟩, Tryz.func84, ⟨⟨trivial, Tryz.func91, trivial⟩, Tryz.func95, trivial⟩⟩, Tryz.func103, ⟨⟨⟨trivial, Tryz.func104, trivial⟩, Tryz.func113, ⟨trivial, Tryz.func114, trivial⟩⟩, Tryz.func115, ⟨⟨trivial, Tryz.func130, trivial⟩, Tryz.func131, trivial⟩⟩⟩, Tryz.func141, ⟨⟨⟨⟨trivial, Tryz.func142, trivial⟩, Tryz.func143, ⟨trivial, Tryz.func144, trivial⟩⟩, Tryz.func145, ⟨⟨trivial, Tryz.func146, trivial⟩, Tryz.func147, trivial⟩⟩, Tryz.func148, ⟨⟨⟨trivial, Tryz.func149, trivial⟩, Tryz.func150, trivial⟩, Tryz.func151, ⟨⟨trivial, Tryz.func152, trivial⟩, Tryz.func181, trivial⟩⟩⟩⟩⟩, Tryz.func182, ⟨⟨⟨⟨⟨⟨trivial, Tryz.func183, trivial⟩, Tryz.func184, ⟨trivial, Tryz.func185, trivial⟩⟩, Tryz.func186, ⟨⟨trivial, Tryz.func187, trivial⟩, Tryz.func188, trivial⟩⟩, Tryz.func189, ⟨⟨⟨trivial, Tryz.func190, trivial⟩, Tryz.func191, ⟨trivial, Tryz.func192, trivial⟩⟩, Tryz.func193, ⟨⟨trivial, Tryz.func194, trivial⟩, Tryz.func214, trivial⟩⟩⟩, Tryz.func215, ⟨⟨⟨⟨trivial, Tryz.func216, trivial⟩, Tryz.func217, ⟨trivial, Tryz.func218, trivial⟩⟩, Tryz.func219, ⟨⟨trivial, Tryz.func220, trivial⟩, Tryz.func221, trivial⟩⟩, Tryz.func222, ⟨⟨⟨trivial, Tryz.func223, trivial⟩, Tryz.func224, trivial⟩, Tryz.func225, ⟨⟨trivial, Tryz.func226, trivial⟩, Tryz.func227, trivial⟩⟩⟩⟩, Tryz.func228, ⟨⟨⟨⟨⟨trivial, Tryz.func229, trivial⟩, Tryz.func230, ⟨trivial, Tryz.func231, trivial⟩⟩, Tryz.func232, ⟨⟨trivial, Tryz.func233, trivial⟩, Tryz.func234, trivial⟩⟩, Tryz.func235, ⟨⟨⟨trivial, Tryz.func236, trivial⟩, Tryz.func237, ⟨trivial, Tryz.func238, trivial⟩⟩, Tryz.func246, ⟨⟨trivial, Tryz.func247, trivial⟩, Tryz.func248, trivial⟩⟩⟩, Tryz.func249, ⟨⟨⟨⟨trivial, Tryz.func250, trivial⟩, Tryz.func251, ⟨trivial, Tryz.func252, trivial⟩⟩, Tryz.func253, ⟨⟨trivial, Tryz.func254, trivial⟩, Tryz.func255, trivial⟩⟩, Tryz.func256, ⟨⟨⟨trivial, Tryz.func257, trivial⟩, Tryz.func258, trivial⟩, Tryz.func260, ⟨⟨trivial, Tryz.func261, trivial⟩, Tryz.func262, trivial⟩⟩⟩⟩⟩⟩

def extT (k : Nat) : Option (List AV → H → Option (AV × H)) :=
  match Nat.beq k 39, Nat.beq k 82, Nat.beq k 83 with
  | true, _, _ => some extSplit
  | _, true, _ => some extCut
  | _, _, true => some extJoin
  | _, _, _ => none
noncomputable def cxT : Cx := { fn := fun n => match fnT.find n with | some f => comp Tryz.prog f | none => none, ext := extT }

theorem infoStr : (Tryz.prog.info? (Tryz.ly146_ren.t 9)).map (fun i => (i.zero, i.size, i.bytes)) = some (some (.string ByteArray.empty), 1, 16) := by kernel_rfl
theorem extraB : Builder.Extra Tryz.prog Tryz.ly156_ren where
  sizeBuilder := by kernel_rfl
  liesBuilder := by kernel_rfl
  t5 := Tryz.underlying5
  a5 := Tryz.isAgg5
  z5 := Tryz.sizeOf5
  v5 := Tryz.zeroValue5
  infoByte := by kernel_rfl
  cellsByte := by kernel_rfl
  sizeByte := by kernel_rfl
  neB5 := by decide
theorem extT_ok {f : Nat} {e : List AV → H → Option (AV × H)} (h : extT f = some e) {args : List AV} {h0 : H} {v : AV} {h' : H} (he : e args h0 = some (v, h')) :
    Grow h0 h' ∧ ∀ (σ : Ren) (w : World) (args' : List Value), HR σ h0 w → LR σ args args' → Fresh σ h0.next h'.next → CallRet Tryz.prog σ h0 w f args'.toArray v h' := by
  unfold extT at h
  split at h
  · rename_i q; injection h with h; subst h; rw [Nat.eq_of_beq_eq_true q]; exact extSplit_ok Tryz.ly146 infoStr he
  · rename_i q _; injection h with h; subst h; rw [Nat.eq_of_beq_eq_true q]; exact extCut_ok Tryz.ly145 he
  · rename_i q _ _; injection h with h; subst h; rw [Nat.eq_of_beq_eq_true q]; exact extJoin_ok Tryz.ly156 extraB he
  · cases h
theorem mixedT : Tryz.prog.follows .mixedOrders = true := by kernel_rfl
theorem cxT_ok : CxOk Tryz.prog cxT := by
  refine ⟨fun f cf h => ?_, fun f e h args h0 v h' he => (extT_ok h he).1, fun f e h args h0 v h' he => (extT_ok h he).2⟩
  simp only [cxT] at h
  split at h
  · rename_i fn q; exact ⟨fn, fnT_ok.get q, h⟩
  · cases h
def isTrue' : Cr → Bool | .ret (.bool true) _ => true | _ => false
theorem isTrue_inv {r : Cr} (h : isTrue' r = true) : ∃ h', r = .ret (.bool true) h' := by
  unfold isTrue' at h
  split at h
  · exact ⟨_, rfl⟩
  · cases h
end Go.Ab
