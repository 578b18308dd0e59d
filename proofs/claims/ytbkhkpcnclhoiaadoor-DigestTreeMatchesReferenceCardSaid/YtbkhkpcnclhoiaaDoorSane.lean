/- The contract of the statements' helper sane: it answers true. -/
import Derived.Test.YtbkhkpcnclhoiaaDoorHex
namespace Go.Proofs.YtbkhkpcnclhoiaaDoor
open Go.RowKit Go.Shelf
attribute [local go_sem] gAt gUpon
attribute [local simp] Gr.refl Gr.alloc

def sA : ByteArray := ⟨#[97]⟩
def sB : ByteArray := ⟨#[98]⟩
def sCc : ByteArray := ⟨#[99]⟩
def s3 : List ByteArray := [⟨#[97]⟩, ⟨#[98]⟩, ⟨#[99]⟩]
def abc : ByteArray := ⟨#[97, 98, 99]⟩
def hex0 : ByteArray := ⟨#[101, 51, 98, 48, 99, 52, 52, 50, 57, 56, 102, 99, 49, 99, 49, 52, 57, 97, 102, 98, 102, 52, 99, 56, 57, 57, 54, 102, 98, 57, 50, 52, 50, 55, 97, 101, 52, 49, 101, 52, 54, 52, 57, 98, 57, 51, 52, 99, 97, 52, 57, 53, 57, 57, 49, 98, 55, 56, 53, 50, 98, 56, 53, 53]⟩
def hexABC : ByteArray := ⟨#[98, 97, 55, 56, 49, 54, 98, 102, 56, 102, 48, 49, 99, 102, 101, 97, 52, 49, 52, 49, 52, 48, 100, 101, 53, 100, 97, 101, 50, 50, 50, 51, 98, 48, 48, 51, 54, 49, 97, 51, 57, 54, 49, 55, 55, 97, 57, 99, 98, 52, 49, 48, 102, 102, 54, 49, 102, 50, 48, 48, 49, 53, 97, 100]⟩
theorem hex0_eq : hexD (sha ⟨#[]⟩) = hex0 := by decide +kernel
theorem hexABC_eq : hexD (sha abc) = hexABC := by decide +kernel
theorem s3_proof : (proofD s3 2).length = 1 := by decide +kernel
theorem s3_ext : (extD s3 1 true).length = 2 := by decide +kernel
theorem s3_v1 : verD (rootD s3) 3 2 ⟨#[99]⟩ (proofD s3 2) = true := by decide +kernel
theorem s3_v2 : verD (rootD s3) 3 2 ⟨#[100]⟩ (proofD s3 2) = false := by decide +kernel
theorem s3_e1 : verED (rootD (s3.take 1)) 1 (rootD s3) 3 (extD s3 1 true) = true := by decide +kernel
theorem s3_e2 : verED (rootD (s3.take 2)) 1 (rootD s3) 3 (extD s3 1 true) = false := by decide +kernel
end Go.Proofs.YtbkhkpcnclhoiaaDoor
